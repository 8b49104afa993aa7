import Derived.Test.YtajekdeommaceaaXLatTh
import Derived.Test.YtajekdeommaceaaXLD
namespace Go.Eng.T
open Go.Proofs Go.Eng
set_option maxRecDepth 100000
set_option maxHeartbeats 0

structure Pu where
  s : Int
  b : Int
  k : Int
  l : Int
instance : Inhabited Pu := ⟨⟨0, 0, 0, 0⟩⟩
abbrev encP (p : Pu) : V := .agg [iv p.s, iv p.b, iv p.k, iv p.l]

theorem kT {K : V → List Obj → List Obj → Prop} {P : Prop} (hK : ∀ r, (r = true ↔ P) → K (bv r) [] []) (h : P) : K (bv true) [] [] := hK true ⟨fun _ => h, fun _ => rfl⟩
theorem kF {K : V → List Obj → List Obj → Prop} {P : Prop} (hK : ∀ r, (r = true ↔ P) → K (bv r) [] []) (h : ¬ P) : K (bv false) [] [] := hK false ⟨fun h1 => (nomatch h1), fun h1 => absurd h1 h⟩
abbrev fkA : List (Key × Bool) := [((998, 0), true)]

theorem isSource.ac (x : Int) {K : V → List Obj → List Obj → Prop} (hK : ∀ r, (r = true ↔ 0 ≤ x ∧ x < 4) → K (bv r) [] []) : AC Try.prog 64 [iv x] [] K := by
  refine ac_body (ann []) fkA hm htt Try.func64 rfl (by kernel_rfl) rfl rfl ?_
  conv => whnf
  refine in.ac _ _ _ fun r hr => ?_
  conv => whnf
  exact hK r (by rw [hr]; omega)
theorem isKey.ac (x : Int) {K : V → List Obj → List Obj → Prop} (hK : ∀ r, (r = true ↔ 0 ≤ x ∧ x ≤ 15) → K (bv r) [] []) : AC Try.prog 65 [iv x] [] K := by
  refine ac_body (ann []) fkA hm htt Try.func65 rfl (by kernel_rfl) rfl rfl ?_
  conv => whnf
  refine in.ac _ _ _ fun r hr => ?_
  conv => whnf
  exact hK r hr
theorem l04Src.ac (x : Int) {K : V → List Obj → List Obj → Prop} (hK : ∀ r, (r = true ↔ 0 ≤ x ∧ x < 4) → K (bv r) [] []) : AC Try.prog 67 [iv x] [] K := by
  refine ac_body (ann []) fkA hm htt Try.func67 rfl (by kernel_rfl) rfl rfl ?_
  conv => whnf
  refine bF_dec (fun h1 => ?_) (fun h1 => ?_)
  · conv => whnf
    refine bF_dec (fun h2 => ?_) (fun h2 => ?_)
    · conv => whnf
      exact kT hK ⟨h1, h2⟩
    · conv => whnf
      exact kF hK fun h => h2 h.2
  · conv => whnf
    exact kF hK fun h => h1 h.1
theorem l04Key.ac (x : Int) {K : V → List Obj → List Obj → Prop} (hK : ∀ r, (r = true ↔ 0 ≤ x ∧ x ≤ 15) → K (bv r) [] []) : AC Try.prog 68 [iv x] [] K := by
  refine ac_body (ann []) fkA hm htt Try.func68 rfl (by kernel_rfl) rfl rfl ?_
  conv => whnf
  refine bF_dec (fun h1 => ?_) (fun h1 => ?_)
  · conv => whnf
    refine bF_dec (fun h2 => ?_) (fun h2 => ?_)
    · conv => whnf
      exact kT hK ⟨h1, h2⟩
    · conv => whnf
      exact kF hK fun h => h2 h.2
  · conv => whnf
    exact kF hK fun h => h1 h.1
theorem l04Bits.ac (x : Int) {K : V → List Obj → List Obj → Prop} (hK : ∀ r, (r = true ↔ 0 ≤ x ∧ x ≤ 4) → K (bv r) [] []) : AC Try.prog 78 [iv x] [] K := by
  refine ac_body (ann []) fkA hm htt Try.func78 rfl (by kernel_rfl) rfl rfl ?_
  conv => whnf
  refine bF_dec (fun h1 => ?_) (fun h1 => ?_)
  · conv => whnf
    refine bF_dec (fun h2 => ?_) (fun h2 => ?_)
    · conv => whnf
      exact kT hK ⟨h1, h2⟩
    · conv => whnf
      exact kF hK fun h => h2 h.2
  · conv => whnf
    exact kF hK fun h => h1 h.1

theorem l04Pow.ac (n : Int) (h : 0 ≤ n ∧ n ≤ 16) {K : V → List Obj → List Obj → Prop} (hK : K (iv (2 ^ n.toNat)) [] []) : AC Try.prog 79 [iv n] [] K := by
  refine ac_body (ann [(2, [0, 3], [])]) [] hm htt Try.func79 rfl (by kernel_rfl) rfl rfl ?_
  conv => whnf
  refine cwF_loop (fun m st => ∃ j p : Int, (m = j.toNat ∧ 0 ≤ j ∧ j ≤ n ∧ p = 2 ^ (n - j).toNat) ∧ st = ⟨[iv j, .un, .un, iv p, .un, .un, .un, .un, .un, .un, .un], mkOb []⟩) n.toNat (by kernel_rfl) ⟨_, _, ?_, rfl⟩ ?_
  · exact ⟨rfl, by omega, by omega, by simp⟩
  · rintro m st ⟨j, p, ⟨rfl, h1, h2, hp⟩, rfl⟩
    conv => whnf
    refine vif_dec (fun h3 => ?_) (fun h3 => ?_)
    · conv => whnf
      refine ⟨by kernel_rfl, (j - 1).toNat, by omega, _, _, ?_, rfl⟩
      have e : (n - (j - 1)).toNat = (n - j).toNat + 1 := by omega
      have h4 : (2 : Nat) ^ (n - j).toNat ≤ 2 ^ 16 := Nat.pow_le_pow_right (by omega) (by omega)
      have h5 : p = ((2 ^ (n - j).toNat : Nat) : Int) := by rw [hp]; push_cast; rfl
      have h6 : 0 ≤ p ∧ p ≤ 65536 := by
        generalize (2 : Nat) ^ (n - j).toNat = q at h4 h5
        omega
      rw [wrap_i64 (x := j - 1) (by omega), wrap_i64 (x := 2 * p) (by omega)]
      exact ⟨rfl, by omega, by omega, by rw [hp, e, Int.pow_succ]; omega⟩
    · conv => whnf
      obtain rfl : j = 0 := by omega
      rw [hp, Int.sub_zero] at *
      exact hK
end Go.Eng.T

namespace Go.Eng.T
open Go.Proofs Go.Eng
set_option maxRecDepth 100000
set_option maxHeartbeats 0

def placeP (p : Pu) : Prop := (0 ≤ p.s ∧ p.s < 4) ∧ (0 ≤ p.b ∧ p.b ≤ 4) ∧ 0 ≤ p.k ∧ p.k ≤ 15
def frontK (b k : Int) : Int := k / 2 ^ (4 - b).toNat
def hasP (p : Pu) (src key : Int) : Prop := placeP p ∧ (0 ≤ key ∧ key ≤ 15) ∧ src = p.s ∧ frontK p.b key = frontK p.b p.k
def rightP (p : Pu) : Prop := placeP p ∧ p.k % 2 ^ (4 - p.b).toNat = 0
def lessP (a b : Pu) : Prop := a.s < b.s ∨ a.s = b.s ∧ (a.b < b.b ∨ a.b = b.b ∧ a.k < b.k)

theorem front.ac (p : Pu) (key : Int) (h : 0 ≤ p.b ∧ p.b ≤ 4) {K : V → List Obj → List Obj → Prop} (hK : K (iv (frontK p.b key)) [] []) : AC Try.prog 95 [encP p, iv key] [] K := by
  refine ac_body (ann []) [((998, 0), true), ((4, 0), true)] hm htt Try.func95 rfl (by kernel_rfl) rfl rfl ?_
  conv => whnf
  have e := wrap_i64 (x := 4 - p.b) (by omega)
  refine ⟨by omega, ?_⟩
  conv => whnf
  have e2 : key.fdiv (2 ^ min (IntKind.i64.wrap (4 - p.b)).toNat IntKind.i64.bits) = frontK p.b key := by
    rw [e, show min (4 - p.b).toNat IntKind.i64.bits = (4 - p.b).toNat from by show min (4 - p.b).toNat 64 = _; omega]
    have h2 : (0 : Int) < 2 ^ (4 - p.b).toNat := Int.pow_pos (by omega)
    exact Int.fdiv_eq_ediv_of_nonneg _ (by omega)
  rw [e2]
  exact hK

theorem isPlace.ac (p : Pu) {K : V → List Obj → List Obj → Prop} (hK : ∀ r, (r = true ↔ placeP p) → K (bv r) [] []) : AC Try.prog 70 [encP p] [] K := by
  refine ac_body (ann []) [((998, 0), true), ((3, 0), true)] hm htt Try.func70 rfl (by kernel_rfl) rfl rfl ?_
  conv => whnf
  refine isSource.ac _ fun r1 h1 => ?_
  conv => whnf
  cases r1
  · conv => whnf
    exact kF hK fun h => by have := h1.2 h.1; cases this
  conv => whnf
  refine in.ac _ _ _ fun r2 h2 => ?_
  conv => whnf
  cases r2
  · conv => whnf
    exact kF hK fun h => by have := h2.2 h.2.1; cases this
  conv => whnf
  refine isKey.ac _ fun r3 h3 => ?_
  conv => whnf
  exact hK r3 (by rw [h3]; exact ⟨fun h => ⟨h1.1 rfl, h2.1 rfl, h⟩, fun h => h.2.2⟩)

theorem matches.ac (p : Pu) (src key : Int) (h : 0 ≤ p.b ∧ p.b ≤ 4) {K : V → List Obj → List Obj → Prop} (hK : ∀ r, (r = true ↔ src = p.s ∧ frontK p.b key = frontK p.b p.k) → K (bv r) [] []) : AC Try.prog 71 [encP p, iv src, iv key] [] K := by
  refine ac_body (ann []) [((998, 0), true), ((5, 0), true)] hm htt Try.func71 rfl (by kernel_rfl) rfl rfl ?_
  conv => whnf
  refine bF_eq (fun h1 => ?_) (fun h1 => ?_)
  · conv => whnf
    refine ⟨by kernel_rfl, ?_⟩
    conv => whnf
    refine front.ac _ _ h ?_
    conv => whnf
    refine ⟨by kernel_rfl, ?_⟩
    conv => whnf
    refine front.ac _ _ h ?_
    conv => whnf
    refine bF_eq (fun h2 => ?_) (fun h2 => ?_)
    · conv => whnf
      refine ⟨by kernel_rfl, ?_⟩
      conv => whnf
      exact kT hK ⟨h1, h2⟩
    · conv => whnf
      refine ⟨by kernel_rfl, ?_⟩
      conv => whnf
      exact kF hK fun h => h2 h.2
  · conv => whnf
    repeat (refine ⟨by kernel_rfl, ?_⟩; conv => whnf)
    exact kF hK fun h => h1 h.1

theorem PunctHasI.ac (p : Pu) (src key : Int) {K : V → List Obj → List Obj → Prop} (hK : ∀ r, (r = true ↔ hasP p src key) → K (bv r) [] []) : AC Try.prog 32 [encP p, iv src, iv key] [] K := by
  refine ac_body (ann []) [((998, 0), true), ((5, 0), true)] hm htt Try.func32 rfl (by kernel_rfl) rfl rfl ?_
  conv => whnf
  refine isPlace.ac _ fun r1 h1 => ?_
  conv => whnf
  cases r1
  · conv => whnf
    exact kF hK fun h => by have := h1.2 h.1; cases this
  conv => whnf
  refine isKey.ac _ fun r2 h2 => ?_
  conv => whnf
  cases r2
  · conv => whnf
    exact kF hK fun h => by have := h2.2 h.2.1; cases this
  conv => whnf
  refine matches.ac _ _ _ (h1.1 rfl).2.1 fun r3 h3 => ?_
  conv => whnf
  exact hK r3 (by rw [h3]; exact ⟨fun h => ⟨h1.1 rfl, h2.1 rfl, h⟩, fun h => h.2.2⟩)

theorem tdiv_e {x y : Int} (h : 0 ≤ x) : x.tdiv y = x / y := Int.tdiv_eq_ediv_of_nonneg h
theorem pow_range {n : Nat} (h : n ≤ 4) : (1 : Int) ≤ 2 ^ n ∧ (2 : Int) ^ n ≤ 16 := by
  have : n = 0 ∨ n = 1 ∨ n = 2 ∨ n = 3 ∨ n = 4 := by omega
  rcases this with rfl | rfl | rfl | rfl | rfl <;> decide
theorem div_range {x d : Int} (h : 0 ≤ x ∧ x ≤ 100) (hd : 1 ≤ d ∧ d ≤ 16) : 0 ≤ x / d ∧ x / d ≤ 100 := by
  have h1 := Int.ediv_nonneg h.1 (by omega : 0 ≤ d)
  have h2 := Int.ediv_le_self d h.1
  omega

theorem PunctHasS.ac (p : Pu) (src key : Int) {K : V → List Obj → List Obj → Prop} (hK : ∀ r, (r = true ↔ hasP p src key) → K (bv r) [] []) : AC Try.prog 36 [encP p, iv src, iv key] [] K := by
  refine ac_body (ann []) [((998, 0), true), ((5, 0), true)] hm htt Try.func36 rfl (by kernel_rfl) rfl rfl ?_
  conv => whnf
  refine l04Src.ac _ fun r1 h1 => ?_
  conv => whnf
  cases r1
  · conv => whnf
    exact kF hK fun h => by have := h1.2 h.1.1; cases this
  conv => whnf
  refine l04Bits.ac _ fun r2 h2 => ?_
  conv => whnf
  cases r2
  · conv => whnf
    exact kF hK fun h => by have := h2.2 h.1.2.1; cases this
  conv => whnf
  refine bF_ne (fun h3 => ?_) (fun h3 => ?_)
  · conv => whnf
    exact kF hK fun h => h3 h.2.2.1.symm
  conv => whnf
  refine l04Key.ac _ fun r4 h4 => ?_
  conv => whnf
  cases r4
  · conv => whnf
    exact kF hK fun h => by have := h4.2 h.2.1; cases this
  conv => whnf
  refine l04Key.ac _ fun r5 h5 => ?_
  conv => whnf
  cases r5
  · conv => whnf
    exact kF hK fun h => by have := h5.2 h.1.2.2; cases this
  conv => whnf
  have b := h2.1 rfl
  have k1 := h4.1 rfl
  have k2 := h5.1 rfl
  have e := wrap_i64 (x := 4 - p.b) (by omega)
  refine l04Pow.ac _ (by omega) ?_
  conv => whnf
  have pr := pow_range (n := (IntKind.i64.wrap (4 - p.b)).toNat) (by omega)
  refine ⟨⟨rfl, by omega⟩, ?_⟩
  conv => whnf
  refine ⟨⟨rfl, by omega⟩, ?_⟩
  conv => whnf
  have d1 := div_range (x := key) (by omega) pr
  have d2 := div_range (x := p.k) (by omega) pr
  have e1 : IntKind.i64.wrap (key.tdiv (2 ^ (IntKind.i64.wrap (4 - p.b)).toNat)) = frontK p.b key := by rw [tdiv_e k1.1, wrap_i64 (by omega), e]; rfl
  have e2 : IntKind.i64.wrap (p.k.tdiv (2 ^ (IntKind.i64.wrap (4 - p.b)).toNat)) = frontK p.b p.k := by rw [tdiv_e k2.1, wrap_i64 (by omega), e]; rfl
  refine bF_eq (fun h6 => ?_) (fun h6 => ?_)
  · conv => whnf
    refine ⟨by kernel_rfl, ?_⟩
    conv => whnf
    exact kT hK ⟨⟨h1.1 rfl, b, k2⟩, k1, h3.symm, by rw [e1, e2] at h6; exact h6⟩
  · conv => whnf
    refine ⟨by kernel_rfl, ?_⟩
    conv => whnf
    exact kF hK fun h => h6 (by rw [e1, e2]; exact h.2.2.2)
end Go.Eng.T

namespace Go.Eng.T
open Go.Proofs Go.Eng
set_option maxRecDepth 100000
set_option maxHeartbeats 0

theorem tmod_e {x y : Int} (h : 0 ≤ x) : x.tmod y = x % y := Int.tmod_eq_emod_of_nonneg h

theorem l04Right.ac (p : Pu) {K : V → List Obj → List Obj → Prop} (hK : ∀ r, (r = true ↔ rightP p) → K (bv r) [] []) : AC Try.prog 82 [encP p] [] K := by
  refine ac_body (ann []) [((998, 0), true), ((3, 0), true)] hm htt Try.func82 rfl (by kernel_rfl) rfl rfl ?_
  conv => whnf
  repeat (refine ⟨by kernel_rfl, ?_⟩; conv => whnf)
  refine l04Src.ac _ fun r1 h1 => ?_
  conv => whnf
  cases r1
  · conv => whnf
    repeat (refine ⟨by kernel_rfl, ?_⟩; conv => whnf)
    exact kF hK fun h => by have := h1.2 h.1.1; cases this
  conv => whnf
  repeat (refine ⟨by kernel_rfl, ?_⟩; conv => whnf)
  refine l04Bits.ac _ fun r2 h2 => ?_
  conv => whnf
  cases r2
  · conv => whnf
    repeat (refine ⟨by kernel_rfl, ?_⟩; conv => whnf)
    exact kF hK fun h => by have := h2.2 h.1.2.1; cases this
  conv => whnf
  repeat (refine ⟨by kernel_rfl, ?_⟩; conv => whnf)
  refine l04Key.ac _ fun r3 h3 => ?_
  conv => whnf
  cases r3
  · conv => whnf
    repeat (refine ⟨by kernel_rfl, ?_⟩; conv => whnf)
    exact kF hK fun h => by have := h3.2 h.1.2.2; cases this
  conv => whnf
  have b := h2.1 rfl
  have k2 := h3.1 rfl
  have e := wrap_i64 (x := 4 - p.b) (by omega)
  repeat (refine ⟨by kernel_rfl, ?_⟩; conv => whnf)
  refine l04Pow.ac _ (by omega) ?_
  conv => whnf
  have pr := pow_range (n := (IntKind.i64.wrap (4 - p.b)).toNat) (by omega)
  refine ⟨⟨rfl, by omega⟩, ?_⟩
  conv => whnf
  have e1 : p.k.tmod (2 ^ (IntKind.i64.wrap (4 - p.b)).toNat) = p.k % 2 ^ (4 - p.b).toNat := by rw [tmod_e k2.1, e]
  refine bF_eq (fun h6 => ?_) (fun h6 => ?_)
  · conv => whnf
    refine ⟨by kernel_rfl, ?_⟩
    conv => whnf
    exact kT hK ⟨⟨h1.1 rfl, b, k2⟩, by rw [e1] at h6; exact h6⟩
  · conv => whnf
    refine ⟨by kernel_rfl, ?_⟩
    conv => whnf
    exact kF hK fun h => h6 (by rw [e1]; exact h.2)

theorem isPunct.ac (N : Int) (up : List Int) (p : Pu) (hN : -1000 ≤ N ∧ N ≤ 9223372036854775807) {K : V → List Obj → List Obj → Prop} (hK : ∀ r, (r = true ↔ rightP p ∧ 0 ≤ p.l ∧ p.l < N) → K (bv r) [] []) : AC Try.prog 76 [latV N up, encP p] [] K := by
  refine ac_body (ann []) [((998, 0), true), ((4, 0), true), ((5, 0), true)] hm htt Try.func76 rfl (by kernel_rfl) rfl rfl ?_
  conv => whnf
  repeat (refine ⟨by kernel_rfl, ?_⟩; conv => whnf)
  refine isPlace.ac _ fun r1 h1 => ?_
  conv => whnf
  cases r1
  · conv => whnf
    repeat (refine ⟨by kernel_rfl, ?_⟩; conv => whnf)
    exact kF hK fun h => by have := h1.2 h.1.1; cases this
  have pl := h1.1 rfl
  obtain ⟨ps, b, k2⟩ := id pl
  have e := wrap_i64 (x := 4 - p.b) (by omega)
  conv => whnf
  repeat (refine ⟨by kernel_rfl, ?_⟩; conv => whnf)
  refine front.ac _ _ b ?_
  conv => whnf
  refine ⟨by omega, ?_⟩
  conv => whnf
  have pr := pow_range (n := (4 - p.b).toNat) (by omega)
  have fr : IntKind.i64.wrap (frontK p.b p.k * 2 ^ min (IntKind.i64.wrap (4 - p.b)).toNat IntKind.i64.bits) = p.k ↔ p.k % 2 ^ (4 - p.b).toNat = 0 := by
    rw [e, show min (4 - p.b).toNat IntKind.i64.bits = (4 - p.b).toNat from by show min (4 - p.b).toNat 64 = _; omega]
    have h7 := Int.emod_add_mul_ediv p.k (2 ^ (4 - p.b).toNat)
    have h8 := Int.emod_nonneg p.k (by omega : (2 : Int) ^ (4 - p.b).toNat ≠ 0)
    have h9 : frontK p.b p.k * 2 ^ (4 - p.b).toNat = 2 ^ (4 - p.b).toNat * (p.k / 2 ^ (4 - p.b).toNat) := Int.mul_comm _ _
    have h10 : 0 ≤ (2 : Int) ^ (4 - p.b).toNat * (p.k / 2 ^ (4 - p.b).toNat) := Int.mul_nonneg (by omega) (Int.ediv_nonneg k2.1 (by omega))
    rw [h9, wrap_i64 (by omega)]
    omega
  refine bF_eq (fun h6 => ?_) (fun h6 => ?_)
  · conv => whnf
    repeat (refine ⟨by kernel_rfl, ?_⟩; conv => whnf)
    refine has.ac _ _ _ hN fun r3 h3 => ?_
    conv => whnf
    repeat (refine ⟨by kernel_rfl, ?_⟩; conv => whnf)
    exact hK r3 (by rw [h3]; exact ⟨fun h => ⟨⟨pl, fr.1 h6⟩, h⟩, fun h => h.2⟩)
  · conv => whnf
    repeat (refine ⟨by kernel_rfl, ?_⟩; conv => whnf)
    exact kF hK fun h => h6 (fr.2 h.1.2)

theorem l01Here.ac (N : Int) (up : List Int) (a : Int) {K : V → List Obj → List Obj → Prop} (hK : ∀ r, (r = true ↔ 0 ≤ a ∧ a < N) → K (bv r) [] []) : AC Try.prog 81 [latV N up, iv a] [] K := by
  refine ac_body (ann []) [((998, 0), true), ((4, 0), true)] hm htt Try.func81 rfl (by kernel_rfl) rfl rfl ?_
  conv => whnf
  refine bF_dec (fun h1 => ?_) (fun h1 => ?_)
  · conv => whnf
    refine bF_dec (fun h2 => ?_) (fun h2 => ?_)
    · conv => whnf
      exact kT hK ⟨h1, h2⟩
    · conv => whnf
      exact kF hK fun h => h2 h.2
  · conv => whnf
    exact kF hK fun h => h1 h.1

theorem PunctOkS.ac (N : Int) (up : List Int) (p : Pu) {K : V → List Obj → List Obj → Prop} (hK : ∀ r, (r = true ↔ (LatP N up ∧ 0 ≤ p.l ∧ p.l < N) ∧ rightP p) → K (bv r) [] []) : AC Try.prog 73 [latV N up, encP p] [] K := by
  refine ac_body (ann []) [((998, 0), true), ((4, 0), true), ((5, 0), true)] hm htt Try.func73 rfl (by kernel_rfl) rfl rfl ?_
  conv => whnf
  refine l01Label.ac _ _ _ fun r1 h1 => ?_
  conv => whnf
  cases r1
  · conv => whnf
    exact kF hK fun h => by have := h1.2 h.1; cases this
  conv => whnf
  refine l04Right.ac _ fun r2 h2 => ?_
  conv => whnf
  exact hK r2 (by rw [h2]; exact ⟨fun h => ⟨h1.1 rfl, h⟩, fun h => h.2⟩)

theorem less.ac (a b : Pu) {K : V → List Obj → List Obj → Prop} (hK : ∀ r, (r = true ↔ lessP a b) → K (bv r) [] []) : AC Try.prog 75 [encP a, encP b] [] K := by
  refine ac_body (ann []) [((998, 0), true), ((4, 0), true), ((5, 0), true)] hm htt Try.func75 rfl (by kernel_rfl) rfl rfl ?_
  conv => whnf
  refine bF_ne (fun h1 => ?_) (fun h1 => ?_)
  · conv => whnf
    refine bF_dec (fun h2 => ?_) (fun h2 => ?_)
    · conv => whnf
      exact kT hK (.inl h2)
    · conv => whnf
      exact kF hK fun h => by unfold lessP at h; omega
  conv => whnf
  refine bF_ne (fun h3 => ?_) (fun h3 => ?_)
  · conv => whnf
    refine bF_dec (fun h2 => ?_) (fun h2 => ?_)
    · conv => whnf
      exact kT hK (.inr ⟨h1, .inl h2⟩)
    · conv => whnf
      exact kF hK fun h => by unfold lessP at h; omega
  conv => whnf
  refine bF_dec (fun h2 => ?_) (fun h2 => ?_)
  · conv => whnf
    exact kT hK (.inr ⟨h1, .inr ⟨h3, h2⟩⟩)
  · conv => whnf
    exact kF hK fun h => by unfold lessP at h; omega

def oneP (a b : Pu) : Prop := a.s = b.s ∧ a.b = b.b ∧ a.k = b.k
theorem one.ac (a b : Pu) {K : V → List Obj → List Obj → Prop} (hK : ∀ r, (r = true ↔ oneP a b) → K (bv r) [] []) : AC Try.prog 96 [encP a, encP b] [] K := by
  refine ac_body (ann []) [((998, 0), true), ((4, 0), true), ((5, 0), true)] hm htt Try.func96 rfl (by kernel_rfl) rfl rfl ?_
  conv => whnf
  refine bF_eq (fun h1 => ?_) (fun h1 => ?_)
  rotate_left
  · conv => whnf
    exact kF hK fun h => h1 h.1
  conv => whnf
  refine bF_eq (fun h2 => ?_) (fun h2 => ?_)
  rotate_left
  · conv => whnf
    exact kF hK fun h => h2 h.2.1
  conv => whnf
  refine bF_eq (fun h3 => ?_) (fun h3 => ?_)
  · conv => whnf
    exact kT hK ⟨h1, h2, h3⟩
  · conv => whnf
    exact kF hK fun h => h3 h.2.2

def cmpI (x y : Int) : Int := if x < y then -1 else if x > y then 1 else 0
theorem isNaN.ac (x : Int) {K : V → List Obj → List Obj → Prop} (hK : K (bv false) [] []) : AC Try.prog 122 [iv x] [] K := by
  refine ac_body (ann []) [((998, 0), true)] hm htt Try.func122 rfl (by kernel_rfl) rfl rfl ?_
  conv => whnf
  refine bF_ne (fun h1 => absurd rfl h1) (fun _ => ?_)
  conv => whnf
  exact hK
theorem Compare.ac (x y : Int) {K : V → List Obj → List Obj → Prop} (hK : K (iv (cmpI x y)) [] []) : AC Try.prog 110 [iv x, iv y] [] K := by
  refine ac_body (ann []) [((998, 0), true)] hm htt Try.func110 rfl (by kernel_rfl) rfl rfl ?_
  conv => whnf
  refine isNaN.ac _ ?_
  conv => whnf
  refine isNaN.ac _ ?_
  conv => whnf
  unfold cmpI at hK
  refine bF_dec (fun h1 => ?_) (fun h1 => ?_)
  · conv => whnf
    rw [if_pos h1] at hK
    exact hK
  conv => whnf
  rw [if_neg h1] at hK
  refine bF_dec (fun h2 => ?_) (fun h2 => ?_)
  · conv => whnf
    rw [if_pos h2] at hK
    exact hK
  · conv => whnf
    rw [if_neg h2] at hK
    exact hK
def orI (x y z : Int) : Int := if x ≠ 0 then x else if y ≠ 0 then y else z
theorem Or.ac (x y z : Int) {K : V → List Obj → List Obj → Prop} (hK : K (iv (orI x y z)) [] []) : AC Try.prog 109 [.is 1 [iv x, iv y, iv z]] [] K := by
  refine ac_body (ann [(3, [3, 6, 7, 8], [])]) [((998, 0), true)] hm htt Try.func109 rfl (by kernel_rfl) rfl rfl ?_
  conv => whnf
  refine cwF_loop (fun m st => (m = 3 ∧ st = ⟨[.un, .un, .un, iv 0, .un, .un, .is 1 [iv x, iv y, iv z], iv 3, iv 0] ++ List.replicate 9 .un, mkOb []⟩) ∨
    (m = 2 ∧ x = 0 ∧ st = ⟨[.un, .un, .un, iv 0, .un, .un, .is 1 [iv x, iv y, iv z], iv 3, iv 1] ++ List.replicate 9 .un, mkOb []⟩) ∨
    (m = 1 ∧ x = 0 ∧ y = 0 ∧ st = ⟨[.un, .un, .un, iv 0, .un, .un, .is 1 [iv x, iv y, iv z], iv 3, iv 2] ++ List.replicate 9 .un, mkOb []⟩) ∨
    (m = 0 ∧ x = 0 ∧ y = 0 ∧ z = 0 ∧ st = ⟨[.un, .un, .un, iv 0, .un, .un, .is 1 [iv x, iv y, iv z], iv 3, iv 3] ++ List.replicate 9 .un, mkOb []⟩)) 3 (by kernel_rfl) (.inl ⟨rfl, rfl⟩) ?_
  unfold orI at hK
  rintro m st (⟨rfl, rfl⟩ | ⟨rfl, h1, rfl⟩ | ⟨rfl, h1, h2, rfl⟩ | ⟨rfl, h1, h2, h3, rfl⟩)
  · conv => whnf
    refine ⟨⟨rfl, by decide, by simp⟩, ?_⟩
    conv => whnf
    refine ⟨_, rfl, ?_⟩
    conv => whnf
    refine bF_ne (fun h => ?_) (fun h => ?_)
    · conv => whnf
      rw [if_pos h] at hK
      exact hK
    · conv => whnf
      exact ⟨by kernel_rfl, 2, by decide, .inr (.inl ⟨rfl, h, rfl⟩)⟩
  · conv => whnf
    refine ⟨⟨rfl, by decide, by simp⟩, ?_⟩
    conv => whnf
    refine ⟨_, rfl, ?_⟩
    conv => whnf
    rw [if_neg (by omega)] at hK
    refine bF_ne (fun h => ?_) (fun h => ?_)
    · conv => whnf
      rw [if_pos h] at hK
      exact hK
    · conv => whnf
      exact ⟨by kernel_rfl, 1, by decide, .inr (.inr (.inl ⟨rfl, h1, h, rfl⟩))⟩
  · conv => whnf
    refine ⟨⟨rfl, by decide, by simp⟩, ?_⟩
    conv => whnf
    refine ⟨_, rfl, ?_⟩
    conv => whnf
    rw [if_neg (by omega), if_neg (by omega)] at hK
    refine bF_ne (fun h => ?_) (fun h => ?_)
    · conv => whnf
      exact hK
    · conv => whnf
      exact ⟨by kernel_rfl, 0, by decide, .inr (.inr (.inr ⟨rfl, h1, h2, h, rfl⟩))⟩
  · conv => whnf
    rw [if_neg (by omega), if_neg (by omega)] at hK
    subst h3
    exact hK

def cmpP (a b : Pu) : Int := orI (cmpI a.s b.s) (cmpI a.b b.b) (cmpI a.k b.k)
theorem cmpP_lt {a b : Pu} : cmpP a b < 0 ↔ lessP a b := by
  unfold cmpP lessP orI cmpI
  repeat' split
  all_goals omega
theorem comparePuncts.ac (a b : Pu) {K : V → List Obj → List Obj → Prop} (hK : K (iv (cmpP a b)) [] []) : AC Try.prog 99 [encP a, encP b] [] K := by
  refine ac_body (annI [(109, [0])] []) [((998, 0), true), ((4, 0), true), ((5, 0), true), ((22, 0), true)] hm htt Try.func99 rfl (by kernel_rfl) rfl rfl ?_
  conv => whnf
  refine ⟨by kernel_rfl, ?_⟩
  conv => whnf
  refine Compare.ac _ _ ?_
  conv => whnf
  refine ⟨by kernel_rfl, ?_⟩
  conv => whnf
  refine Compare.ac _ _ ?_
  conv => whnf
  refine ⟨by kernel_rfl, ?_⟩
  conv => whnf
  refine Compare.ac _ _ ?_
  conv => whnf
  repeat (refine ⟨by kernel_rfl, ?_⟩; conv => whnf)
  refine Or.ac _ _ _ ?_
  conv => whnf
  repeat (refine ⟨by kernel_rfl, ?_⟩; conv => whnf)
  exact hK
end Go.Eng.T

namespace Go.Eng.T
open Go.Proofs Go.Eng
set_option maxRecDepth 100000
set_option maxHeartbeats 0

/-- The entries are right, up to the lattice: L says that it is one. -/
def GoodTo (N : Int) (ps : List Pu) (n : Nat) : Prop := ∀ i : Nat, i < n → (rightP (ps.getD i default) ∧ 0 ≤ (ps.getD i default).l ∧ (ps.getD i default).l < N) ∧ (0 < i → lessP (ps.getD (i - 1) default) (ps.getD i default))
def PolOk (L : Prop) (N : Int) (ps : List Pu) : Prop := L ∧ ps.length ≤ 12 ∧ GoodTo N ps ps.length
theorem GoodTo.succ {N : Int} {ps : List Pu} {n : Nat} (h : GoodTo N ps n) (h1 : rightP (ps.getD n default) ∧ 0 ≤ (ps.getD n default).l ∧ (ps.getD n default).l < N) (h2 : 0 < n → lessP (ps.getD (n - 1) default) (ps.getD n default)) : GoodTo N ps (n + 1) := fun i hi => by
  rcases (by omega : i < n ∨ i = n) with h3 | rfl
  · exact h i h3
  · exact ⟨h1, h2⟩

theorem isPolicy.ac (M : Nat) (up : List Int) (ps : List Pu) (hM : M ≤ 16) (hp : ps.length ≤ 1000000) {K : V → List Obj → List Obj → Prop} (hK : ∀ r, (r = true ↔ ps.length ≤ 12 ∧ GoodTo M ps ps.length) → K (bv r) [] []) : AC Try.prog 93 [latV M up, .is 4 (ps.map encP)] [] K := by
  have hl : (ps.map encP).length = ps.length := List.length_map ..
  refine ac_body (ann [(2, [1, 2, 7, 8, 9], [(4, 0)])]) [((998, 0), true), ((4, 0), true), ((8, 0), true)] hm htt Try.func93 rfl (by kernel_rfl) rfl rfl ?_
  conv => whnf
  refine cwF_loop (fun n st => ∃ (z : Int) (i : Nat), (z = i ∧ n = ps.length - i ∧ i ≤ ps.length ∧ GoodTo M ps i) ∧
    st = ⟨[.un, .is 4 (ps.map encP), .lp (4, 0) 2 0 0, .un, .un, .un, .un, .is 4 (ps.map encP), iv (ps.map encP).length, iv z] ++ List.replicate 26 .un, mkOb [((4, 0), some (.arr false 2 [latV M up]))]⟩) ps.length (by kernel_rfl) ⟨0, 0, ?_, rfl⟩ ?_
  · exact ⟨rfl, by simp, by omega, fun i hi => by omega⟩
  rintro n st ⟨z, i, ⟨rfl, rfl, i2, i3⟩, rfl⟩
  conv => whnf
  refine bF_dec (fun i4 => ?_) (fun i4 => ?_)
  · conv => whnf
    refine ⟨⟨rfl, by omega, by omega⟩, ?_⟩
    conv => whnf
    refine ⟨_, map_get (by omega), ?_⟩
    conv => whnf
    refine ⟨by kernel_rfl, ?_⟩
    conv => whnf
    refine isPunct.ac M up (ps.getD i default) (by omega) fun r1 h1 => ?_
    have step : IntKind.i64.wrap ((i : Int) + 1) = ((i + 1 : Nat) : Int) := wrap_i64 (by omega)
    cases r1
    · conv => whnf
      repeat (refine ⟨by kernel_rfl, ?_⟩; conv => whnf)
      exact kF hK fun h => by have := h1.2 (h.2 i (by omega)).1; cases this
    have g1 := h1.1 rfl
    conv => whnf
    refine bF_dec (fun i5 => ?_) (fun i5 => ?_)
    · conv => whnf
      have e1 := wrap_i64 (x := (i : Int) - 1) (by omega)
      refine ⟨⟨rfl, by omega, by omega⟩, ?_⟩
      conv => whnf
      refine ⟨_, map_get (by omega), ?_⟩
      conv => whnf
      refine ⟨by kernel_rfl, ?_⟩
      conv => whnf
      have e2 : (IntKind.i64.wrap ((i : Int) - 1)).toNat = i - 1 := by omega
      refine comparePuncts.ac (ps.getD (IntKind.i64.wrap ((i : Int) - 1)).toNat default) (ps.getD i default) ?_
      conv => whnf
      refine bF_dec (fun i6 => ?_) (fun i6 => ?_)
      · conv => whnf
        repeat (refine ⟨by kernel_rfl, ?_⟩; conv => whnf)
        refine kF hK fun h => ?_
        have h7 := (h.2 i (by omega)).2 (by omega)
        rw [e2] at i6
        have := cmpP_lt.2 h7
        omega
      · conv => whnf
        refine ⟨by kernel_rfl, ?_⟩
        conv => whnf
        refine ⟨by kernel_rfl, ps.length - (i + 1), by omega, _, i + 1, ⟨step, rfl, by omega, i3.succ g1 fun _ => ?_⟩, rfl⟩
        rw [e2] at i6
        exact cmpP_lt.1 (by omega)
    · conv => whnf
      repeat (refine ⟨by kernel_rfl, ?_⟩; conv => whnf)
      refine ⟨ps.length - (i + 1), by omega, _, i + 1, ⟨step, rfl, by omega, i3.succ g1 fun h => by omega⟩, rfl⟩
  · conv => whnf
    refine bF_dec (fun i5 => ?_) (fun i5 => ?_)
    · conv => whnf
      exact kT hK ⟨by omega, by rw [show ps.length = i by omega]; exact i3⟩
    · conv => whnf
      exact kF hK fun h => by omega

theorem PolicyOkI.ac (N : Int) (up : List Int) (ps : List Pu) (hp : ps.length ≤ 1000000) {K : V → List Obj → List Obj → Prop} (hK : ∀ r, (r = true ↔ PolOk (LatI N up) N ps) → K (bv r) [] []) : AC Try.prog 63 [latV N up, .is 4 (ps.map encP)] [] K := by
  refine ac_body (ann []) [((998, 0), true), ((4, 0), true)] hm htt Try.func63 rfl (by kernel_rfl) rfl rfl ?_
  conv => whnf
  refine isLat.ac _ _ fun r1 h1 => ?_
  conv => whnf
  cases r1
  · conv => whnf
    exact kF hK fun h => by have := h1.2 h.1; cases this
  conv => whnf
  have hI := h1.1 rfl
  obtain ⟨M, rfl⟩ : ∃ M : Nat, N = M := ⟨N.toNat, by have := hI.1; omega⟩
  refine isPolicy.ac M up ps (by have := hI.2.1; omega) hp fun r2 h2 => ?_
  conv => whnf
  exact hK r2 (by rw [h2]; exact ⟨fun h => ⟨hI, h⟩, fun h => h.2⟩)

theorem PolicyOkS.ac (N : Int) (up : List Int) (ps : List Pu) (hp : ps.length ≤ 1000000) {K : V → List Obj → List Obj → Prop} (hK : ∀ r, (r = true ↔ PolOk (LatP N up) N ps) → K (bv r) [] []) : AC Try.prog 38 [latV N up, .is 4 (ps.map encP)] [] K := by
  have hl : (ps.map encP).length = ps.length := List.length_map ..
  refine ac_body (ann [(4, [1, 2, 5], [(4, 0)])]) [((998, 0), true), ((4, 0), true)] hm htt Try.func38 rfl (by kernel_rfl) rfl rfl ?_
  conv => whnf
  refine LatOkS.ac _ _ fun r1 h1 => ?_
  conv => whnf
  cases r1
  · conv => whnf
    exact kF hK fun h => by have := h1.2 h.1; cases this
  conv => whnf
  have hP := h1.1 rfl
  refine bF_dec (fun i5 => ?_) (fun i5 => ?_)
  · conv => whnf
    exact kF hK fun h => by have := h.2.1; omega
  conv => whnf
  refine cwF_loop (fun n st => ∃ (z : Int) (i : Nat), (z = i ∧ n = ps.length - i ∧ i ≤ ps.length ∧ GoodTo N ps i) ∧
    st = ⟨[.un, .is 4 (ps.map encP), .lp (4, 0) 2 0 0, .un, .un, iv z] ++ List.replicate 47 .un, mkOb [((4, 0), some (.arr false 2 [latV N up]))]⟩) ps.length (by kernel_rfl) ⟨0, 0, ?_, rfl⟩ ?_
  · exact ⟨rfl, by simp, by omega, fun i hi => by omega⟩
  rintro n st ⟨z, i, ⟨rfl, rfl, i2, i3⟩, rfl⟩
  conv => whnf
  refine bF_dec (fun i4 => ?_) (fun i4 => ?_)
  · conv => whnf
    refine ⟨⟨rfl, by omega, by omega⟩, ?_⟩
    conv => whnf
    refine ⟨_, map_get (by omega), ?_⟩
    conv => whnf
    refine ⟨by kernel_rfl, ?_⟩
    conv => whnf
    have step : IntKind.i64.wrap ((i : Int) + 1) = ((i + 1 : Nat) : Int) := wrap_i64 (by omega)
    refine l01Here.ac N up (ps.getD i default).l fun r1 h1 => ?_
    cases r1
    · conv => whnf
      repeat (refine ⟨by kernel_rfl, ?_⟩; conv => whnf)
      exact kF hK fun h => by have := h1.2 (h.2.2 i (by omega)).1.2; cases this
    have g1 := h1.1 rfl
    conv => whnf
    refine ⟨⟨rfl, by omega, by omega⟩, ?_⟩
    conv => whnf
    refine ⟨_, map_get (by omega), ?_⟩
    conv => whnf
    refine ⟨by kernel_rfl, ?_⟩
    conv => whnf
    refine l04Right.ac (ps.getD i default) fun r2 h2 => ?_
    cases r2
    · conv => whnf
      repeat (refine ⟨by kernel_rfl, ?_⟩; conv => whnf)
      exact kF hK fun h => by have := h2.2 (h.2.2 i (by omega)).1.1; cases this
    have g2 := h2.1 rfl
    conv => whnf
    refine bF_dec (fun i5 => ?_) (fun i5 => ?_)
    · conv => whnf
      have e1 := wrap_i64 (x := (i : Int) - 1) (by omega)
      refine ⟨⟨rfl, by omega, by omega⟩, ?_⟩
      conv => whnf
      refine ⟨_, map_get (by omega), ?_⟩
      conv => whnf
      refine ⟨⟨rfl, by omega, by omega⟩, ?_⟩
      conv => whnf
      refine ⟨_, map_get (by omega), ?_⟩
      conv => whnf
      refine ⟨by kernel_rfl, ?_⟩
      conv => whnf
      have e2 : (IntKind.i64.wrap ((i : Int) - 1)).toNat = i - 1 := by omega
      refine less.ac (ps.getD (IntKind.i64.wrap ((i : Int) - 1)).toNat default) (ps.getD i default) fun r3 h3 => ?_
      cases r3
      · conv => whnf
        repeat (refine ⟨by kernel_rfl, ?_⟩; conv => whnf)
        refine kF hK fun h => ?_
        have h7 := (h.2.2 i (by omega)).2 (by omega)
        rw [e2] at h3
        have := h3.2 h7
        cases this
      · conv => whnf
        refine ⟨by kernel_rfl, ?_⟩
        conv => whnf
        refine ⟨by kernel_rfl, ps.length - (i + 1), by omega, _, i + 1, ⟨step, rfl, by omega, i3.succ ⟨g2, g1⟩ fun _ => ?_⟩, rfl⟩
        rw [e2] at h3
        exact h3.1 rfl
    · conv => whnf
      repeat (refine ⟨by kernel_rfl, ?_⟩; conv => whnf)
      refine ⟨ps.length - (i + 1), by omega, _, i + 1, ⟨step, rfl, by omega, i3.succ ⟨g2, g1⟩ fun h => by omega⟩, rfl⟩
  · conv => whnf
    exact kT hK ⟨hP, by omega, by rw [show ps.length = i by omega]; exact i3⟩

theorem endTo_one {N : Nat} {up : List Int} {u : Bool} (h : LatI N up) : endTo N up u 1 = 0 := by
  have h1 := h.1
  show bound N up 0 ((0 : Nat) : Int) u = 0
  exact bound_is h ⟨by omega, by omega⟩ ⟨by simp, by omega⟩ ⟨by omega, by omega⟩ (side_refl h ⟨by omega, by omega⟩) (side_refl h ⟨by omega, by omega⟩) fun _ _ _ h _ => h

theorem LatEndsS.ac (M : Nat) (up : List Int) (hI : LatI M up) (hP : LatP M up) {K : V → List Obj → List Obj → Prop} (hK : K (.tup [iv (endTo M up false M), iv (endTo M up true M)]) [] []) : AC Try.prog 69 [latV M up] [] K := by
  have hM := hI.2.1
  have hM1 := hI.1
  have hu := hI.2.2.1
  refine ac_body (ann [(6, [1, 4, 5, 6], [(3, 0)])]) [((998, 0), true), ((3, 0), true)] hm htt Try.func69 rfl (by kernel_rfl) rfl rfl ?_
  conv => whnf
  refine LatOkS.ac _ _ fun r1 h1 => ?_
  obtain rfl : r1 = true := h1.2 hP
  conv => whnf
  refine cwF_loop (fun n st => ∃ (z x y : Int) (i : Nat), (z = i ∧ n = M - i ∧ 1 ≤ i ∧ i ≤ M ∧ x = endTo M up false i ∧ y = endTo M up true i) ∧
    st = ⟨[.un, .lp (3, 0) 2 0 0, .un, .un, iv x, iv y, iv z] ++ List.replicate 19 .un, mkOb [((3, 0), some (.arr false 2 [latV M up]))]⟩) (M - 1) (by kernel_rfl) ⟨_, _, _, 1, ?_, rfl⟩ ?_
  · exact ⟨rfl, by omega, by omega, by omega, (endTo_one hI).symm, (endTo_one hI).symm⟩
  rintro n st ⟨z, x, y, i, ⟨rfl, rfl, i1, i2, ex, ey⟩, rfl⟩
  have hx := endTo_ok (u := false) hI i (by omega)
  have hy := endTo_ok (u := true) hI i (by omega)
  rw [← ex] at hx
  rw [← ey] at hy
  conv => whnf
  refine bF_dec (fun i4 => ?_) (fun i4 => ?_)
  · conv => whnf
    refine l01Bound.ac _ _ _ _ _ (by omega) (by omega) hx (by omega) fun r1 s1 => ?_
    conv => whnf
    refine l01Bound.ac _ _ _ _ _ (by omega) (by omega) hy (by omega) fun r2 s2 => ?_
    conv => whnf
    refine ⟨by kernel_rfl, M - (i + 1), by omega, _, _, _, i + 1, ⟨wrap_i64 (by omega), rfl, by omega, by omega, ?_, ?_⟩, rfl⟩
    · rw [endTo, ← ex]; exact s1.symm
    · rw [endTo, ← ey]; exact s2.symm
  · conv => whnf
    obtain rfl : i = M := by omega
    subst ex ey
    exact hK

theorem top.ac (M : Nat) (up : List Int) (hI : LatI M up) {K : V → List Obj → List Obj → Prop} (hK : K (iv (endTo M up true M)) [] []) : AC Try.prog 94 [latV M up] [] K := by
  refine ac_body (ann []) [((998, 0), true), ((3, 0), true)] hm htt Try.func94 rfl (by kernel_rfl) rfl rfl ?_
  conv => whnf
  refine ends.ac _ _ hI fun x y hx hy => ?_
  conv => whnf
  subst hy
  exact hK
end Go.Eng.T

namespace Go.Eng.T
open Go.Proofs Go.Eng
set_option maxRecDepth 100000
set_option maxHeartbeats 0
open Classical in
/-- The best entry so far: its label and its bits. -/
noncomputable def stepB (src key : Int) (t : Int × Int) (p : Pu) : Int × Int := if p.b > t.2 ∧ hasP p src key then (p.l, p.b) else t
noncomputable def polFor (M : Nat) (up : List Int) (ps : List Pu) (src key : Int) : Int := (ps.foldl (stepB src key) (endTo M up true M, -1)).1
/-- What PolicyFor gives; L says that the lattice is one. -/
def ForP (L : Prop) (N : Int) (up : List Int) (ps : List Pu) (src key r : Int) : Prop :=
  (PolOk L N ps ∧ (0 ≤ src ∧ src < 4) ∧ (0 ≤ key ∧ key ≤ 15) → r = polFor N.toNat up ps src key) ∧ (¬ (PolOk L N ps ∧ (0 ≤ src ∧ src < 4) ∧ (0 ≤ key ∧ key ≤ 15)) → r = -1)

theorem stepB_yes {src key : Int} {t : Int × Int} {p : Pu} (h : p.b > t.2) (h2 : hasP p src key) : stepB src key t p = (p.l, p.b) := if_pos ⟨h, h2⟩
theorem stepB_no {src key : Int} {t : Int × Int} {p : Pu} (h : ¬ (p.b > t.2 ∧ hasP p src key)) : stepB src key t p = t := if_neg h
theorem take_fold {ps : List Pu} {i : Nat} (h : i < ps.length) {src key : Int} {t : Int × Int} : (ps.take (i + 1)).foldl (stepB src key) t = stepB src key ((ps.take i).foldl (stepB src key) t) (ps.getD i default) := by
  rw [List.take_add_one, List.getElem?_eq_getElem h, List.foldl_append, List.getD_eq_getElem?_getD, List.getElem?_eq_getElem h]; rfl

theorem labelFor.ac (M : Nat) (up : List Int) (ps : List Pu) (src key : Int) (hI : LatI M up) (hg : GoodTo M ps ps.length) (hp : ps.length ≤ 12) (hk : 0 ≤ key ∧ key ≤ 15) {K : V → List Obj → List Obj → Prop} (hK : K (iv (polFor M up ps src key)) [] []) : AC Try.prog 66 [latV M up, .is 4 (ps.map encP), iv src, iv key] [] K := by
  have hl : (ps.map encP).length = ps.length := List.length_map ..
  refine ac_body (ann [(3, [2, 3, 9, 10, 15, 16, 17], [])]) [((998, 0), true), ((6, 0), true), ((14, 0), true)] hm htt Try.func66 rfl (by kernel_rfl) rfl rfl ?_
  conv => whnf
  refine top.ac M up hI ?_
  conv => whnf
  refine cwF_loop (fun n st => ∃ (z x y : Int) (i : Nat), (z = i ∧ n = ps.length - i ∧ i ≤ ps.length ∧ (ps.take i).foldl (stepB src key) (endTo M up true M, -1) = (x, y)) ∧
    st = ⟨[.un, .un, iv src, iv key, .un, .un, .un, .un, .un, iv x, iv y, .un, .un, .un, .un, .is 4 (ps.map encP), iv (ps.map encP).length, iv z] ++ List.replicate 19 .un, mkOb []⟩) ps.length (by kernel_rfl) ⟨_, _, _, 0, ?_, rfl⟩ ?_
  · exact ⟨rfl, by simp, by omega, rfl⟩
  rintro n st ⟨z, x, y, i, ⟨rfl, rfl, i2, i3⟩, rfl⟩
  conv => whnf
  refine bF_dec (fun i4 => ?_) (fun i4 => ?_)
  · have tf := take_fold (ps := ps) (i := i) (by omega) (src := src) (key := key) (t := (endTo M up true M, -1))
    rw [i3] at tf
    have pl := (hg i (by omega)).1.1.1
    conv => whnf
    refine ⟨⟨rfl, by omega, by omega⟩, ?_⟩
    conv => whnf
    refine ⟨_, map_get (by omega), ?_⟩
    conv => whnf
    refine bF_dec (fun i5 => ?_) (fun i5 => ?_)
    · have i5 : (ps.getD i default).b > y := i5
      conv => whnf
      refine matches.ac (ps.getD i default) src key pl.2.1 fun r hr => ?_
      cases r
      · conv => whnf
        refine ⟨by kernel_rfl, ps.length - (i + 1), by omega, _, _, _, i + 1, ⟨wrap_i64 (by omega), rfl, by omega, ?_⟩, rfl⟩
        rw [tf, stepB_no fun h => by have := hr.2 h.2.2.2; cases this]
      · conv => whnf
        refine ⟨by kernel_rfl, ?_⟩
        conv => whnf
        refine ⟨by kernel_rfl, ps.length - (i + 1), by omega, _, _, _, i + 1, ⟨wrap_i64 (by omega), rfl, by omega, ?_⟩, rfl⟩
        rw [tf, stepB_yes i5 ⟨pl, hk, hr.1 rfl⟩]
        rfl
    · have i5 : ¬ (ps.getD i default).b > y := i5
      conv => whnf
      refine ⟨by kernel_rfl, ps.length - (i + 1), by omega, _, _, _, i + 1, ⟨wrap_i64 (by omega), rfl, by omega, ?_⟩, rfl⟩
      rw [tf, stepB_no fun h => i5 h.1]
  · conv => whnf
    rw [List.take_of_length_le (by omega)] at i3
    have : polFor M up ps src key = x := by unfold polFor; rw [i3]
    rw [this] at hK
    exact hK

theorem PolicyForI.ac (N : Int) (up : List Int) (ps : List Pu) (src key : Int) (hp : ps.length ≤ 1000000) {K : V → List Obj → List Obj → Prop} (hK : ∀ r, ForP (LatI N up) N up ps src key r → K (iv r) [] []) : AC Try.prog 30 [latV N up, .is 4 (ps.map encP), iv src, iv key] [] K := by
  refine ac_body (ann []) [((998, 0), true), ((6, 0), true)] hm htt Try.func30 rfl (by kernel_rfl) rfl rfl ?_
  have no : ¬ (PolOk (LatI N up) N ps ∧ (0 ≤ src ∧ src < 4) ∧ (0 ≤ key ∧ key ≤ 15)) → K (iv (-1)) [] [] := fun h => hK _ ⟨fun h1 => absurd h1 h, fun _ => rfl⟩
  conv => whnf
  refine PolicyOkI.ac N up ps hp fun r1 h1 => ?_
  cases r1
  · conv => whnf
    exact no fun h => by have := h1.2 h.1; cases this
  conv => whnf
  refine isSource.ac _ fun r2 h2 => ?_
  cases r2
  · conv => whnf
    exact no fun h => by have := h2.2 h.2.1; cases this
  conv => whnf
  refine isKey.ac _ fun r3 h3 => ?_
  cases r3
  · conv => whnf
    exact no fun h => by have := h3.2 h.2.2; cases this
  conv => whnf
  have g := h1.1 rfl
  obtain ⟨M, rfl⟩ : ∃ M : Nat, N = M := ⟨N.toNat, by have := g.1.1; omega⟩
  refine labelFor.ac M up ps src key g.1 g.2.2 g.2.1 (h3.1 rfl) ?_
  conv => whnf
  exact hK _ ⟨fun _ => by rw [Int.toNat_natCast], fun h => absurd ⟨g, h2.1 rfl, h3.1 rfl⟩ h⟩

theorem PolicyForS.ac (N : Int) (up : List Int) (ps : List Pu) (src key : Int) (hw : Words up) (hp : ps.length ≤ 1000000) {K : V → List Obj → List Obj → Prop} (hK : ∀ r, ForP (LatP N up) N up ps src key r → K (iv r) [] []) : AC Try.prog 31 [latV N up, .is 4 (ps.map encP), iv src, iv key] [] K := by
  have hl : (ps.map encP).length = ps.length := List.length_map ..
  refine ac_body (ann [(6, [1, 2, 3, 10, 11, 12], [])]) [((998, 0), true), ((6, 0), true)] hm htt Try.func31 rfl (by kernel_rfl) rfl rfl ?_
  have no : ¬ (PolOk (LatP N up) N ps ∧ (0 ≤ src ∧ src < 4) ∧ (0 ≤ key ∧ key ≤ 15)) → K (iv (-1)) [] [] := fun h => hK _ ⟨fun h1 => absurd h1 h, fun _ => rfl⟩
  conv => whnf
  refine PolicyOkS.ac N up ps hp fun r1 h1 => ?_
  cases r1
  · conv => whnf
    exact no fun h => by have := h1.2 h.1; cases this
  conv => whnf
  refine l04Src.ac _ fun r2 h2 => ?_
  cases r2
  · conv => whnf
    exact no fun h => by have := h2.2 h.2.1; cases this
  conv => whnf
  refine l04Key.ac _ fun r3 h3 => ?_
  cases r3
  · conv => whnf
    exact no fun h => by have := h3.2 h.2.2; cases this
  conv => whnf
  have g := h1.1 rfl
  have hk := h3.1 rfl
  obtain ⟨M, rfl⟩ : ∃ M : Nat, N = M := ⟨N.toNat, by have := g.1.1; omega⟩
  have hI := (latI_iff hw).2 g.1
  have hp12 := g.2.1
  refine LatEndsS.ac M up hI g.1 ?_
  conv => whnf
  refine cwF_loop (fun n st => ∃ (z x y : Int) (i : Nat), (z = i ∧ n = ps.length - i ∧ i ≤ ps.length ∧ (ps.take i).foldl (stepB src key) (endTo M up true M, -1) = (x, y)) ∧
    st = ⟨[.un, .is 4 (ps.map encP), iv src, iv key, .un, .un, .un, .un, .un, .un, iv x, iv y, iv z] ++ List.replicate 52 .un, mkOb []⟩) ps.length (by kernel_rfl) ⟨_, _, _, 0, ?_, rfl⟩ ?_
  · exact ⟨rfl, by simp, by omega, rfl⟩
  rintro n st ⟨z, x, y, i, ⟨rfl, rfl, i2, i3⟩, rfl⟩
  conv => whnf
  refine bF_dec (fun i4 => ?_) (fun i4 => ?_)
  · have tf := take_fold (ps := ps) (i := i) (by omega) (src := src) (key := key) (t := (endTo M up true M, -1))
    rw [i3] at tf
    conv => whnf
    refine ⟨⟨rfl, by omega, by omega⟩, ?_⟩
    conv => whnf
    refine ⟨_, map_get (by omega), ?_⟩
    conv => whnf
    refine PunctHasS.ac (ps.getD i default) src key fun r hr => ?_
    cases r
    · conv => whnf
      refine ⟨by kernel_rfl, ps.length - (i + 1), by omega, _, _, _, i + 1, ⟨wrap_i64 (by omega), rfl, by omega, ?_⟩, rfl⟩
      rw [tf, stepB_no fun h => by have := hr.2 h.2; cases this]
    conv => whnf
    refine ⟨⟨rfl, by omega, by omega⟩, ?_⟩
    conv => whnf
    refine ⟨_, map_get (by omega), ?_⟩
    conv => whnf
    refine bF_dec (fun i5 => ?_) (fun i5 => ?_)
    · have i5 : (ps.getD i default).b > y := i5
      conv => whnf
      refine ⟨⟨rfl, by omega, by omega⟩, ?_⟩
      conv => whnf
      refine ⟨_, map_get (by omega), ?_⟩
      conv => whnf
      refine ⟨⟨rfl, by omega, by omega⟩, ?_⟩
      conv => whnf
      refine ⟨_, map_get (by omega), ?_⟩
      conv => whnf
      refine ⟨by kernel_rfl, ps.length - (i + 1), by omega, _, _, _, i + 1, ⟨wrap_i64 (by omega), rfl, by omega, ?_⟩, rfl⟩
      rw [tf, stepB_yes i5 (hr.1 rfl)]
      rfl
    · have i5 : ¬ (ps.getD i default).b > y := i5
      conv => whnf
      refine ⟨by kernel_rfl, ps.length - (i + 1), by omega, _, _, _, i + 1, ⟨wrap_i64 (by omega), rfl, by omega, ?_⟩, rfl⟩
      rw [tf, stepB_no fun h => i5 h.1]
  · conv => whnf
    rw [List.take_of_length_le (by omega)] at i3
    have : polFor M up ps src key = x := by unfold polFor; rw [i3]
    exact hK _ ⟨fun _ => by rw [Int.toNat_natCast, this], fun h => absurd ⟨g, h2.1 rfl, hk⟩ h⟩
end Go.Eng.T
