import Derived.Test.YtajekdeommaceaaXTryT
import Derived.Test.YtajekdeommaceaaXEng24
namespace Go.Eng.T
open Go.Proofs Go.Eng
def encB (x : Int) : V := .lit (.int .u8 x)
abbrev iv (x : Int) : V := .lit (.int .i64 x)
abbrev uv (x : Int) : V := .lit (.int .u64 x)
abbrev bv (b : Bool) : V := .lit (.bool b)
def keepL : List (Nat × List Nat × List Key) → Nat → List Nat × List Key
  | [], _ => ([], [])
  | (k, v) :: r, n => bif Nat.beq k n then v else keepL r n
def immL : List (Nat × List Nat) → Nat → List Nat
  | [], _ => []
  | (k, v) :: r, n => bif Nat.beq k n then v else immL r n
def imms : List (Nat × List Nat) := []
abbrev ann (l : List (Nat × List Nat × List Key)) : Ann := { imm := immL imms, keep := keepL l }

set_option maxRecDepth 100000

theorem big.ac (xs : List Int) {K : V → List Obj → List Obj → Prop} (hK : K (bv (decide ((xs.length : Int) > 1048576))) [] []) : AC Try.prog 9 [.is 1 (xs.map encB)] [] K := by
  refine ac_body (ann []) [] hm htt Try.func9 rfl (by kernel_rfl) rfl rfl ?_
  conv => whnf
  rw [List.length_map]
  exact hK

def bit (x : Int) (i : Int) : Bool := IntKind.u64.wrap ↑((fun x1 x2 => x1 &&& x2) (BitVec.ofInt IntKind.u64.bits (x.fdiv (2 ^ min (IntKind.u64.wrap i).toNat IntKind.u64.bits))) (BitVec.ofInt IntKind.u64.bits 1)).toNat == 1

theorem wrap_u64_nn (x : Int) : 0 ≤ IntKind.u64.wrap x := by
  simp only [IntKind.wrap, IntKind.signed, IntKind.bits]
  simp
  omega

theorem wrap_i64 {x : Int} (h : -9223372036854775808 ≤ x ∧ x ≤ 9223372036854775807) : IntKind.i64.wrap x = x := by
  simp only [IntKind.wrap, IntKind.signed, IntKind.bits]
  simp
  omega

theorem wrap_u64 {x : Int} (h : 0 ≤ x ∧ x ≤ 18446744073709551615) : IntKind.u64.wrap x = x := by
  simp only [IntKind.wrap, IntKind.signed, IntKind.bits]
  simp
  omega

theorem l01Bit.ac (x i : Int) {K : V → List Obj → List Obj → Prop} (hK : ∀ r, bit x i = r → K (bv r) [] []) : AC Try.prog 47 [uv x, iv i] [] K := by
  refine ac_body (ann []) [] hm htt Try.func47 rfl (by kernel_rfl) rfl rfl ?_
  conv => whnf
  refine ⟨wrap_u64_nn _, ?_⟩
  conv => whnf
  exact hK _ rfl

theorem l01Power.ac (i : Int) (h : 0 ≤ i ∧ i ≤ 16) {K : V → List Obj → List Obj → Prop} (hK : K (uv (2 ^ i.toNat)) [] []) : AC Try.prog 48 [iv i] [] K := by
  refine ac_body (ann [(2, [0, 3], [])]) [] hm htt Try.func48 rfl (by kernel_rfl) rfl rfl ?_
  conv => whnf
  refine cwF_loop (fun n st => ∃ j p : Int, (n = j.toNat ∧ 0 ≤ j ∧ j ≤ i ∧ p = 2 ^ (i - j).toNat) ∧ st = ⟨[iv j, .un, .un, uv p, .un, .un, .un, .un, .un, .un, .un], mkOb []⟩) i.toNat (by kernel_rfl) ⟨_, _, ?_, rfl⟩ ?_
  · exact ⟨rfl, by omega, by omega, by simp⟩
  · rintro n st ⟨j, p, ⟨rfl, h1, h2, hp⟩, rfl⟩
    conv => whnf
    refine vif_dec (fun h3 => ?_) (fun h3 => ?_)
    · conv => whnf
      refine ⟨by kernel_rfl, (j - 1).toNat, by omega, _, _, ?_, rfl⟩
      have e : (i - (j - 1)).toNat = (i - j).toNat + 1 := by omega
      have b : (2 : Int) ^ (i - j).toNat ≤ 2 ^ 16 := by
        exact_mod_cast Nat.pow_le_pow_right (by decide) (by omega : (i - j).toNat ≤ 16)
      have b0 : (0 : Int) ≤ 2 ^ (i - j).toNat := Int.pow_nonneg (by decide)
      rw [wrap_i64 (by omega), wrap_u64 (by omega)]
      exact ⟨rfl, by omega, by omega, by rw [e, Int.pow_succ]; omega⟩
    · conv => whnf
      have : j = 0 := by omega
      subst this
      subst hp
      simpa using hK

abbrev latV (N : Int) (up : List Int) : V := .agg [iv N, .is 1 (up.map uv)]
def side (up : List Int) (a c : Int) (u : Bool) : Bool := if u = true then bit (up.getD a.toNat default) c else bit (up.getD c.toNat default) a

theorem l01Side.ac (N : Int) (up : List Int) (a c : Int) (u : Bool) (ha : 0 ≤ a ∧ a < (up.map uv).length) (hc : 0 ≤ c ∧ c < (up.map uv).length) {K : V → List Obj → List Obj → Prop} (hK : ∀ r, side up a c u = r → K (bv r) [] []) : AC Try.prog 90 [latV N up, iv a, iv c, bv u] [] K := by
  refine ac_body (ann []) [((6, 0), true)] hm htt Try.func90 rfl (by kernel_rfl) rfl rfl ?_
  conv => whnf
  refine vif_bool (fun h => ?_) (fun h => ?_)
  · subst h
    conv => whnf
    refine ⟨⟨rfl, ha⟩, ?_⟩
    conv => whnf
    refine ⟨_, map_get ha, ?_⟩
    conv => whnf
    refine l01Bit.ac _ _ fun r hr => ?_
    conv => whnf
    exact hK r hr
  · subst h
    conv => whnf
    refine ⟨⟨rfl, hc⟩, ?_⟩
    conv => whnf
    refine ⟨_, map_get hc, ?_⟩
    conv => whnf
    refine l01Bit.ac _ _ fun r hr => ?_
    conv => whnf
    exact hK r hr
end Go.Eng.T
