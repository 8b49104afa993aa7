import Derived.Test.YtenocjjbfkgflaaXTryS
import Derived.Test.YtenocjjbfkgflaaXEng24
import Derived.Test.YtenocjjbfkgflaaXEB
namespace Go.Eng.T.L
open Go.Proofs Go.Eng
def encB (x : Int) : V := .lit (.int .u8 x)
abbrev iv (x : Int) : V := .lit (.int .i64 x)
abbrev uv (x : Int) : V := .lit (.int .u64 x)
abbrev bv (b : Bool) : V := .lit (.bool b)
def keepL : List (Nat × List Nat × List Key) → Nat → List Nat × List Key
  | [], _ => ([], [])
  | (k, v) :: r, n => bif Nat.beq k n then v else keepL r n
def immL : List (Nat × List Nat) → Nat → List Nat
  | [], _ => []
  | (k, v) :: r, n => bif Nat.beq k n then v else immL r n
def imms : List (Nat × List Nat) := []
abbrev ann (l : List (Nat × List Nat × List Key)) : Ann := { imm := immL imms, keep := keepL l }

set_option maxRecDepth 100000

theorem big.ac (xs : List Int) {K : V → List Obj → List Obj → Prop} (hK : K (bv (decide ((xs.length : Int) > 1048576))) [] []) : AC Try.prog 10 [.is 1 (xs.map encB)] [] K := by
  refine ac_body (ann []) [] hm htt Try.func10 rfl (by kernel_rfl) rfl rfl ?_
  conv => whnf
  rw [List.length_map]
  exact hK

def bit (x : Int) (i : Int) : Bool := IntKind.u64.wrap ↑((fun x1 x2 => x1 &&& x2) (BitVec.ofInt IntKind.u64.bits (x.fdiv (2 ^ min (IntKind.u64.wrap i).toNat IntKind.u64.bits))) (BitVec.ofInt IntKind.u64.bits 1)).toNat == 1

theorem wrap_u64_nn (x : Int) : 0 ≤ IntKind.u64.wrap x := by
  simp only [IntKind.wrap, IntKind.signed, IntKind.bits]
  simp
  omega

theorem wrap_i64 {x : Int} (h : -9223372036854775808 ≤ x ∧ x ≤ 9223372036854775807) : IntKind.i64.wrap x = x := by
  simp only [IntKind.wrap, IntKind.signed, IntKind.bits]
  simp
  omega

theorem wrap_u64 {x : Int} (h : 0 ≤ x ∧ x ≤ 18446744073709551615) : IntKind.u64.wrap x = x := by
  simp only [IntKind.wrap, IntKind.signed, IntKind.bits]
  simp
  omega

theorem l01Bit.ac (x i : Int) {K : V → List Obj → List Obj → Prop} (hK : ∀ r, bit x i = r → K (bv r) [] []) : AC Try.prog 124 [uv x, iv i] [] K := by
  refine ac_body (ann []) [] hm htt Try.func124 rfl (by kernel_rfl) rfl rfl ?_
  conv => whnf
  refine ⟨wrap_u64_nn _, ?_⟩
  conv => whnf
  exact hK _ rfl

theorem l01Power.ac (i : Int) (h : 0 ≤ i ∧ i ≤ 16) {K : V → List Obj → List Obj → Prop} (hK : K (uv (2 ^ i.toNat)) [] []) : AC Try.prog 120 [iv i] [] K := by
  refine ac_body (ann [(2, [0, 3], [])]) [] hm htt Try.func120 rfl (by kernel_rfl) rfl rfl ?_
  conv => whnf
  refine cwF_loop (fun n st => ∃ j p : Int, (n = j.toNat ∧ 0 ≤ j ∧ j ≤ i ∧ p = 2 ^ (i - j).toNat) ∧ st = ⟨[iv j, .un, .un, uv p, .un, .un, .un, .un, .un, .un, .un], mkOb []⟩) i.toNat (by kernel_rfl) ⟨_, _, ?_, rfl⟩ ?_
  · exact ⟨rfl, by omega, by omega, by simp⟩
  · rintro n st ⟨j, p, ⟨rfl, h1, h2, hp⟩, rfl⟩
    conv => whnf
    refine vif_dec (fun h3 => ?_) (fun h3 => ?_)
    · conv => whnf
      refine ⟨by kernel_rfl, (j - 1).toNat, by omega, _, _, ?_, rfl⟩
      have e : (i - (j - 1)).toNat = (i - j).toNat + 1 := by omega
      have b : (2 : Int) ^ (i - j).toNat ≤ 2 ^ 16 := by
        exact_mod_cast Nat.pow_le_pow_right (by decide) (by omega : (i - j).toNat ≤ 16)
      have b0 : (0 : Int) ≤ 2 ^ (i - j).toNat := Int.pow_nonneg (by decide)
      rw [wrap_i64 (by omega), wrap_u64 (by omega)]
      exact ⟨rfl, by omega, by omega, by rw [e, Int.pow_succ]; omega⟩
    · conv => whnf
      have : j = 0 := by omega
      subst this
      subst hp
      simpa using hK

abbrev latV (N : Int) (up : List Int) : V := .agg [iv N, .is 1 (up.map uv)]
def side (up : List Int) (a c : Int) (u : Bool) : Bool := if u = true then bit (up.getD a.toNat default) c else bit (up.getD c.toNat default) a

theorem l01Side.ac (N : Int) (up : List Int) (a c : Int) (u : Bool) (ha : 0 ≤ a ∧ a < (up.map uv).length) (hc : 0 ≤ c ∧ c < (up.map uv).length) {K : V → List Obj → List Obj → Prop} (hK : ∀ r, side up a c u = r → K (bv r) [] []) : AC Try.prog 126 [latV N up, iv a, iv c, bv u] [] K := by
  refine ac_body (ann []) [((6, 0), true)] hm htt Try.func126 rfl (by kernel_rfl) rfl rfl ?_
  conv => whnf
  refine vif_bool (fun h => ?_) (fun h => ?_)
  · subst h
    conv => whnf
    refine ⟨⟨rfl, ha⟩, ?_⟩
    conv => whnf
    refine ⟨_, map_get ha, ?_⟩
    conv => whnf
    refine l01Bit.ac _ _ fun r hr => ?_
    conv => whnf
    exact hK r hr
  · subst h
    conv => whnf
    refine ⟨⟨rfl, hc⟩, ?_⟩
    conv => whnf
    refine ⟨_, map_get hc, ?_⟩
    conv => whnf
    refine l01Bit.ac _ _ fun r hr => ?_
    conv => whnf
    exact hK r hr
end Go.Eng.T.L

namespace Go.Eng.T.L
open Go.Proofs Go.Eng
set_option maxRecDepth 100000

def fitsTo (up : List Int) (a b : Int) (u : Bool) (c : Int) (m : Nat) : Bool :=
  side up a c u && side up b c u && (List.range m).all fun (d : Nat) => !(side up a d u && side up b d u) || side up c d u
def bound (N : Nat) (up : List Int) (a b : Int) (u : Bool) : Int :=
  match (List.range N).find? fun (c : Nat) => fitsTo up a b u c N with
  | some c => c
  | none => -1

theorem fitsTo_succ {up : List Int} {a b : Int} {u : Bool} {c : Int} {d : Int} (h : 0 ≤ d) : fitsTo up a b u c (d + 1).toNat = (fitsTo up a b u c d.toNat && (!(side up a d u && side up b d u) || side up c d u)) := by
  have e : (d + 1).toNat = d.toNat + 1 := by omega
  have e2 : ((d.toNat : Nat) : Int) = d := by omega
  simp only [fitsTo, e, List.range_succ, List.all_append, List.all_cons, List.all_nil, Bool.and_true, e2, Bool.and_assoc]

theorem fitsTo_le {up : List Int} {a b : Int} {u : Bool} {c : Int} {m n : Nat} (h : m ≤ n) (hf : fitsTo up a b u c m = false) : fitsTo up a b u c n = false := by
  cases hc : fitsTo up a b u c n
  · rfl
  · simp only [fitsTo, Bool.and_eq_true, List.all_eq_true, List.mem_range] at hc
    have : fitsTo up a b u c m = true := by
      simp only [fitsTo, Bool.and_eq_true, List.all_eq_true, List.mem_range]
      exact ⟨hc.1, fun x hx => hc.2 x (by omega)⟩
    rw [this] at hf; cases hf

theorem find_next {p : Nat → Bool} {c : Int} (h0 : 0 ≤ c) (h : (List.range c.toNat).find? p = none) (hp : p c.toNat = false) : (List.range (c + 1).toNat).find? p = none := by
  have e : (c + 1).toNat = c.toNat + 1 := by omega
  rw [e, List.range_succ, List.find?_append, h]
  simp [hp]

theorem find_here {p : Nat → Bool} {c : Int} {N : Nat} (h0 : 0 ≤ c) (hN : c < N) (h : (List.range c.toNat).find? p = none) (hp : p c.toNat = true) : (List.range N).find? p = some c.toNat := by
  obtain ⟨k, rfl⟩ : ∃ k, N = c.toNat + 1 + k := ⟨N - (c.toNat + 1), by omega⟩
  rw [List.range_add, List.range_succ, List.find?_append, List.find?_append, h]
  simp [hp]

theorem l01Bound.ac (N : Nat) (up : List Int) (a b : Int) (u : Bool) (hN : N ≤ 16) (hu : up.length = N) (ha : 0 ≤ a ∧ a < N) (hb : 0 ≤ b ∧ b < N) {K : V → List Obj → List Obj → Prop} (hK : ∀ r, bound N up a b u = r → K (iv r) [] []) : AC Try.prog 125 [latV N up, iv a, iv b, bv u] [] K := by
  have hl : (up.map uv).length = N := by rw [List.length_map, hu]
  refine ac_body (ann [(2, [1, 2, 3, 4, 9], [(6, 0)]), (6, [1, 2, 3, 4, 9, 10, 11], [(6, 0)])]) [((6, 0), true)] hm htt Try.func125 rfl (by kernel_rfl) rfl rfl ?_
  conv => whnf
  refine cwF_loop (fun n st => ∃ c : Int, (n = (N - c).toNat ∧ 0 ≤ c ∧ c ≤ N ∧ (List.range c.toNat).find? (fun (c : Nat) => fitsTo up a b u c N) = none) ∧
    st = ⟨[.un, iv a, iv b, bv u, .lp (6, 0) 2 0 0, .un, .un, .un, .un, iv c] ++ List.replicate 51 .un, mkOb [((6, 0), some (.arr false 2 [latV N up]))]⟩) N (by kernel_rfl) ⟨_, ?_, rfl⟩ ?_
  · exact ⟨by simp, by omega, by omega, by simp⟩
  rintro n st ⟨c, ⟨rfl, h1, h2, h3⟩, rfl⟩
  conv => whnf
  refine vif_dec (fun h4 => ?_) (fun h4 => ?_)
  case refine_2.refine_2 =>
    conv => whnf
    have e : c = N := by omega
    subst e
    rw [Int.toNat_natCast] at h3
    exact hK _ (by simp only [bound, h3])
  conv => whnf
  refine l01Side.ac _ _ _ _ _ (by omega) (by omega) fun rhs hs => ?_
  conv => whnf
  have h5 : ∀ f, f = fitsTo up a b u c 0 → True := fun _ _ => trivial
  cases rhs
  rotate_left
  · conv => whnf
    refine l01Side.ac _ _ _ _ _ (by omega) (by omega) fun rhs2 hs2 => ?_
    conv => whnf
    refine cwF_loop (fun n st => ∃ (d : Int) (f : Bool), (n = (N - d).toNat ∧ 0 ≤ d ∧ d ≤ N ∧ f = fitsTo up a b u c d.toNat) ∧
      st = ⟨[.un, iv a, iv b, bv u, .lp (6, 0) 2 0 0, .un, .un, .un, .un, iv c, bv f, iv d] ++ List.replicate 49 .un, mkOb [((6, 0), some (.arr false 2 [latV N up]))]⟩) N (by kernel_rfl) ⟨_, _, ?_, rfl⟩ ?_
    · exact ⟨by simp, by omega, by omega, by simp [fitsTo, hs, hs2]⟩
    rintro n st ⟨d, f, ⟨rfl, g1, g2, g3⟩, rfl⟩
    conv => whnf
    have next : fitsTo up a b u c N = false → (List.range (c + 1).toNat).find? (fun (c : Nat) => fitsTo up a b u c N) = none := fun h => find_next h1 h3 (by rw [show ((c.toNat : Nat) : Int) = c by omega]; exact h)
    cases hd : decide (d < (N : Int))
    · have e : d = N := by have := of_decide_eq_false hd; omega
      subst e
      rw [Int.toNat_natCast] at g3
      cases f
      · conv => whnf
        refine ⟨by kernel_rfl, (N - (c + 1)).toNat, by omega, _, ?_, rfl⟩
        rw [wrap_i64 (by omega)]
        exact ⟨rfl, by omega, by omega, next g3.symm⟩
      · conv => whnf
        have h5 := find_here (p := fun (c : Nat) => fitsTo up a b u c N) h1 h4 h3 (by rw [show ((c.toNat : Nat) : Int) = c by omega]; exact g3.symm)
        exact hK _ (by simp only [bound, h5]; omega)
    · have hd := of_decide_eq_true hd
      cases f
      · conv => whnf
        refine ⟨by kernel_rfl, (N - (c + 1)).toNat, by omega, _, ?_, rfl⟩
        rw [wrap_i64 (by omega)]
        exact ⟨rfl, by omega, by omega, next (fitsTo_le (by omega) g3.symm)⟩
      · conv => whnf
        refine l01Side.ac _ _ _ _ _ (by omega) (by omega) fun rs1 s1 => ?_
        conv => whnf
        cases rs1
        · conv => whnf
          refine ⟨by kernel_rfl, (N - (d + 1)).toNat, by omega, _, _, ?_, rfl⟩
          rw [wrap_i64 (by omega)]
          exact ⟨rfl, by omega, by omega, by rw [fitsTo_succ g1, ← g3, s1]; rfl⟩
        · conv => whnf
          refine l01Side.ac _ _ _ _ _ (by omega) (by omega) fun rs2 s2 => ?_
          conv => whnf
          cases rs2
          · conv => whnf
            refine ⟨by kernel_rfl, (N - (d + 1)).toNat, by omega, _, _, ?_, rfl⟩
            rw [wrap_i64 (by omega)]
            exact ⟨rfl, by omega, by omega, by rw [fitsTo_succ g1, ← g3, s1, s2]; rfl⟩
          · conv => whnf
            refine l01Side.ac _ _ _ _ _ (by omega) (by omega) fun rs3 s3 => ?_
            conv => whnf
            cases rs3
            · conv => whnf
              refine ⟨by kernel_rfl, (N - (d + 1)).toNat, by omega, _, _, ?_, rfl⟩
              rw [wrap_i64 (by omega)]
              exact ⟨rfl, by omega, by omega, by rw [fitsTo_succ g1, ← g3, s1, s2, s3]; rfl⟩
            · conv => whnf
              refine ⟨by kernel_rfl, (N - (d + 1)).toNat, by omega, _, _, ?_, rfl⟩
              rw [wrap_i64 (by omega)]
              exact ⟨rfl, by omega, by omega, by rw [fitsTo_succ g1, ← g3, s1, s2, s3]; rfl⟩
  · conv => whnf
    have hs2 : true = true := rfl
    refine cwF_loop (fun n st => ∃ (d : Int) (f : Bool), (n = (N - d).toNat ∧ 0 ≤ d ∧ d ≤ N ∧ f = fitsTo up a b u c d.toNat) ∧
      st = ⟨[.un, iv a, iv b, bv u, .lp (6, 0) 2 0 0, .un, .un, .un, .un, iv c, bv f, iv d] ++ List.replicate 49 .un, mkOb [((6, 0), some (.arr false 2 [latV N up]))]⟩) N (by kernel_rfl) ⟨_, _, ?_, rfl⟩ ?_
    · exact ⟨by simp, by omega, by omega, by simp [fitsTo, hs]⟩
    rintro n st ⟨d, f, ⟨rfl, g1, g2, g3⟩, rfl⟩
    conv => whnf
    have next : fitsTo up a b u c N = false → (List.range (c + 1).toNat).find? (fun (c : Nat) => fitsTo up a b u c N) = none := fun h => find_next h1 h3 (by rw [show ((c.toNat : Nat) : Int) = c by omega]; exact h)
    cases hd : decide (d < (N : Int))
    · have e : d = N := by have := of_decide_eq_false hd; omega
      subst e
      rw [Int.toNat_natCast] at g3
      cases f
      · conv => whnf
        refine ⟨by kernel_rfl, (N - (c + 1)).toNat, by omega, _, ?_, rfl⟩
        rw [wrap_i64 (by omega)]
        exact ⟨rfl, by omega, by omega, next g3.symm⟩
      · conv => whnf
        have h5 := find_here (p := fun (c : Nat) => fitsTo up a b u c N) h1 h4 h3 (by rw [show ((c.toNat : Nat) : Int) = c by omega]; exact g3.symm)
        exact hK _ (by simp only [bound, h5]; omega)
    · have hd := of_decide_eq_true hd
      cases f
      · conv => whnf
        refine ⟨by kernel_rfl, (N - (c + 1)).toNat, by omega, _, ?_, rfl⟩
        rw [wrap_i64 (by omega)]
        exact ⟨rfl, by omega, by omega, next (fitsTo_le (by omega) g3.symm)⟩
      · conv => whnf
        refine l01Side.ac _ _ _ _ _ (by omega) (by omega) fun rs1 s1 => ?_
        conv => whnf
        cases rs1
        · conv => whnf
          refine ⟨by kernel_rfl, (N - (d + 1)).toNat, by omega, _, _, ?_, rfl⟩
          rw [wrap_i64 (by omega)]
          exact ⟨rfl, by omega, by omega, by rw [fitsTo_succ g1, ← g3, s1]; rfl⟩
        · conv => whnf
          refine l01Side.ac _ _ _ _ _ (by omega) (by omega) fun rs2 s2 => ?_
          conv => whnf
          cases rs2
          · conv => whnf
            refine ⟨by kernel_rfl, (N - (d + 1)).toNat, by omega, _, _, ?_, rfl⟩
            rw [wrap_i64 (by omega)]
            exact ⟨rfl, by omega, by omega, by rw [fitsTo_succ g1, ← g3, s1, s2]; rfl⟩
          · conv => whnf
            refine l01Side.ac _ _ _ _ _ (by omega) (by omega) fun rs3 s3 => ?_
            conv => whnf
            cases rs3
            · conv => whnf
              refine ⟨by kernel_rfl, (N - (d + 1)).toNat, by omega, _, _, ?_, rfl⟩
              rw [wrap_i64 (by omega)]
              exact ⟨rfl, by omega, by omega, by rw [fitsTo_succ g1, ← g3, s1, s2, s3]; rfl⟩
            · conv => whnf
              refine ⟨by kernel_rfl, (N - (d + 1)).toNat, by omega, _, _, ?_, rfl⟩
              rw [wrap_i64 (by omega)]
              exact ⟨rfl, by omega, by omega, by rw [fitsTo_succ g1, ← g3, s1, s2, s3]; rfl⟩
end Go.Eng.T.L

namespace Go.Eng.T.L
open Go.Proofs Go.Eng
set_option maxRecDepth 100000
set_option maxHeartbeats 0

def RowB (N : Nat) (up : List Int) (a b : Int) : Prop :=
  ¬ (a ≠ b ∧ bit (up.getD a.toNat default) b = true ∧ bit (up.getD b.toNat default) a = true) ∧ ∀ c : Int, 0 ≤ c → c < N → bit (up.getD a.toNat default) b = true → bit (up.getD b.toNat default) c = true → bit (up.getD a.toNat default) c = true
def RowA (N : Nat) (up : List Int) (a : Int) : Prop :=
  bit (up.getD a.toNat default) a = true ∧ up.getD a.toNat default < 2 ^ N ∧ ∀ b : Int, 0 ≤ b → b < N → RowB N up a b
def LatP (N : Int) (up : List Int) : Prop :=
  1 ≤ N ∧ N ≤ 16 ∧ (up.length : Int) = N ∧ (∀ a : Int, 0 ≤ a → a < N → RowA N.toNat up a) ∧
  ∀ a b : Int, 0 ≤ b → b < a → a < N → 0 ≤ bound N.toNat up a b true ∧ 0 ≤ bound N.toNat up a b false

theorem LatOkS.ac (N : Int) (up : List Int) {K : V → List Obj → List Obj → Prop} (hK : ∀ r, (r = true ↔ LatP N up) → K (bv r) [] []) : AC Try.prog 121 [latV N up] [] K := by
  refine ac_body (ann [(4, [1, 3], [(3, 0)]), (9, [1, 3, 4], [(3, 0)]), (14, [1, 3, 4, 5], [(3, 0)]), (19, [1, 6], [(3, 0)]), (22, [1, 6, 7], [(3, 0)])]) [((3, 0), true)] hm htt Try.func121 rfl (by kernel_rfl) rfl rfl ?_
  have no : ¬ LatP N up → K (bv false) [] [] := fun h => hK _ ⟨fun h1 => (nomatch h1), fun h1 => absurd h1 h⟩
  conv => whnf
  by_cases q1 : N < 1
  · rw [decide_eq_true q1]
    conv => whnf
    exact no fun h => by have := h.1; omega
  rw [decide_eq_false q1]
  conv => whnf
  by_cases q2 : N > 16
  · rw [decide_eq_true q2]
    conv => whnf
    exact no fun h => by have := h.2.1; omega
  rw [decide_eq_false q2]
  conv => whnf
  refine vif_bool (fun q3 => ?_) (fun q3 => ?_)
  · conv => whnf
    exact no fun h => by have := h.2.2.1; simp at q3; omega
  conv => whnf
  simp only [List.length_map, bne_eq_false_iff_eq] at q3
  obtain ⟨M, rfl⟩ : ∃ M : Nat, N = M := ⟨N.toNat, by omega⟩
  have hl : (up.map uv).length = M := by rw [List.length_map]; omega
  refine cwF_loop (fun n st => ∃ a : Int, (n = (M - a).toNat ∧ 0 ≤ a ∧ a ≤ M ∧ ∀ a' : Int, 0 ≤ a' → a' < a → RowA M up a') ∧
    st = ⟨[.un, .lp (3, 0) 2 0 0, .un, iv a] ++ List.replicate 127 .un, mkOb [((3, 0), some (.arr false 2 [latV M up]))]⟩) M (by kernel_rfl) ⟨_, ?_, rfl⟩ ?_
  · exact ⟨by simp, by omega, by omega, fun a' _ _ => by omega⟩
  rintro n st ⟨a, ⟨rfl, a1, a2, a3⟩, rfl⟩
  conv => whnf
  refine vif_dec (fun a4 => ?_) (fun a4 => ?_)
  · conv => whnf
    refine ⟨⟨rfl, by omega, by omega⟩, ?_⟩
    conv => whnf
    refine ⟨_, map_get (by omega), ?_⟩
    conv => whnf
    refine ⟨by kernel_rfl, ?_⟩
    conv => whnf
    refine l01Bit.ac _ _ fun w1 r1 => ?_
    conv => whnf
    cases w1
    · conv => whnf
      refine ⟨by kernel_rfl, ?_⟩
      conv => whnf
      refine ⟨by kernel_rfl, ?_⟩
      conv => whnf
      exact no fun h => by have := (h.2.2.2.1 a (by omega) (by omega)).1; rw [this] at r1; cases r1
    conv => whnf
    refine ⟨⟨rfl, by omega, by omega⟩, ?_⟩
    conv => whnf
    refine ⟨_, map_get (by omega), ?_⟩
    conv => whnf
    refine ⟨by kernel_rfl, ?_⟩
    conv => whnf
    refine l01Power.ac _ (by omega) ?_
    conv => whnf
    refine ⟨by kernel_rfl, ?_⟩
    conv => whnf
    refine vif_dec (fun r3 => ?_) (fun r3 => ?_)
    · conv => whnf
      exact no fun h => by have := (h.2.2.2.1 a (by omega) (by omega)).2.1; omega
    conv => whnf
    have r3 : up.getD a.toNat default < 2 ^ M := by rw [Int.toNat_natCast] at r3; omega
    refine cwF_loop (fun n st => ∃ b : Int, (n = (M - b).toNat ∧ 0 ≤ b ∧ b ≤ M ∧ ∀ b' : Int, 0 ≤ b' → b' < b → RowB M up a b') ∧
      st = ⟨[.un, .lp (3, 0) 2 0 0, .un, iv a, iv b] ++ List.replicate 126 .un, mkOb [((3, 0), some (.arr false 2 [latV M up]))]⟩) M (by kernel_rfl) ⟨_, ?_, rfl⟩ ?_
    · exact ⟨by simp, by omega, by omega, fun c' _ _ => by omega⟩
    rintro n st ⟨b, ⟨rfl, b1, b2, b3⟩, rfl⟩
    conv => whnf
    refine vif_dec (fun b4 => ?_) (fun b4 => ?_)
    · conv => whnf
      rcases (Bool.eq_false_or_eq_true (a != b)).symm with hne | hne
      all_goals rw [hne]
      · conv => whnf
        have nb : ¬ (a ≠ b ∧ bit (up.getD a.toNat default) b = true ∧ bit (up.getD b.toNat default) a = true) := fun w => by simp at hne; exact w.1 hne
        refine cwF_loop (fun n st => ∃ c : Int, (n = (M - c).toNat ∧ 0 ≤ c ∧ c ≤ M ∧ ∀ c' : Int, 0 ≤ c' → c' < c → bit (up.getD a.toNat default) b = true → bit (up.getD b.toNat default) c' = true → bit (up.getD a.toNat default) c' = true) ∧
          st = ⟨[.un, .lp (3, 0) 2 0 0, .un, iv a, iv b, iv c] ++ List.replicate 125 .un, mkOb [((3, 0), some (.arr false 2 [latV M up]))]⟩) M (by kernel_rfl) ⟨_, ?_, rfl⟩ ?_
        · exact ⟨by simp, by omega, by omega, fun c' _ _ => by omega⟩
        rintro n st ⟨c, ⟨rfl, c1, c2, c3⟩, rfl⟩
        conv => whnf
        refine vif_dec (fun c4 => ?_) (fun c4 => ?_)
        · conv => whnf
          refine ⟨⟨rfl, by omega, by omega⟩, ?_⟩
          conv => whnf
          refine ⟨_, map_get (by omega), ?_⟩
          conv => whnf
          refine l01Bit.ac _ _ fun u1 t1 => ?_
          conv => whnf
          cases u1
          · conv => whnf
            refine ⟨by kernel_rfl, (M - (c + 1)).toNat, by omega, _, ?_, rfl⟩
            rw [wrap_i64 (by omega)]
            refine ⟨rfl, by omega, by omega, fun c' k1 k2 => ?_⟩
            rcases (by omega : c' < c ∨ c' = c) with k3 | rfl
            · exact c3 c' k1 k3
            · exact fun w => by rw [w] at t1; cases t1
          · conv => whnf
            refine ⟨⟨rfl, by omega, by omega⟩, ?_⟩
            conv => whnf
            refine ⟨_, map_get (by omega), ?_⟩
            conv => whnf
            refine l01Bit.ac _ _ fun u2 t2 => ?_
            conv => whnf
            cases u2
            · conv => whnf
              refine ⟨by kernel_rfl, (M - (c + 1)).toNat, by omega, _, ?_, rfl⟩
              rw [wrap_i64 (by omega)]
              refine ⟨rfl, by omega, by omega, fun c' k1 k2 => ?_⟩
              rcases (by omega : c' < c ∨ c' = c) with k3 | rfl
              · exact c3 c' k1 k3
              · exact fun _ w => by rw [w] at t2; cases t2
            · conv => whnf
              refine ⟨⟨rfl, by omega, by omega⟩, ?_⟩
              conv => whnf
              refine ⟨_, map_get (by omega), ?_⟩
              conv => whnf
              refine l01Bit.ac _ _ fun u3 t3 => ?_
              conv => whnf
              cases u3
              · conv => whnf
                exact no fun h => by
                  have := ((h.2.2.2.1 a (by omega) (by omega)).2.2 b (by omega) (by omega)).2 c (by omega) (by omega) t1 t2
                  rw [this] at t3; cases t3
              · conv => whnf
                refine ⟨by kernel_rfl, (M - (c + 1)).toNat, by omega, _, ?_, rfl⟩
                rw [wrap_i64 (by omega)]
                refine ⟨rfl, by omega, by omega, fun c' k1 k2 => ?_⟩
                rcases (by omega : c' < c ∨ c' = c) with k3 | rfl
                · exact c3 c' k1 k3
                · exact fun _ _ => t3
        · conv => whnf
          have eC : c = M := by omega
          subst eC
          refine ⟨by kernel_rfl, (M - (b + 1)).toNat, by omega, _, ?_, rfl⟩
          rw [wrap_i64 (by omega)]
          refine ⟨rfl, by omega, by omega, fun b' k1 k2 => ?_⟩
          rcases (by omega : b' < b ∨ b' = b) with k3 | rfl
          · exact b3 b' k1 k3
          · exact ⟨nb, fun c' m1 m2 => c3 c' m1 m2⟩
      · conv => whnf
        refine ⟨⟨rfl, by omega, by omega⟩, ?_⟩
        conv => whnf
        refine ⟨_, map_get (by omega), ?_⟩
        conv => whnf
        refine l01Bit.ac _ _ fun v1 s1 => ?_
        conv => whnf
        cases v1
        · conv => whnf
          have nb : ¬ (a ≠ b ∧ bit (up.getD a.toNat default) b = true ∧ bit (up.getD b.toNat default) a = true) := fun w => by rw [w.2.1] at s1; cases s1
          refine cwF_loop (fun n st => ∃ c : Int, (n = (M - c).toNat ∧ 0 ≤ c ∧ c ≤ M ∧ ∀ c' : Int, 0 ≤ c' → c' < c → bit (up.getD a.toNat default) b = true → bit (up.getD b.toNat default) c' = true → bit (up.getD a.toNat default) c' = true) ∧
            st = ⟨[.un, .lp (3, 0) 2 0 0, .un, iv a, iv b, iv c] ++ List.replicate 125 .un, mkOb [((3, 0), some (.arr false 2 [latV M up]))]⟩) M (by kernel_rfl) ⟨_, ?_, rfl⟩ ?_
          · exact ⟨by simp, by omega, by omega, fun c' _ _ => by omega⟩
          rintro n st ⟨c, ⟨rfl, c1, c2, c3⟩, rfl⟩
          conv => whnf
          refine vif_dec (fun c4 => ?_) (fun c4 => ?_)
          · conv => whnf
            refine ⟨⟨rfl, by omega, by omega⟩, ?_⟩
            conv => whnf
            refine ⟨_, map_get (by omega), ?_⟩
            conv => whnf
            refine l01Bit.ac _ _ fun u1 t1 => ?_
            conv => whnf
            cases u1
            · conv => whnf
              refine ⟨by kernel_rfl, (M - (c + 1)).toNat, by omega, _, ?_, rfl⟩
              rw [wrap_i64 (by omega)]
              refine ⟨rfl, by omega, by omega, fun c' k1 k2 => ?_⟩
              rcases (by omega : c' < c ∨ c' = c) with k3 | rfl
              · exact c3 c' k1 k3
              · exact fun w => by rw [w] at t1; cases t1
            · conv => whnf
              refine ⟨⟨rfl, by omega, by omega⟩, ?_⟩
              conv => whnf
              refine ⟨_, map_get (by omega), ?_⟩
              conv => whnf
              refine l01Bit.ac _ _ fun u2 t2 => ?_
              conv => whnf
              cases u2
              · conv => whnf
                refine ⟨by kernel_rfl, (M - (c + 1)).toNat, by omega, _, ?_, rfl⟩
                rw [wrap_i64 (by omega)]
                refine ⟨rfl, by omega, by omega, fun c' k1 k2 => ?_⟩
                rcases (by omega : c' < c ∨ c' = c) with k3 | rfl
                · exact c3 c' k1 k3
                · exact fun _ w => by rw [w] at t2; cases t2
              · conv => whnf
                refine ⟨⟨rfl, by omega, by omega⟩, ?_⟩
                conv => whnf
                refine ⟨_, map_get (by omega), ?_⟩
                conv => whnf
                refine l01Bit.ac _ _ fun u3 t3 => ?_
                conv => whnf
                cases u3
                · conv => whnf
                  exact no fun h => by
                    have := ((h.2.2.2.1 a (by omega) (by omega)).2.2 b (by omega) (by omega)).2 c (by omega) (by omega) t1 t2
                    rw [this] at t3; cases t3
                · conv => whnf
                  refine ⟨by kernel_rfl, (M - (c + 1)).toNat, by omega, _, ?_, rfl⟩
                  rw [wrap_i64 (by omega)]
                  refine ⟨rfl, by omega, by omega, fun c' k1 k2 => ?_⟩
                  rcases (by omega : c' < c ∨ c' = c) with k3 | rfl
                  · exact c3 c' k1 k3
                  · exact fun _ _ => t3
          · conv => whnf
            have eC : c = M := by omega
            subst eC
            refine ⟨by kernel_rfl, (M - (b + 1)).toNat, by omega, _, ?_, rfl⟩
            rw [wrap_i64 (by omega)]
            refine ⟨rfl, by omega, by omega, fun b' k1 k2 => ?_⟩
            rcases (by omega : b' < b ∨ b' = b) with k3 | rfl
            · exact b3 b' k1 k3
            · exact ⟨nb, fun c' m1 m2 => c3 c' m1 m2⟩
        · conv => whnf
          refine ⟨⟨rfl, by omega, by omega⟩, ?_⟩
          conv => whnf
          refine ⟨_, map_get (by omega), ?_⟩
          conv => whnf
          refine l01Bit.ac _ _ fun v2 s2 => ?_
          conv => whnf
          cases v2
          · conv => whnf
            have nb : ¬ (a ≠ b ∧ bit (up.getD a.toNat default) b = true ∧ bit (up.getD b.toNat default) a = true) := fun w => by rw [w.2.2] at s2; cases s2
            refine cwF_loop (fun n st => ∃ c : Int, (n = (M - c).toNat ∧ 0 ≤ c ∧ c ≤ M ∧ ∀ c' : Int, 0 ≤ c' → c' < c → bit (up.getD a.toNat default) b = true → bit (up.getD b.toNat default) c' = true → bit (up.getD a.toNat default) c' = true) ∧
              st = ⟨[.un, .lp (3, 0) 2 0 0, .un, iv a, iv b, iv c] ++ List.replicate 125 .un, mkOb [((3, 0), some (.arr false 2 [latV M up]))]⟩) M (by kernel_rfl) ⟨_, ?_, rfl⟩ ?_
            · exact ⟨by simp, by omega, by omega, fun c' _ _ => by omega⟩
            rintro n st ⟨c, ⟨rfl, c1, c2, c3⟩, rfl⟩
            conv => whnf
            refine vif_dec (fun c4 => ?_) (fun c4 => ?_)
            · conv => whnf
              refine ⟨⟨rfl, by omega, by omega⟩, ?_⟩
              conv => whnf
              refine ⟨_, map_get (by omega), ?_⟩
              conv => whnf
              refine l01Bit.ac _ _ fun u1 t1 => ?_
              conv => whnf
              cases u1
              · conv => whnf
                refine ⟨by kernel_rfl, (M - (c + 1)).toNat, by omega, _, ?_, rfl⟩
                rw [wrap_i64 (by omega)]
                refine ⟨rfl, by omega, by omega, fun c' k1 k2 => ?_⟩
                rcases (by omega : c' < c ∨ c' = c) with k3 | rfl
                · exact c3 c' k1 k3
                · exact fun w => by rw [w] at t1; cases t1
              · conv => whnf
                refine ⟨⟨rfl, by omega, by omega⟩, ?_⟩
                conv => whnf
                refine ⟨_, map_get (by omega), ?_⟩
                conv => whnf
                refine l01Bit.ac _ _ fun u2 t2 => ?_
                conv => whnf
                cases u2
                · conv => whnf
                  refine ⟨by kernel_rfl, (M - (c + 1)).toNat, by omega, _, ?_, rfl⟩
                  rw [wrap_i64 (by omega)]
                  refine ⟨rfl, by omega, by omega, fun c' k1 k2 => ?_⟩
                  rcases (by omega : c' < c ∨ c' = c) with k3 | rfl
                  · exact c3 c' k1 k3
                  · exact fun _ w => by rw [w] at t2; cases t2
                · conv => whnf
                  refine ⟨⟨rfl, by omega, by omega⟩, ?_⟩
                  conv => whnf
                  refine ⟨_, map_get (by omega), ?_⟩
                  conv => whnf
                  refine l01Bit.ac _ _ fun u3 t3 => ?_
                  conv => whnf
                  cases u3
                  · conv => whnf
                    exact no fun h => by
                      have := ((h.2.2.2.1 a (by omega) (by omega)).2.2 b (by omega) (by omega)).2 c (by omega) (by omega) t1 t2
                      rw [this] at t3; cases t3
                  · conv => whnf
                    refine ⟨by kernel_rfl, (M - (c + 1)).toNat, by omega, _, ?_, rfl⟩
                    rw [wrap_i64 (by omega)]
                    refine ⟨rfl, by omega, by omega, fun c' k1 k2 => ?_⟩
                    rcases (by omega : c' < c ∨ c' = c) with k3 | rfl
                    · exact c3 c' k1 k3
                    · exact fun _ _ => t3
            · conv => whnf
              have eC : c = M := by omega
              subst eC
              refine ⟨by kernel_rfl, (M - (b + 1)).toNat, by omega, _, ?_, rfl⟩
              rw [wrap_i64 (by omega)]
              refine ⟨rfl, by omega, by omega, fun b' k1 k2 => ?_⟩
              rcases (by omega : b' < b ∨ b' = b) with k3 | rfl
              · exact b3 b' k1 k3
              · exact ⟨nb, fun c' m1 m2 => c3 c' m1 m2⟩
          · conv => whnf
            exact no fun h => ((h.2.2.2.1 a (by omega) (by omega)).2.2 b (by omega) (by omega)).1 ⟨by simpa using hne, s1, s2⟩
    · conv => whnf
      have eB : b = M := by omega
      subst eB
      refine ⟨by kernel_rfl, (M - (a + 1)).toNat, by omega, _, ?_, rfl⟩
      rw [wrap_i64 (by omega)]
      refine ⟨rfl, by omega, by omega, fun a' k1 k2 => ?_⟩
      rcases (by omega : a' < a ∨ a' = a) with k3 | rfl
      · exact a3 a' k1 k3
      · exact ⟨r1, r3, fun b' m1 m2 => b3 b' m1 m2⟩
  · conv => whnf
    have eA : a = M := by omega
    subst eA
    have rows := a3
    clear a3 a1 a2 a4
    refine cwF_loop (fun n st => ∃ a : Int, (n = (M - a).toNat ∧ 0 ≤ a ∧ a ≤ M ∧ ∀ a' b' : Int, 0 ≤ b' → b' < a' → a' < a → 0 ≤ bound M up a' b' true ∧ 0 ≤ bound M up a' b' false) ∧
      st = ⟨[.un, .lp (3, 0) 2 0 0, .un, .un, .un, .un, iv a] ++ List.replicate 124 .un, mkOb [((3, 0), some (.arr false 2 [latV M up]))]⟩) M (by kernel_rfl) ⟨_, ?_, rfl⟩ ?_
    · exact ⟨by simp, by omega, by omega, fun c' _ _ => by omega⟩
    rintro n st ⟨a, ⟨rfl, a1, a2, a3⟩, rfl⟩
    conv => whnf
    refine vif_dec (fun a4 => ?_) (fun a4 => ?_)
    · conv => whnf
      refine cwF_loop (fun n st => ∃ b : Int, (n = (a - b).toNat ∧ 0 ≤ b ∧ b ≤ a ∧ ∀ b' : Int, 0 ≤ b' → b' < b → 0 ≤ bound M up a b' true ∧ 0 ≤ bound M up a b' false) ∧
        st = ⟨[.un, .lp (3, 0) 2 0 0, .un, .un, .un, .un, iv a, iv b] ++ List.replicate 123 .un, mkOb [((3, 0), some (.arr false 2 [latV M up]))]⟩) a.toNat (by kernel_rfl) ⟨_, ?_, rfl⟩ ?_
      · exact ⟨by simp, by omega, by omega, fun c' _ _ => by omega⟩
      rintro n st ⟨b, ⟨rfl, b1, b2, b3⟩, rfl⟩
      conv => whnf
      refine vif_dec (fun b4 => ?_) (fun b4 => ?_)
      · conv => whnf
        refine l01Bound.ac _ _ _ _ _ (by omega) (by omega) (by omega) (by omega) fun r1 s1 => ?_
        conv => whnf
        by_cases p1 : r1 < 0
        · rw [decide_eq_true p1]
          conv => whnf
          exact no fun h => by have := (h.2.2.2.2 a b (by omega) (by omega) (by omega)).1; rw [Int.toNat_natCast, s1] at this; omega
        rw [decide_eq_false p1]
        conv => whnf
        refine l01Bound.ac _ _ _ _ _ (by omega) (by omega) (by omega) (by omega) fun r2 s2 => ?_
        conv => whnf
        refine vif_dec (fun p2 => ?_) (fun p2 => ?_)
        · conv => whnf
          exact no fun h => by have := (h.2.2.2.2 a b (by omega) (by omega) (by omega)).2; rw [Int.toNat_natCast, s2] at this; omega
        conv => whnf
        refine ⟨by kernel_rfl, (a - (b + 1)).toNat, by omega, _, ?_, rfl⟩
        rw [wrap_i64 (by omega)]
        refine ⟨rfl, by omega, by omega, fun b' k1 k2 => ?_⟩
        rcases (by omega : b' < b ∨ b' = b) with k3 | rfl
        · exact b3 b' k1 k3
        · exact ⟨by omega, by omega⟩
      · conv => whnf
        have eB : b = a := by omega
        subst eB
        refine ⟨by kernel_rfl, (M - (b + 1)).toNat, by omega, _, ?_, rfl⟩
        rw [wrap_i64 (by omega)]
        refine ⟨rfl, by omega, by omega, fun a' b' k1 k2 k3 => ?_⟩
        rcases (by omega : a' < b ∨ a' = b) with k4 | rfl
        · exact a3 a' b' k1 k2 k4
        · exact b3 b' k1 k2
    · conv => whnf
      have eA : a = M := by omega
      subst eA
      exact hK true ⟨fun _ => ⟨by omega, by omega, by omega, by rw [Int.toNat_natCast]; exact rows, by rw [Int.toNat_natCast]; exact a3⟩, fun _ => rfl⟩
end Go.Eng.T.L

namespace Go.Eng.T.L
open Go.Proofs Go.Eng
set_option maxRecDepth 100000
set_option maxHeartbeats 0

abbrev upO (up : List Int) : Obj := .arr true 1 (up.map uv)
abbrev latW (N : Int) (up : List Int) : V := .agg [iv N, .ls (0, 0) 1 0 (up.map uv).length]
theorem map_get0 {α : Type} [Inhabited α] {f : α → V} {l : List α} {i : Int} (h : 0 ≤ i ∧ i < (l.map f).length) : (l.map f)[0 + i.toNat]? = some (f (l.getD i.toNat default)) := by
  rw [Nat.zero_add]; exact map_get h

theorem l01Side.acW (N : Int) (up : List Int) (a c : Int) (u : Bool) (ha : 0 ≤ a ∧ a < (up.map uv).length) (hc : 0 ≤ c ∧ c < (up.map uv).length) {K : V → List Obj → List Obj → Prop} (hK : ∀ r, side up a c u = r → K (bv r) [upO up] []) : AC Try.prog 126 [latW N up, iv a, iv c, bv u] [upO up] K := by
  refine ac_body (ann []) [((6, 0), true), ((0, 0), false)] hm htt Try.func126 rfl (by kernel_rfl) rfl rfl ?_
  conv => whnf
  refine vif_bool (fun h => ?_) (fun h => ?_)
  · subst h
    conv => whnf
    refine ⟨⟨rfl, ha⟩, ?_⟩
    conv => whnf
    refine ⟨rfl, _, map_get0 ha, ?_⟩
    conv => whnf
    refine l01Bit.ac _ _ fun r hr => ?_
    conv => whnf
    exact hK r hr
  · subst h
    conv => whnf
    refine ⟨⟨rfl, hc⟩, ?_⟩
    conv => whnf
    refine ⟨rfl, _, map_get0 hc, ?_⟩
    conv => whnf
    refine l01Bit.ac _ _ fun r hr => ?_
    conv => whnf
    exact hK r hr
theorem l01Bound.acW (N : Nat) (up : List Int) (a b : Int) (u : Bool) (hN : N ≤ 16) (hu : up.length = N) (ha : 0 ≤ a ∧ a < N) (hb : 0 ≤ b ∧ b < N) {K : V → List Obj → List Obj → Prop} (hK : ∀ r, bound N up a b u = r → K (iv r) [upO up] []) : AC Try.prog 125 [latW N up, iv a, iv b, bv u] [upO up] K := by
  have hl : (up.map uv).length = N := by rw [List.length_map, hu]
  refine ac_body (ann [(2, [1, 2, 3, 4, 9], [(6, 0), (0, 0)]), (6, [1, 2, 3, 4, 9, 10, 11], [(6, 0), (0, 0)])]) [((6, 0), true), ((0, 0), false)] hm htt Try.func125 rfl (by kernel_rfl) rfl rfl ?_
  conv => whnf
  refine cwF_loop (fun n st => ∃ c : Int, (n = (N - c).toNat ∧ 0 ≤ c ∧ c ≤ N ∧ (List.range c.toNat).find? (fun (c : Nat) => fitsTo up a b u c N) = none) ∧
    st = ⟨[.un, iv a, iv b, bv u, .lp (6, 0) 2 0 0, .un, .un, .un, .un, iv c] ++ List.replicate 51 .un, mkOb [((6, 0), some (.arr false 2 [latW N up])), ((0, 0), some (upO up))]⟩) N (by kernel_rfl) ⟨_, ?_, rfl⟩ ?_
  · exact ⟨by simp, by omega, by omega, by simp⟩
  rintro n st ⟨c, ⟨rfl, h1, h2, h3⟩, rfl⟩
  conv => whnf
  refine vif_dec (fun h4 => ?_) (fun h4 => ?_)
  case refine_2.refine_2 =>
    conv => whnf
    have e : c = N := by omega
    subst e
    rw [Int.toNat_natCast] at h3
    exact hK _ (by simp only [bound, h3])
  conv => whnf
  refine l01Side.acW _ _ _ _ _ (by omega) (by omega) fun rhs hs => ?_
  conv => whnf
  have h5 : ∀ f, f = fitsTo up a b u c 0 → True := fun _ _ => trivial
  cases rhs
  rotate_left
  · conv => whnf
    refine l01Side.acW _ _ _ _ _ (by omega) (by omega) fun rhs2 hs2 => ?_
    conv => whnf
    refine cwF_loop (fun n st => ∃ (d : Int) (f : Bool), (n = (N - d).toNat ∧ 0 ≤ d ∧ d ≤ N ∧ f = fitsTo up a b u c d.toNat) ∧
      st = ⟨[.un, iv a, iv b, bv u, .lp (6, 0) 2 0 0, .un, .un, .un, .un, iv c, bv f, iv d] ++ List.replicate 49 .un, mkOb [((6, 0), some (.arr false 2 [latW N up])), ((0, 0), some (upO up))]⟩) N (by kernel_rfl) ⟨_, _, ?_, rfl⟩ ?_
    · exact ⟨by simp, by omega, by omega, by simp [fitsTo, hs, hs2]⟩
    rintro n st ⟨d, f, ⟨rfl, g1, g2, g3⟩, rfl⟩
    conv => whnf
    have next : fitsTo up a b u c N = false → (List.range (c + 1).toNat).find? (fun (c : Nat) => fitsTo up a b u c N) = none := fun h => find_next h1 h3 (by rw [show ((c.toNat : Nat) : Int) = c by omega]; exact h)
    cases hd : decide (d < (N : Int))
    · have e : d = N := by have := of_decide_eq_false hd; omega
      subst e
      rw [Int.toNat_natCast] at g3
      cases f
      · conv => whnf
        refine ⟨by kernel_rfl, (N - (c + 1)).toNat, by omega, _, ?_, rfl⟩
        rw [wrap_i64 (by omega)]
        exact ⟨rfl, by omega, by omega, next g3.symm⟩
      · conv => whnf
        have h5 := find_here (p := fun (c : Nat) => fitsTo up a b u c N) h1 h4 h3 (by rw [show ((c.toNat : Nat) : Int) = c by omega]; exact g3.symm)
        exact hK _ (by simp only [bound, h5]; omega)
    · have hd := of_decide_eq_true hd
      cases f
      · conv => whnf
        refine ⟨by kernel_rfl, (N - (c + 1)).toNat, by omega, _, ?_, rfl⟩
        rw [wrap_i64 (by omega)]
        exact ⟨rfl, by omega, by omega, next (fitsTo_le (by omega) g3.symm)⟩
      · conv => whnf
        refine l01Side.acW _ _ _ _ _ (by omega) (by omega) fun rs1 s1 => ?_
        conv => whnf
        cases rs1
        · conv => whnf
          refine ⟨by kernel_rfl, (N - (d + 1)).toNat, by omega, _, _, ?_, rfl⟩
          rw [wrap_i64 (by omega)]
          exact ⟨rfl, by omega, by omega, by rw [fitsTo_succ g1, ← g3, s1]; rfl⟩
        · conv => whnf
          refine l01Side.acW _ _ _ _ _ (by omega) (by omega) fun rs2 s2 => ?_
          conv => whnf
          cases rs2
          · conv => whnf
            refine ⟨by kernel_rfl, (N - (d + 1)).toNat, by omega, _, _, ?_, rfl⟩
            rw [wrap_i64 (by omega)]
            exact ⟨rfl, by omega, by omega, by rw [fitsTo_succ g1, ← g3, s1, s2]; rfl⟩
          · conv => whnf
            refine l01Side.acW _ _ _ _ _ (by omega) (by omega) fun rs3 s3 => ?_
            conv => whnf
            cases rs3
            · conv => whnf
              refine ⟨by kernel_rfl, (N - (d + 1)).toNat, by omega, _, _, ?_, rfl⟩
              rw [wrap_i64 (by omega)]
              exact ⟨rfl, by omega, by omega, by rw [fitsTo_succ g1, ← g3, s1, s2, s3]; rfl⟩
            · conv => whnf
              refine ⟨by kernel_rfl, (N - (d + 1)).toNat, by omega, _, _, ?_, rfl⟩
              rw [wrap_i64 (by omega)]
              exact ⟨rfl, by omega, by omega, by rw [fitsTo_succ g1, ← g3, s1, s2, s3]; rfl⟩
  · conv => whnf
    have hs2 : true = true := rfl
    refine cwF_loop (fun n st => ∃ (d : Int) (f : Bool), (n = (N - d).toNat ∧ 0 ≤ d ∧ d ≤ N ∧ f = fitsTo up a b u c d.toNat) ∧
      st = ⟨[.un, iv a, iv b, bv u, .lp (6, 0) 2 0 0, .un, .un, .un, .un, iv c, bv f, iv d] ++ List.replicate 49 .un, mkOb [((6, 0), some (.arr false 2 [latW N up])), ((0, 0), some (upO up))]⟩) N (by kernel_rfl) ⟨_, _, ?_, rfl⟩ ?_
    · exact ⟨by simp, by omega, by omega, by simp [fitsTo, hs, hs2]⟩
    rintro n st ⟨d, f, ⟨rfl, g1, g2, g3⟩, rfl⟩
    conv => whnf
    have next : fitsTo up a b u c N = false → (List.range (c + 1).toNat).find? (fun (c : Nat) => fitsTo up a b u c N) = none := fun h => find_next h1 h3 (by rw [show ((c.toNat : Nat) : Int) = c by omega]; exact h)
    cases hd : decide (d < (N : Int))
    · have e : d = N := by have := of_decide_eq_false hd; omega
      subst e
      rw [Int.toNat_natCast] at g3
      cases f
      · conv => whnf
        refine ⟨by kernel_rfl, (N - (c + 1)).toNat, by omega, _, ?_, rfl⟩
        rw [wrap_i64 (by omega)]
        exact ⟨rfl, by omega, by omega, next g3.symm⟩
      · conv => whnf
        have h5 := find_here (p := fun (c : Nat) => fitsTo up a b u c N) h1 h4 h3 (by rw [show ((c.toNat : Nat) : Int) = c by omega]; exact g3.symm)
        exact hK _ (by simp only [bound, h5]; omega)
    · have hd := of_decide_eq_true hd
      cases f
      · conv => whnf
        refine ⟨by kernel_rfl, (N - (c + 1)).toNat, by omega, _, ?_, rfl⟩
        rw [wrap_i64 (by omega)]
        exact ⟨rfl, by omega, by omega, next (fitsTo_le (by omega) g3.symm)⟩
      · conv => whnf
        refine l01Side.acW _ _ _ _ _ (by omega) (by omega) fun rs1 s1 => ?_
        conv => whnf
        cases rs1
        · conv => whnf
          refine ⟨by kernel_rfl, (N - (d + 1)).toNat, by omega, _, _, ?_, rfl⟩
          rw [wrap_i64 (by omega)]
          exact ⟨rfl, by omega, by omega, by rw [fitsTo_succ g1, ← g3, s1]; rfl⟩
        · conv => whnf
          refine l01Side.acW _ _ _ _ _ (by omega) (by omega) fun rs2 s2 => ?_
          conv => whnf
          cases rs2
          · conv => whnf
            refine ⟨by kernel_rfl, (N - (d + 1)).toNat, by omega, _, _, ?_, rfl⟩
            rw [wrap_i64 (by omega)]
            exact ⟨rfl, by omega, by omega, by rw [fitsTo_succ g1, ← g3, s1, s2]; rfl⟩
          · conv => whnf
            refine l01Side.acW _ _ _ _ _ (by omega) (by omega) fun rs3 s3 => ?_
            conv => whnf
            cases rs3
            · conv => whnf
              refine ⟨by kernel_rfl, (N - (d + 1)).toNat, by omega, _, _, ?_, rfl⟩
              rw [wrap_i64 (by omega)]
              exact ⟨rfl, by omega, by omega, by rw [fitsTo_succ g1, ← g3, s1, s2, s3]; rfl⟩
            · conv => whnf
              refine ⟨by kernel_rfl, (N - (d + 1)).toNat, by omega, _, _, ?_, rfl⟩
              rw [wrap_i64 (by omega)]
              exact ⟨rfl, by omega, by omega, by rw [fitsTo_succ g1, ← g3, s1, s2, s3]; rfl⟩
theorem LatOkS.acW (N : Int) (up : List Int) {K : V → List Obj → List Obj → Prop} (hK : ∀ r, (r = true ↔ LatP N up) → K (bv r) [upO up] []) : AC Try.prog 121 [latW N up] [upO up] K := by
  refine ac_body (ann [(4, [1, 3], [(3, 0), (0, 0)]), (9, [1, 3, 4], [(3, 0), (0, 0)]), (14, [1, 3, 4, 5], [(3, 0), (0, 0)]), (19, [1, 6], [(3, 0), (0, 0)]), (22, [1, 6, 7], [(3, 0), (0, 0)])]) [((3, 0), true), ((0, 0), false)] hm htt Try.func121 rfl (by kernel_rfl) rfl rfl ?_
  have no : ¬ LatP N up → K (bv false) [upO up] [] := fun h => hK _ ⟨fun h1 => (nomatch h1), fun h1 => absurd h1 h⟩
  conv => whnf
  by_cases q1 : N < 1
  · rw [decide_eq_true q1]
    conv => whnf
    exact no fun h => by have := h.1; omega
  rw [decide_eq_false q1]
  conv => whnf
  by_cases q2 : N > 16
  · rw [decide_eq_true q2]
    conv => whnf
    exact no fun h => by have := h.2.1; omega
  rw [decide_eq_false q2]
  conv => whnf
  refine vif_bool (fun q3 => ?_) (fun q3 => ?_)
  · conv => whnf
    exact no fun h => by have := h.2.2.1; simp at q3; omega
  conv => whnf
  simp only [List.length_map, bne_eq_false_iff_eq] at q3
  obtain ⟨M, rfl⟩ : ∃ M : Nat, N = M := ⟨N.toNat, by omega⟩
  have hl : (up.map uv).length = M := by rw [List.length_map]; omega
  refine cwF_loop (fun n st => ∃ a : Int, (n = (M - a).toNat ∧ 0 ≤ a ∧ a ≤ M ∧ ∀ a' : Int, 0 ≤ a' → a' < a → RowA M up a') ∧
    st = ⟨[.un, .lp (3, 0) 2 0 0, .un, iv a] ++ List.replicate 127 .un, mkOb [((3, 0), some (.arr false 2 [latW M up])), ((0, 0), some (upO up))]⟩) M (by kernel_rfl) ⟨_, ?_, rfl⟩ ?_
  · exact ⟨by simp, by omega, by omega, fun a' _ _ => by omega⟩
  rintro n st ⟨a, ⟨rfl, a1, a2, a3⟩, rfl⟩
  conv => whnf
  refine vif_dec (fun a4 => ?_) (fun a4 => ?_)
  · conv => whnf
    refine ⟨⟨rfl, by omega, by omega⟩, ?_⟩
    conv => whnf
    refine ⟨rfl, _, map_get0 (by omega), ?_⟩
    conv => whnf
    refine ⟨by kernel_rfl, ?_⟩
    conv => whnf
    refine l01Bit.ac _ _ fun w1 r1 => ?_
    conv => whnf
    cases w1
    · conv => whnf
      refine ⟨by kernel_rfl, ?_⟩
      conv => whnf
      refine ⟨by kernel_rfl, ?_⟩
      conv => whnf
      exact no fun h => by have := (h.2.2.2.1 a (by omega) (by omega)).1; rw [this] at r1; cases r1
    conv => whnf
    refine ⟨⟨rfl, by omega, by omega⟩, ?_⟩
    conv => whnf
    refine ⟨rfl, _, map_get0 (by omega), ?_⟩
    conv => whnf
    refine ⟨by kernel_rfl, ?_⟩
    conv => whnf
    refine l01Power.ac _ (by omega) ?_
    conv => whnf
    refine ⟨by kernel_rfl, ?_⟩
    conv => whnf
    refine vif_dec (fun r3 => ?_) (fun r3 => ?_)
    · conv => whnf
      exact no fun h => by have := (h.2.2.2.1 a (by omega) (by omega)).2.1; omega
    conv => whnf
    have r3 : up.getD a.toNat default < 2 ^ M := by rw [Int.toNat_natCast] at r3; omega
    refine cwF_loop (fun n st => ∃ b : Int, (n = (M - b).toNat ∧ 0 ≤ b ∧ b ≤ M ∧ ∀ b' : Int, 0 ≤ b' → b' < b → RowB M up a b') ∧
      st = ⟨[.un, .lp (3, 0) 2 0 0, .un, iv a, iv b] ++ List.replicate 126 .un, mkOb [((3, 0), some (.arr false 2 [latW M up])), ((0, 0), some (upO up))]⟩) M (by kernel_rfl) ⟨_, ?_, rfl⟩ ?_
    · exact ⟨by simp, by omega, by omega, fun c' _ _ => by omega⟩
    rintro n st ⟨b, ⟨rfl, b1, b2, b3⟩, rfl⟩
    conv => whnf
    refine vif_dec (fun b4 => ?_) (fun b4 => ?_)
    · conv => whnf
      rcases (Bool.eq_false_or_eq_true (a != b)).symm with hne | hne
      all_goals rw [hne]
      · conv => whnf
        have nb : ¬ (a ≠ b ∧ bit (up.getD a.toNat default) b = true ∧ bit (up.getD b.toNat default) a = true) := fun w => by simp at hne; exact w.1 hne
        refine cwF_loop (fun n st => ∃ c : Int, (n = (M - c).toNat ∧ 0 ≤ c ∧ c ≤ M ∧ ∀ c' : Int, 0 ≤ c' → c' < c → bit (up.getD a.toNat default) b = true → bit (up.getD b.toNat default) c' = true → bit (up.getD a.toNat default) c' = true) ∧
          st = ⟨[.un, .lp (3, 0) 2 0 0, .un, iv a, iv b, iv c] ++ List.replicate 125 .un, mkOb [((3, 0), some (.arr false 2 [latW M up])), ((0, 0), some (upO up))]⟩) M (by kernel_rfl) ⟨_, ?_, rfl⟩ ?_
        · exact ⟨by simp, by omega, by omega, fun c' _ _ => by omega⟩
        rintro n st ⟨c, ⟨rfl, c1, c2, c3⟩, rfl⟩
        conv => whnf
        refine vif_dec (fun c4 => ?_) (fun c4 => ?_)
        · conv => whnf
          refine ⟨⟨rfl, by omega, by omega⟩, ?_⟩
          conv => whnf
          refine ⟨rfl, _, map_get0 (by omega), ?_⟩
          conv => whnf
          refine l01Bit.ac _ _ fun u1 t1 => ?_
          conv => whnf
          cases u1
          · conv => whnf
            refine ⟨by kernel_rfl, (M - (c + 1)).toNat, by omega, _, ?_, rfl⟩
            rw [wrap_i64 (by omega)]
            refine ⟨rfl, by omega, by omega, fun c' k1 k2 => ?_⟩
            rcases (by omega : c' < c ∨ c' = c) with k3 | rfl
            · exact c3 c' k1 k3
            · exact fun w => by rw [w] at t1; cases t1
          · conv => whnf
            refine ⟨⟨rfl, by omega, by omega⟩, ?_⟩
            conv => whnf
            refine ⟨rfl, _, map_get0 (by omega), ?_⟩
            conv => whnf
            refine l01Bit.ac _ _ fun u2 t2 => ?_
            conv => whnf
            cases u2
            · conv => whnf
              refine ⟨by kernel_rfl, (M - (c + 1)).toNat, by omega, _, ?_, rfl⟩
              rw [wrap_i64 (by omega)]
              refine ⟨rfl, by omega, by omega, fun c' k1 k2 => ?_⟩
              rcases (by omega : c' < c ∨ c' = c) with k3 | rfl
              · exact c3 c' k1 k3
              · exact fun _ w => by rw [w] at t2; cases t2
            · conv => whnf
              refine ⟨⟨rfl, by omega, by omega⟩, ?_⟩
              conv => whnf
              refine ⟨rfl, _, map_get0 (by omega), ?_⟩
              conv => whnf
              refine l01Bit.ac _ _ fun u3 t3 => ?_
              conv => whnf
              cases u3
              · conv => whnf
                exact no fun h => by
                  have := ((h.2.2.2.1 a (by omega) (by omega)).2.2 b (by omega) (by omega)).2 c (by omega) (by omega) t1 t2
                  rw [this] at t3; cases t3
              · conv => whnf
                refine ⟨by kernel_rfl, (M - (c + 1)).toNat, by omega, _, ?_, rfl⟩
                rw [wrap_i64 (by omega)]
                refine ⟨rfl, by omega, by omega, fun c' k1 k2 => ?_⟩
                rcases (by omega : c' < c ∨ c' = c) with k3 | rfl
                · exact c3 c' k1 k3
                · exact fun _ _ => t3
        · conv => whnf
          have eC : c = M := by omega
          subst eC
          refine ⟨by kernel_rfl, (M - (b + 1)).toNat, by omega, _, ?_, rfl⟩
          rw [wrap_i64 (by omega)]
          refine ⟨rfl, by omega, by omega, fun b' k1 k2 => ?_⟩
          rcases (by omega : b' < b ∨ b' = b) with k3 | rfl
          · exact b3 b' k1 k3
          · exact ⟨nb, fun c' m1 m2 => c3 c' m1 m2⟩
      · conv => whnf
        refine ⟨⟨rfl, by omega, by omega⟩, ?_⟩
        conv => whnf
        refine ⟨rfl, _, map_get0 (by omega), ?_⟩
        conv => whnf
        refine l01Bit.ac _ _ fun v1 s1 => ?_
        conv => whnf
        cases v1
        · conv => whnf
          have nb : ¬ (a ≠ b ∧ bit (up.getD a.toNat default) b = true ∧ bit (up.getD b.toNat default) a = true) := fun w => by rw [w.2.1] at s1; cases s1
          refine cwF_loop (fun n st => ∃ c : Int, (n = (M - c).toNat ∧ 0 ≤ c ∧ c ≤ M ∧ ∀ c' : Int, 0 ≤ c' → c' < c → bit (up.getD a.toNat default) b = true → bit (up.getD b.toNat default) c' = true → bit (up.getD a.toNat default) c' = true) ∧
            st = ⟨[.un, .lp (3, 0) 2 0 0, .un, iv a, iv b, iv c] ++ List.replicate 125 .un, mkOb [((3, 0), some (.arr false 2 [latW M up])), ((0, 0), some (upO up))]⟩) M (by kernel_rfl) ⟨_, ?_, rfl⟩ ?_
          · exact ⟨by simp, by omega, by omega, fun c' _ _ => by omega⟩
          rintro n st ⟨c, ⟨rfl, c1, c2, c3⟩, rfl⟩
          conv => whnf
          refine vif_dec (fun c4 => ?_) (fun c4 => ?_)
          · conv => whnf
            refine ⟨⟨rfl, by omega, by omega⟩, ?_⟩
            conv => whnf
            refine ⟨rfl, _, map_get0 (by omega), ?_⟩
            conv => whnf
            refine l01Bit.ac _ _ fun u1 t1 => ?_
            conv => whnf
            cases u1
            · conv => whnf
              refine ⟨by kernel_rfl, (M - (c + 1)).toNat, by omega, _, ?_, rfl⟩
              rw [wrap_i64 (by omega)]
              refine ⟨rfl, by omega, by omega, fun c' k1 k2 => ?_⟩
              rcases (by omega : c' < c ∨ c' = c) with k3 | rfl
              · exact c3 c' k1 k3
              · exact fun w => by rw [w] at t1; cases t1
            · conv => whnf
              refine ⟨⟨rfl, by omega, by omega⟩, ?_⟩
              conv => whnf
              refine ⟨rfl, _, map_get0 (by omega), ?_⟩
              conv => whnf
              refine l01Bit.ac _ _ fun u2 t2 => ?_
              conv => whnf
              cases u2
              · conv => whnf
                refine ⟨by kernel_rfl, (M - (c + 1)).toNat, by omega, _, ?_, rfl⟩
                rw [wrap_i64 (by omega)]
                refine ⟨rfl, by omega, by omega, fun c' k1 k2 => ?_⟩
                rcases (by omega : c' < c ∨ c' = c) with k3 | rfl
                · exact c3 c' k1 k3
                · exact fun _ w => by rw [w] at t2; cases t2
              · conv => whnf
                refine ⟨⟨rfl, by omega, by omega⟩, ?_⟩
                conv => whnf
                refine ⟨rfl, _, map_get0 (by omega), ?_⟩
                conv => whnf
                refine l01Bit.ac _ _ fun u3 t3 => ?_
                conv => whnf
                cases u3
                · conv => whnf
                  exact no fun h => by
                    have := ((h.2.2.2.1 a (by omega) (by omega)).2.2 b (by omega) (by omega)).2 c (by omega) (by omega) t1 t2
                    rw [this] at t3; cases t3
                · conv => whnf
                  refine ⟨by kernel_rfl, (M - (c + 1)).toNat, by omega, _, ?_, rfl⟩
                  rw [wrap_i64 (by omega)]
                  refine ⟨rfl, by omega, by omega, fun c' k1 k2 => ?_⟩
                  rcases (by omega : c' < c ∨ c' = c) with k3 | rfl
                  · exact c3 c' k1 k3
                  · exact fun _ _ => t3
          · conv => whnf
            have eC : c = M := by omega
            subst eC
            refine ⟨by kernel_rfl, (M - (b + 1)).toNat, by omega, _, ?_, rfl⟩
            rw [wrap_i64 (by omega)]
            refine ⟨rfl, by omega, by omega, fun b' k1 k2 => ?_⟩
            rcases (by omega : b' < b ∨ b' = b) with k3 | rfl
            · exact b3 b' k1 k3
            · exact ⟨nb, fun c' m1 m2 => c3 c' m1 m2⟩
        · conv => whnf
          refine ⟨⟨rfl, by omega, by omega⟩, ?_⟩
          conv => whnf
          refine ⟨rfl, _, map_get0 (by omega), ?_⟩
          conv => whnf
          refine l01Bit.ac _ _ fun v2 s2 => ?_
          conv => whnf
          cases v2
          · conv => whnf
            have nb : ¬ (a ≠ b ∧ bit (up.getD a.toNat default) b = true ∧ bit (up.getD b.toNat default) a = true) := fun w => by rw [w.2.2] at s2; cases s2
            refine cwF_loop (fun n st => ∃ c : Int, (n = (M - c).toNat ∧ 0 ≤ c ∧ c ≤ M ∧ ∀ c' : Int, 0 ≤ c' → c' < c → bit (up.getD a.toNat default) b = true → bit (up.getD b.toNat default) c' = true → bit (up.getD a.toNat default) c' = true) ∧
              st = ⟨[.un, .lp (3, 0) 2 0 0, .un, iv a, iv b, iv c] ++ List.replicate 125 .un, mkOb [((3, 0), some (.arr false 2 [latW M up])), ((0, 0), some (upO up))]⟩) M (by kernel_rfl) ⟨_, ?_, rfl⟩ ?_
            · exact ⟨by simp, by omega, by omega, fun c' _ _ => by omega⟩
            rintro n st ⟨c, ⟨rfl, c1, c2, c3⟩, rfl⟩
            conv => whnf
            refine vif_dec (fun c4 => ?_) (fun c4 => ?_)
            · conv => whnf
              refine ⟨⟨rfl, by omega, by omega⟩, ?_⟩
              conv => whnf
              refine ⟨rfl, _, map_get0 (by omega), ?_⟩
              conv => whnf
              refine l01Bit.ac _ _ fun u1 t1 => ?_
              conv => whnf
              cases u1
              · conv => whnf
                refine ⟨by kernel_rfl, (M - (c + 1)).toNat, by omega, _, ?_, rfl⟩
                rw [wrap_i64 (by omega)]
                refine ⟨rfl, by omega, by omega, fun c' k1 k2 => ?_⟩
                rcases (by omega : c' < c ∨ c' = c) with k3 | rfl
                · exact c3 c' k1 k3
                · exact fun w => by rw [w] at t1; cases t1
              · conv => whnf
                refine ⟨⟨rfl, by omega, by omega⟩, ?_⟩
                conv => whnf
                refine ⟨rfl, _, map_get0 (by omega), ?_⟩
                conv => whnf
                refine l01Bit.ac _ _ fun u2 t2 => ?_
                conv => whnf
                cases u2
                · conv => whnf
                  refine ⟨by kernel_rfl, (M - (c + 1)).toNat, by omega, _, ?_, rfl⟩
                  rw [wrap_i64 (by omega)]
                  refine ⟨rfl, by omega, by omega, fun c' k1 k2 => ?_⟩
                  rcases (by omega : c' < c ∨ c' = c) with k3 | rfl
                  · exact c3 c' k1 k3
                  · exact fun _ w => by rw [w] at t2; cases t2
                · conv => whnf
                  refine ⟨⟨rfl, by omega, by omega⟩, ?_⟩
                  conv => whnf
                  refine ⟨rfl, _, map_get0 (by omega), ?_⟩
                  conv => whnf
                  refine l01Bit.ac _ _ fun u3 t3 => ?_
                  conv => whnf
                  cases u3
                  · conv => whnf
                    exact no fun h => by
                      have := ((h.2.2.2.1 a (by omega) (by omega)).2.2 b (by omega) (by omega)).2 c (by omega) (by omega) t1 t2
                      rw [this] at t3; cases t3
                  · conv => whnf
                    refine ⟨by kernel_rfl, (M - (c + 1)).toNat, by omega, _, ?_, rfl⟩
                    rw [wrap_i64 (by omega)]
                    refine ⟨rfl, by omega, by omega, fun c' k1 k2 => ?_⟩
                    rcases (by omega : c' < c ∨ c' = c) with k3 | rfl
                    · exact c3 c' k1 k3
                    · exact fun _ _ => t3
            · conv => whnf
              have eC : c = M := by omega
              subst eC
              refine ⟨by kernel_rfl, (M - (b + 1)).toNat, by omega, _, ?_, rfl⟩
              rw [wrap_i64 (by omega)]
              refine ⟨rfl, by omega, by omega, fun b' k1 k2 => ?_⟩
              rcases (by omega : b' < b ∨ b' = b) with k3 | rfl
              · exact b3 b' k1 k3
              · exact ⟨nb, fun c' m1 m2 => c3 c' m1 m2⟩
          · conv => whnf
            exact no fun h => ((h.2.2.2.1 a (by omega) (by omega)).2.2 b (by omega) (by omega)).1 ⟨by simpa using hne, s1, s2⟩
    · conv => whnf
      have eB : b = M := by omega
      subst eB
      refine ⟨by kernel_rfl, (M - (a + 1)).toNat, by omega, _, ?_, rfl⟩
      rw [wrap_i64 (by omega)]
      refine ⟨rfl, by omega, by omega, fun a' k1 k2 => ?_⟩
      rcases (by omega : a' < a ∨ a' = a) with k3 | rfl
      · exact a3 a' k1 k3
      · exact ⟨r1, r3, fun b' m1 m2 => b3 b' m1 m2⟩
  · conv => whnf
    have eA : a = M := by omega
    subst eA
    have rows := a3
    clear a3 a1 a2 a4
    refine cwF_loop (fun n st => ∃ a : Int, (n = (M - a).toNat ∧ 0 ≤ a ∧ a ≤ M ∧ ∀ a' b' : Int, 0 ≤ b' → b' < a' → a' < a → 0 ≤ bound M up a' b' true ∧ 0 ≤ bound M up a' b' false) ∧
      st = ⟨[.un, .lp (3, 0) 2 0 0, .un, .un, .un, .un, iv a] ++ List.replicate 124 .un, mkOb [((3, 0), some (.arr false 2 [latW M up])), ((0, 0), some (upO up))]⟩) M (by kernel_rfl) ⟨_, ?_, rfl⟩ ?_
    · exact ⟨by simp, by omega, by omega, fun c' _ _ => by omega⟩
    rintro n st ⟨a, ⟨rfl, a1, a2, a3⟩, rfl⟩
    conv => whnf
    refine vif_dec (fun a4 => ?_) (fun a4 => ?_)
    · conv => whnf
      refine cwF_loop (fun n st => ∃ b : Int, (n = (a - b).toNat ∧ 0 ≤ b ∧ b ≤ a ∧ ∀ b' : Int, 0 ≤ b' → b' < b → 0 ≤ bound M up a b' true ∧ 0 ≤ bound M up a b' false) ∧
        st = ⟨[.un, .lp (3, 0) 2 0 0, .un, .un, .un, .un, iv a, iv b] ++ List.replicate 123 .un, mkOb [((3, 0), some (.arr false 2 [latW M up])), ((0, 0), some (upO up))]⟩) a.toNat (by kernel_rfl) ⟨_, ?_, rfl⟩ ?_
      · exact ⟨by simp, by omega, by omega, fun c' _ _ => by omega⟩
      rintro n st ⟨b, ⟨rfl, b1, b2, b3⟩, rfl⟩
      conv => whnf
      refine vif_dec (fun b4 => ?_) (fun b4 => ?_)
      · conv => whnf
        refine l01Bound.acW _ _ _ _ _ (by omega) (by omega) (by omega) (by omega) fun r1 s1 => ?_
        conv => whnf
        by_cases p1 : r1 < 0
        · rw [decide_eq_true p1]
          conv => whnf
          exact no fun h => by have := (h.2.2.2.2 a b (by omega) (by omega) (by omega)).1; rw [Int.toNat_natCast, s1] at this; omega
        rw [decide_eq_false p1]
        conv => whnf
        refine l01Bound.acW _ _ _ _ _ (by omega) (by omega) (by omega) (by omega) fun r2 s2 => ?_
        conv => whnf
        refine vif_dec (fun p2 => ?_) (fun p2 => ?_)
        · conv => whnf
          exact no fun h => by have := (h.2.2.2.2 a b (by omega) (by omega) (by omega)).2; rw [Int.toNat_natCast, s2] at this; omega
        conv => whnf
        refine ⟨by kernel_rfl, (a - (b + 1)).toNat, by omega, _, ?_, rfl⟩
        rw [wrap_i64 (by omega)]
        refine ⟨rfl, by omega, by omega, fun b' k1 k2 => ?_⟩
        rcases (by omega : b' < b ∨ b' = b) with k3 | rfl
        · exact b3 b' k1 k3
        · exact ⟨by omega, by omega⟩
      · conv => whnf
        have eB : b = a := by omega
        subst eB
        refine ⟨by kernel_rfl, (M - (b + 1)).toNat, by omega, _, ?_, rfl⟩
        rw [wrap_i64 (by omega)]
        refine ⟨rfl, by omega, by omega, fun a' b' k1 k2 k3 => ?_⟩
        rcases (by omega : a' < b ∨ a' = b) with k4 | rfl
        · exact a3 a' b' k1 k2 k4
        · exact b3 b' k1 k2
    · conv => whnf
      have eA : a = M := by omega
      subst eA
      exact hK true ⟨fun _ => ⟨by omega, by omega, by omega, by rw [Int.toNat_natCast]; exact rows, by rw [Int.toNat_natCast]; exact a3⟩, fun _ => rfl⟩
end Go.Eng.T.L

namespace Go.Eng.T.L
open Go.Proofs Go.Eng
set_option maxRecDepth 100000
set_option maxHeartbeats 0
abbrev encE (e : Int × Int) : V := .agg [iv e.1, iv e.2]
abbrev rowO (r : List Bool) : Obj := .arr true 1 (r.map bv)
def firstFree (ob : Store) (s : Nat) : Nat → Nat → Nat
  | 0, i => i
  | n + 1, i => match ob (s, i) with
    | none => i
    | some _ => firstFree ob s n (i + 1)
def rowKs : List Key := (List.range 10).map fun i => (41, i)
def KS : List Key := (6, 0) :: (32, 0) :: (15, 0) :: (161, 1) :: rowKs
def annLatOf : Ann := { imm := fun _ => [], keep := keepL [(5, [0, 1, 4, 5, 6, 7], KS), (10, [0, 1, 4, 5, 6, 8], KS), (17, [0, 4, 5, 6, 10], KS), (20, [0, 4, 5, 6, 10, 11], KS), (23, [0, 4, 5, 6, 10, 11, 12], KS), (28, [0, 4, 5, 6, 13, 14], KS), (32, [0, 4, 5, 6, 13, 14, 15, 16], KS)], sw := fun n ob => bif Nat.beq n 5 then (match ob (41, 0) with | some _ => [((41, 0), (41, firstFree ob 41 10 1))] | none => []) else bif Nat.beq n 28 then (match ob (161, 0) with | some _ => [((161, 0), (161, 1))] | none => []) else [] }
def fkLatOf : List (Key × Bool) := [((6, 0), true), ((32, 0), true), ((15, 0), true), ((161, 1), true), ((11, 0), true), ((160, 0), true), ((999, 41), false)]

/-- One step, one row, one round of the closure. -/
def fwB (M : List (List Bool)) (k a b : Nat) : List (List Bool) :=
  M.set a ((M.getD a []).set b ((M.getD a []).getD b false || ((M.getD a []).getD k false && (M.getD k []).getD b false)))
def fwR (M : List (List Bool)) (k a b : Nat) : List (List Bool) := (List.range b).foldl (fun M b => fwB M k a b) M
def fwA (n : Nat) (M : List (List Bool)) (k a : Nat) : List (List Bool) := (List.range a).foldl (fun M a => fwR M k a n) M
def fwK (n : Nat) (M : List (List Bool)) (k : Nat) : List (List Bool) := (List.range k).foldl (fun M k => fwA n M k n) M
theorem fwR_zero {M : List (List Bool)} {k a : Nat} : fwR M k a 0 = M := rfl
theorem fwA_zero {n : Nat} {M : List (List Bool)} {k : Nat} : fwA n M k 0 = M := rfl
theorem fwK_zero {n : Nat} {M : List (List Bool)} : fwK n M 0 = M := rfl
theorem fwR_succ {M : List (List Bool)} {k a b : Nat} : fwR M k a (b + 1) = fwB (fwR M k a b) k a b := by simp [fwR, List.range_succ]
theorem fwA_succ {n : Nat} {M : List (List Bool)} {k a : Nat} : fwA n M k (a + 1) = fwR (fwA n M k a) k a n := by simp [fwA, List.range_succ]
theorem fwK_succ {n : Nat} {M : List (List Bool)} {k : Nat} : fwK n M (k + 1) = fwA n (fwK n M k) k n := by simp [fwK, List.range_succ]
theorem row_get {r : List Bool} {b : Nat} {x : Bool} (h : b < r.length) (hx : r.getD b false = x) : (r.map bv)[0 + (b : Int).toNat]? = some (bv x) := by
  rw [Int.toNat_natCast, Nat.zero_add, List.getElem?_map, List.getElem?_eq_getElem h, Option.map_some, ← hx, List.getD_eq_getElem?_getD, List.getElem?_eq_getElem h]; rfl
theorem row_set {r : List Bool} {b : Nat} {x : Bool} : (r.map bv).set (0 + (b : Int).toNat) (bv x) = (r.set b x).map bv := by
  rw [Int.toNat_natCast, Nat.zero_add, List.map_set]
theorem ask_row {r : List Bool} {b : Nat} {Q : V → Prop} (h : b < r.length) (hQ : ∀ x, r.getD b false = x → Q (bv x)) : ∃ e, (r.map bv)[0 + (b : Int).toNat]? = some e ∧ Q e :=
  ⟨_, row_get h rfl, hQ _ rfl⟩
def obindO (x : Option V) : Option (V × List (Key × Obj)) := x.map fun v => (v, [])
theorem ob_eq {α : Type} {x : Option α} {v : α} {K : α → Prop} (h : x = some v) (k : K v) : obind x K := by rw [h]; exact k

def latB (N : Nat) (up : List Int) : Bool :=
  decide (1 ≤ N) && (decide (N ≤ 16) && (decide (up.length = N) && (((List.range N).all fun (a : Nat) => bit (up.getD a default) a && (decide (up.getD a default < 2 ^ N) && (List.range N).all fun (b : Nat) =>
    !(decide (a ≠ b) && (bit (up.getD a default) b && bit (up.getD b default) a)) && (List.range N).all fun (c : Nat) => !(bit (up.getD a default) b && bit (up.getD b default) c) || bit (up.getD a default) c)) &&
  (List.range N).all fun (a : Nat) => (List.range a).all fun (b : Nat) => decide (0 ≤ bound N up a b true) && decide (0 ≤ bound N up a b false))))

theorem latB_P {N : Nat} {up : List Int} (h : latB N up = true) : LatP N up := by
  simp only [latB, Bool.and_eq_true, decide_eq_true_eq, List.all_eq_true, List.mem_range, Bool.or_eq_true, Bool.not_eq_true'] at h
  obtain ⟨h1, h2, h3, h4, h5⟩ := h
  refine ⟨by omega, by omega, by omega, fun a a0 a1 => ?_, fun a b b0 b1 a1 => ?_⟩
  · obtain ⟨x, rfl⟩ : ∃ x : Nat, a = x := ⟨a.toNat, by omega⟩
    obtain ⟨k1, k2, k3⟩ := h4 x (by omega)
    refine ⟨k1, k2, fun b b0 b1 => ?_⟩
    obtain ⟨y, rfl⟩ : ∃ y : Nat, b = y := ⟨b.toNat, by omega⟩
    obtain ⟨m1, m2⟩ := k3 y (by omega)
    refine ⟨fun ⟨w1, w2, w3⟩ => ?_, fun c c0 c1 w1 w2 => ?_⟩
    · rw [Int.toNat_natCast] at w2 w3
      have : decide (x ≠ y) = true := decide_eq_true (fun e => w1 (by rw [e]))
      rw [this, w2, w3] at m1; cases m1
    · obtain ⟨z, rfl⟩ : ∃ z : Nat, c = z := ⟨c.toNat, by omega⟩
      rcases m2 z (by omega) with m | m
      · rw [Int.toNat_natCast] at w1 w2
        rw [w1, w2] at m; cases m
      · exact m
  · obtain ⟨x, rfl⟩ : ∃ x : Nat, a = x := ⟨a.toNat, by omega⟩
    obtain ⟨y, rfl⟩ : ∃ y : Nat, b = y := ⟨b.toNat, by omega⟩
    exact h5 x (by omega) y (by omega)


/-- The number that a row's first bits make. -/
def wp (r : List Bool) (b : Nat) : Int := (List.range b).foldl (fun x i => if r.getD i false = true then x + 2 ^ i else x) 0
theorem wp_succ {r : List Bool} {b : Nat} : wp r (b + 1) = if r.getD b false = true then wp r b + 2 ^ b else wp r b := by simp [wp, List.range_succ]
theorem wp_le {r : List Bool} : ∀ {b : Nat}, 0 ≤ wp r b ∧ wp r b < 2 ^ b
  | 0 => ⟨by simp [wp], by simp [wp]⟩
  | b + 1 => by
    obtain ⟨h1, h2⟩ := wp_le (r := r) (b := b)
    have h3 : (0 : Int) < 2 ^ b := Int.pow_pos (by omega)
    rw [wp_succ, Int.pow_succ]
    split <;> omega
theorem wp_add {r : List Bool} {b : Nat} (h : b < 16) : 0 ≤ wp r b + 2 ^ (b : Int).toNat ∧ wp r b + 2 ^ (b : Int).toNat ≤ 18446744073709551615 := by
  obtain ⟨h1, h2⟩ := wp_le (r := r) (b := b)
  rw [Int.toNat_natCast]
  have h3 : (2 : Int) ^ b ≤ 2 ^ 16 := by
    have : (2 : Nat) ^ b ≤ 2 ^ 16 := Nat.pow_le_pow_right (by omega) (by omega)
    exact_mod_cast this
  omega
end Go.Eng.T.L

namespace Go.Eng.T.L
open Go.Proofs Go.Eng
set_option maxRecDepth 100000
set_option maxHeartbeats 0
theorem lt1 {k : Nat} (h : k < 1) : k = 0 := by omega
theorem rows1 {a : Nat} (h : a < 1) (r0 : List Bool) : mkOb [((6, 0), some (.arr false 2 [.agg [iv 0, nilV]])), ((32, 0), some (.arr false 1 [.ls (41, 1) 1 0 1])), ((15, 0), none), ((161, 1), none), ((41, 0), none), ((41, 1), some (.arr true 1 (r0.map bv))), ((41, 2), none), ((41, 3), none), ((41, 4), none), ((41, 5), none), ((41, 6), none), ((41, 7), none), ((41, 8), none), ((41, 9), none)] (41, a + 1) = some (.arr true 1 (([r0].getD a []).map bv)) := by
  obtain rfl := lt1 h <;> rfl
theorem lens1 {a : Nat} (h : a < 1) {r0 : List Bool} (hl : r0.length = 1) : ([r0].getD a []).length = 1 := by
  obtain l0 := hl
  obtain rfl := lt1 h <;> assumption
theorem LatOfS.ac1 {K : V → List Obj → List Obj → Prop} (hK : K (.tup [.agg [iv 1, .ls (1, 0) 1 0 1], bv true]) [] [upO [1]]) : AC Try.prog 113 [iv 1, .is 2 (List.map encE [])] [] K := by
  refine ac_body annLatOf fkLatOf hm htt Try.func113 rfl (by kernel_rfl) rfl rfl ?_
  conv => whnf
  refine cwF_loop (fun m st => (m = 1 ∧ st = ⟨[iv 1, .is 2 (List.map encE []), .un, .un, .lp (6, 0) 2 0 0, bv false, .ls (32, 0) 1 0 1, iv 0] ++ List.replicate 158 .un, mkOb [((6, 0), some (.arr false 2 [.agg [iv 0, nilV]])), ((32, 0), some (.arr false 1 [nilV])), ((15, 0), none), ((161, 1), none), ((41, 0), none), ((41, 1), none), ((41, 2), none), ((41, 3), none), ((41, 4), none), ((41, 5), none), ((41, 6), none), ((41, 7), none), ((41, 8), none), ((41, 9), none)]⟩) ∨ (m = 0 ∧ st = ⟨[iv 1, .is 2 (List.map encE []), .un, .un, .lp (6, 0) 2 0 0, bv false, .ls (32, 0) 1 0 1, iv 1] ++ List.replicate 158 .un, mkOb [((6, 0), some (.arr false 2 [.agg [iv 0, nilV]])), ((32, 0), some (.arr false 1 [.ls (41, 1) 1 0 1])), ((15, 0), none), ((161, 1), none), ((41, 0), none), ((41, 1), some (.arr true 1 ([true].map bv))), ((41, 2), none), ((41, 3), none), ((41, 4), none), ((41, 5), none), ((41, 6), none), ((41, 7), none), ((41, 8), none), ((41, 9), none)]⟩)) 1 (by kernel_rfl) (.inl ⟨rfl, rfl⟩) ?_
  rintro m st (⟨rfl, rfl⟩ | ⟨rfl, rfl⟩)
  · conv => whnf
    refine ⟨⟨by decide, rfl, by decide, by decide, by decide, by decide⟩, ?_⟩
    conv => whnf
    refine ⟨⟨rfl, by decide, by decide⟩, ?_⟩
    conv => whnf
    refine ⟨⟨rfl, by decide, by decide⟩, ?_⟩
    conv => whnf
    refine ⟨⟨rfl, by decide, by decide⟩, ?_⟩
    conv => whnf
    refine ⟨_, rfl, ⟨rfl, List.not_mem_nil⟩, _, rfl, ?_⟩
    conv => whnf
    exact ⟨by kernel_rfl, 0, by decide, .inr (⟨rfl, rfl⟩)⟩
  conv => whnf
  refine cwF_loop (fun m st => (m = 0 ∧ st = ⟨[iv 1, .is 2 (List.map encE []), .un, .un, .lp (6, 0) 2 0 0, bv false, .ls (32, 0) 1 0 1, .un, iv 0] ++ List.replicate 157 .un, mkOb [((6, 0), some (.arr false 2 [.agg [iv 0, nilV]])), ((32, 0), some (.arr false 1 [.ls (41, 1) 1 0 1])), ((15, 0), none), ((161, 1), none), ((41, 0), none), ((41, 1), some (.arr true 1 ([true].map bv))), ((41, 2), none), ((41, 3), none), ((41, 4), none), ((41, 5), none), ((41, 6), none), ((41, 7), none), ((41, 8), none), ((41, 9), none)]⟩)) 0 (by kernel_rfl) (⟨rfl, rfl⟩) ?_
  rintro m st (⟨rfl, rfl⟩)
  conv => whnf
  refine cwF_loop (fun m st => ∃ (z : Int) (e0 : List V), (∃ (k : Nat) (r0 : List Bool), m = 1 - k ∧ k ≤ 1 ∧ z = (k : Nat) ∧ [r0] = fwK 1 [[true]] k ∧ (r0.length = 1) ∧ e0 = r0.map bv) ∧ st = ⟨[iv 1, .un, .un, .un, .lp (6, 0) 2 0 0, bv false, .ls (32, 0) 1 0 1, .un, .un, .un, iv z] ++ List.replicate 155 .un, mkOb [((6, 0), some (.arr false 2 [.agg [iv 0, nilV]])), ((32, 0), some (.arr false 1 [.ls (41, 1) 1 0 1])), ((15, 0), none), ((161, 1), none), ((41, 0), none), ((41, 1), some (.arr true 1 e0)), ((41, 2), none), ((41, 3), none), ((41, 4), none), ((41, 5), none), ((41, 6), none), ((41, 7), none), ((41, 8), none), ((41, 9), none)]⟩) 1 (by kernel_rfl) ⟨_, _, ⟨0, [true], rfl, by decide, rfl, fwK_zero.symm, rfl, rfl⟩, rfl⟩ ?_
  rintro m st ⟨z, e0, ⟨k, r0, rfl, hk, rfl, hM1, hl1, rfl⟩, rfl⟩
  conv => whnf
  refine vif_dec (fun h1 => ?_) (fun h1 => ?_)
  · conv => whnf
    refine cwF_loop (fun m st => ∃ (z : Int) (e0 : List V), (∃ (a : Nat) (r0 : List Bool), m = 1 - a ∧ a ≤ 1 ∧ z = (a : Nat) ∧ [r0] = fwA 1 (fwK 1 [[true]] k) k a ∧ (r0.length = 1) ∧ e0 = r0.map bv) ∧ st = ⟨[iv 1, .un, .un, .un, .lp (6, 0) 2 0 0, bv false, .ls (32, 0) 1 0 1, .un, .un, .un, iv (k : Nat), iv z] ++ List.replicate 154 .un, mkOb [((6, 0), some (.arr false 2 [.agg [iv 0, nilV]])), ((32, 0), some (.arr false 1 [.ls (41, 1) 1 0 1])), ((15, 0), none), ((161, 1), none), ((41, 0), none), ((41, 1), some (.arr true 1 e0)), ((41, 2), none), ((41, 3), none), ((41, 4), none), ((41, 5), none), ((41, 6), none), ((41, 7), none), ((41, 8), none), ((41, 9), none)]⟩) 1 (by kernel_rfl) ⟨_, _, ⟨0, r0, rfl, by decide, rfl, hM1.trans fwA_zero.symm, hl1, rfl⟩, rfl⟩ ?_
    clear hM1 hl1
    rintro m st ⟨z, e0, ⟨a, r0, rfl, ha, rfl, hM2, hl2, rfl⟩, rfl⟩
    conv => whnf
    refine vif_dec (fun h2 => ?_) (fun h2 => ?_)
    · conv => whnf
      refine cwF_loop (fun m st => ∃ (z : Int) (e0 : List V), (∃ (b : Nat) (r0 : List Bool), m = 1 - b ∧ b ≤ 1 ∧ z = (b : Nat) ∧ [r0] = fwR (fwA 1 (fwK 1 [[true]] k) k a) k a b ∧ (r0.length = 1) ∧ e0 = r0.map bv) ∧ st = ⟨[iv 1, .un, .un, .un, .lp (6, 0) 2 0 0, bv false, .ls (32, 0) 1 0 1, .un, .un, .un, iv (k : Nat), iv (a : Nat), iv z] ++ List.replicate 153 .un, mkOb [((6, 0), some (.arr false 2 [.agg [iv 0, nilV]])), ((32, 0), some (.arr false 1 [.ls (41, 1) 1 0 1])), ((15, 0), none), ((161, 1), none), ((41, 0), none), ((41, 1), some (.arr true 1 e0)), ((41, 2), none), ((41, 3), none), ((41, 4), none), ((41, 5), none), ((41, 6), none), ((41, 7), none), ((41, 8), none), ((41, 9), none)]⟩) 1 (by kernel_rfl) ⟨_, _, ⟨0, r0, rfl, by decide, rfl, hM2.trans fwR_zero.symm, hl2, rfl⟩, rfl⟩ ?_
      clear hM2 hl2
      rintro m st ⟨z, e0, ⟨b, r0, rfl, hb, rfl, hM3, hl3, rfl⟩, rfl⟩
      have la := lens1 (a := a) (by omega) hl3
      have lk := lens1 (a := k) (by omega) hl3
      conv => whnf
      refine vif_dec (fun h3 => ?_) (fun h3 => ?_)
      · conv => whnf
        refine ⟨⟨rfl, by omega, by omega⟩, ?_⟩
        conv => whnf
        refine ob_eq (v := (.ls (41, a + 1) 1 0 1, [])) (by obtain rfl := lt1 (by omega : a < 1) <;> rfl) ?_
        conv => whnf
        refine ⟨⟨rfl, by omega, by omega⟩, ?_⟩
        conv => whnf
        refine ob_eq (v := (.ls (41, a + 1) 1 0 1, [])) (by obtain rfl := lt1 (by omega : a < 1) <;> rfl) ?_
        conv => whnf
        refine ⟨⟨rfl, by omega, by omega⟩, ?_⟩
        conv => whnf
        refine ⟨_, rows1 (by omega) r0, ask_row (by omega) fun x hx => ?_⟩
        cases x
        · conv => whnf
          refine ⟨⟨rfl, by omega, by omega⟩, ?_⟩
          conv => whnf
          refine ob_eq (v := (.ls (41, a + 1) 1 0 1, [])) (by obtain rfl := lt1 (by omega : a < 1) <;> rfl) ?_
          conv => whnf
          refine ⟨⟨rfl, by omega, by omega⟩, ?_⟩
          conv => whnf
          refine ⟨_, rows1 (by omega) r0, ask_row (by omega) fun y hy => ?_⟩
          cases y
          · conv => whnf
            refine ⟨⟨rfl, by omega, by omega⟩, ?_⟩
            conv => whnf
            refine ⟨_, rows1 (by omega) r0, ⟨rfl, List.not_mem_nil⟩, _, row_get (by omega) hx, ?_⟩
            conv => whnf
            refine ⟨by kernel_rfl, ?_⟩
            conv => whnf
            have hN : fwR (fwA 1 (fwK 1 [[true]] k) k a) k a (b + 1) = [r0].set a (([r0].getD a []).set b false) := by rw [fwR_succ, ← hM3, fwB, hx, hy]; rfl
            clear hM3 hx la lk
            have l0 := hl3
            obtain rfl := lt1 (by omega : a < 1)
            · exact ⟨by kernel_rfl, 1 - (b + 1), by omega, _, _, ⟨b + 1, r0.set b false, rfl, by omega, wrap_i64 (by omega), hN.symm, by rw [List.length_set]; exact l0, row_set⟩, rfl⟩
          · conv => whnf
            refine ⟨⟨rfl, by omega, by omega⟩, ?_⟩
            conv => whnf
            refine ob_eq (v := (.ls (41, k + 1) 1 0 1, [])) (by obtain rfl := lt1 (by omega : k < 1) <;> rfl) ?_
            conv => whnf
            refine ⟨⟨rfl, by omega, by omega⟩, ?_⟩
            conv => whnf
            refine ⟨_, rows1 (by omega) r0, ask_row (by omega) fun z hz => ?_⟩
            conv => whnf
            refine ⟨⟨rfl, by omega, by omega⟩, ?_⟩
            conv => whnf
            refine ⟨_, rows1 (by omega) r0, ⟨rfl, List.not_mem_nil⟩, _, row_get (by omega) hx, ?_⟩
            conv => whnf
            refine ⟨by kernel_rfl, ?_⟩
            conv => whnf
            have hN : fwR (fwA 1 (fwK 1 [[true]] k) k a) k a (b + 1) = [r0].set a (([r0].getD a []).set b z) := by rw [fwR_succ, ← hM3, fwB, hx, hy, hz]; rfl
            clear hM3 hx la lk
            have l0 := hl3
            obtain rfl := lt1 (by omega : a < 1)
            · exact ⟨by kernel_rfl, 1 - (b + 1), by omega, _, _, ⟨b + 1, r0.set b z, rfl, by omega, wrap_i64 (by omega), hN.symm, by rw [List.length_set]; exact l0, row_set⟩, rfl⟩
        · conv => whnf
          refine ⟨⟨rfl, by omega, by omega⟩, ?_⟩
          conv => whnf
          refine ⟨_, rows1 (by omega) r0, ⟨rfl, List.not_mem_nil⟩, _, row_get (by omega) hx, ?_⟩
          conv => whnf
          refine ⟨by kernel_rfl, ?_⟩
          conv => whnf
          have hN : fwR (fwA 1 (fwK 1 [[true]] k) k a) k a (b + 1) = [r0].set a (([r0].getD a []).set b true) := by rw [fwR_succ, ← hM3, fwB, hx]; rfl
          clear hM3 hx la lk
          have l0 := hl3
          obtain rfl := lt1 (by omega : a < 1)
          · exact ⟨by kernel_rfl, 1 - (b + 1), by omega, _, _, ⟨b + 1, r0.set b true, rfl, by omega, wrap_i64 (by omega), hN.symm, by rw [List.length_set]; exact l0, row_set⟩, rfl⟩
      · conv => whnf
        obtain rfl : b = 1 := by omega
        exact ⟨by kernel_rfl, 1 - (a + 1), by omega, _, _, ⟨a + 1, r0, rfl, by omega, wrap_i64 (by omega), by rw [fwA_succ]; exact hM3, hl3, rfl⟩, rfl⟩
    · conv => whnf
      obtain rfl : a = 1 := by omega
      exact ⟨by kernel_rfl, 1 - (k + 1), by omega, _, _, ⟨k + 1, r0, rfl, by omega, wrap_i64 (by omega), by rw [fwK_succ]; exact hM2, hl2, rfl⟩, rfl⟩
  obtain rfl : k = 1 := by omega
  have hE : fwK 1 [[true]] 1 = [[true]] := by kernel_rfl
  rw [hE] at hM1
  clear hE hl1
  simp only [List.cons.injEq, and_true] at hM1
  obtain rfl := hM1
  conv => whnf
  refine cwF_loop (fun m st => (m = 1 ∧ st = ⟨[iv 1, .un, .un, .un, .lp (6, 0) 2 0 0, bv false, .ls (32, 0) 1 0 1] ++ List.replicate 6 .un ++ [.lp (15, 0) 2 0 0, iv 0] ++ List.replicate 151 .un, mkOb [((6, 0), some (.arr false 2 [.agg [iv 0, nilV]])), ((32, 0), some (.arr false 1 [.ls (41, 1) 1 0 1])), ((15, 0), some (.arr false 2 [.agg [iv 1, nilV]])), ((161, 1), none), ((41, 0), none), ((41, 1), some (.arr true 1 ([true].map bv))), ((41, 2), none), ((41, 3), none), ((41, 4), none), ((41, 5), none), ((41, 6), none), ((41, 7), none), ((41, 8), none), ((41, 9), none)]⟩) ∨ (m = 0 ∧ st = ⟨[iv 1, .un, .un, .un, .lp (6, 0) 2 0 0, bv false, .ls (32, 0) 1 0 1] ++ List.replicate 6 .un ++ [.lp (15, 0) 2 0 0, iv 1] ++ List.replicate 151 .un, mkOb [((6, 0), some (.arr false 2 [.agg [iv 0, nilV]])), ((32, 0), some (.arr false 1 [.ls (41, 1) 1 0 1])), ((15, 0), some (.arr false 2 [.agg [iv 1, .ls (161, 1) 1 0 1]])), ((161, 1), some (.arr true 1 [uv 1])), ((41, 0), none), ((41, 1), some (.arr true 1 ([true].map bv))), ((41, 2), none), ((41, 3), none), ((41, 4), none), ((41, 5), none), ((41, 6), none), ((41, 7), none), ((41, 8), none), ((41, 9), none)]⟩)) 1 (by kernel_rfl) (.inl ⟨rfl, rfl⟩) ?_
  rintro m st (⟨rfl, rfl⟩ | ⟨rfl, rfl⟩)
  · conv => whnf
    refine cwF_loop (fun m st => ∃ z x : Int, (∃ b : Nat, m = 1 - b ∧ b ≤ 1 ∧ z = (b : Nat) ∧ x = wp [true] b) ∧ st = ⟨[iv 1, .un, .un, .un, .lp (6, 0) 2 0 0, bv false, .ls (32, 0) 1 0 1] ++ List.replicate 6 .un ++ [.lp (15, 0) 2 0 0, iv 0, uv x, iv z] ++ List.replicate 149 .un, mkOb [((6, 0), some (.arr false 2 [.agg [iv 0, nilV]])), ((32, 0), some (.arr false 1 [.ls (41, 1) 1 0 1])), ((15, 0), some (.arr false 2 [.agg [iv 1, nilV]])), ((161, 1), none), ((41, 0), none), ((41, 1), some (.arr true 1 ([true].map bv))), ((41, 2), none), ((41, 3), none), ((41, 4), none), ((41, 5), none), ((41, 6), none), ((41, 7), none), ((41, 8), none), ((41, 9), none)]⟩) 1 (by kernel_rfl) ⟨_, _, ⟨0, rfl, by decide, rfl, rfl⟩, rfl⟩ ?_
    rintro m st ⟨z, x, ⟨b, rfl, hb, rfl, rfl⟩, rfl⟩
    skip
    conv => whnf
    refine vif_dec (fun h1 => ?_) (fun h1 => ?_)
    · conv => whnf
      refine ⟨⟨rfl, by decide, by decide⟩, ?_⟩
      conv => whnf
      refine ⟨⟨rfl, by omega, by omega⟩, ?_⟩
      conv => whnf
      refine ⟨_, rfl, ask_row (r := [true]) (b := b) (by simp; omega) fun y hy => ?_⟩
      cases y
      · conv => whnf
        exact ⟨by kernel_rfl, 1 - (b + 1), by omega, _, _, ⟨b + 1, rfl, by omega, wrap_i64 (by omega), by rw [wp_succ, hy]; rfl⟩, rfl⟩
      · conv => whnf
        refine l01Power.ac _ (by omega) ?_
        conv => whnf
        exact ⟨by kernel_rfl, 1 - (b + 1), by omega, _, _, ⟨b + 1, rfl, by omega, wrap_i64 (by omega), by rw [wp_succ, hy]; exact wrap_u64 (wp_add (by omega)) ⟩, rfl⟩
    · conv => whnf
      obtain rfl : b = 1 := by omega
      refine ⟨⟨by decide, by decide, rfl⟩, ?_⟩
      conv => whnf
      exact ⟨by kernel_rfl, 0, by decide, .inr (⟨rfl, rfl⟩)⟩
  conv => whnf
  refine LatOkS.acW 1 [1] fun r hr => ?_
  obtain rfl : r = true := hr.2 (latB_P (by kernel_rfl))
  conv => whnf
  exact hK
end Go.Eng.T.L

namespace Go.Eng.T.L
open Go.Proofs Go.Eng
set_option maxRecDepth 100000
set_option maxHeartbeats 0
theorem lt2 {k : Nat} (h : k < 2) : k = 0 ∨ k = 1 := by omega
theorem rows2 {a : Nat} (h : a < 2) (r0 r1 : List Bool) : mkOb [((6, 0), some (.arr false 2 [.agg [iv 0, nilV]])), ((32, 0), some (.arr false 1 [.ls (41, 1) 1 0 2, .ls (41, 2) 1 0 2])), ((15, 0), none), ((161, 1), none), ((41, 0), none), ((41, 1), some (.arr true 1 (r0.map bv))), ((41, 2), some (.arr true 1 (r1.map bv))), ((41, 3), none), ((41, 4), none), ((41, 5), none), ((41, 6), none), ((41, 7), none), ((41, 8), none), ((41, 9), none)] (41, a + 1) = some (.arr true 1 (([r0, r1].getD a []).map bv)) := by
  obtain rfl | rfl := lt2 h <;> rfl
theorem lens2 {a : Nat} (h : a < 2) {r0 r1 : List Bool} (hl : r0.length = 2 ∧ r1.length = 2) : ([r0, r1].getD a []).length = 2 := by
  obtain ⟨l0, l1⟩ := hl
  obtain rfl | rfl := lt2 h <;> assumption
theorem LatOfS.ac2 {K : V → List Obj → List Obj → Prop} (hK : K (.tup [.agg [iv 2, .ls (1, 0) 1 0 2], bv true]) [] [upO [3, 2]]) : AC Try.prog 113 [iv 2, .is 2 (List.map encE [(0, 1)])] [] K := by
  refine ac_body annLatOf fkLatOf hm htt Try.func113 rfl (by kernel_rfl) rfl rfl ?_
  conv => whnf
  refine cwF_loop (fun m st => (m = 2 ∧ st = ⟨[iv 2, .is 2 (List.map encE [(0, 1)]), .un, .un, .lp (6, 0) 2 0 0, bv false, .ls (32, 0) 1 0 2, iv 0] ++ List.replicate 158 .un, mkOb [((6, 0), some (.arr false 2 [.agg [iv 0, nilV]])), ((32, 0), some (.arr false 1 [nilV, nilV])), ((15, 0), none), ((161, 1), none), ((41, 0), none), ((41, 1), none), ((41, 2), none), ((41, 3), none), ((41, 4), none), ((41, 5), none), ((41, 6), none), ((41, 7), none), ((41, 8), none), ((41, 9), none)]⟩) ∨ (m = 1 ∧ st = ⟨[iv 2, .is 2 (List.map encE [(0, 1)]), .un, .un, .lp (6, 0) 2 0 0, bv false, .ls (32, 0) 1 0 2, iv 1] ++ List.replicate 158 .un, mkOb [((6, 0), some (.arr false 2 [.agg [iv 0, nilV]])), ((32, 0), some (.arr false 1 [.ls (41, 1) 1 0 2, nilV])), ((15, 0), none), ((161, 1), none), ((41, 0), none), ((41, 1), some (.arr true 1 ([true, false].map bv))), ((41, 2), none), ((41, 3), none), ((41, 4), none), ((41, 5), none), ((41, 6), none), ((41, 7), none), ((41, 8), none), ((41, 9), none)]⟩) ∨ (m = 0 ∧ st = ⟨[iv 2, .is 2 (List.map encE [(0, 1)]), .un, .un, .lp (6, 0) 2 0 0, bv false, .ls (32, 0) 1 0 2, iv 2] ++ List.replicate 158 .un, mkOb [((6, 0), some (.arr false 2 [.agg [iv 0, nilV]])), ((32, 0), some (.arr false 1 [.ls (41, 1) 1 0 2, .ls (41, 2) 1 0 2])), ((15, 0), none), ((161, 1), none), ((41, 0), none), ((41, 1), some (.arr true 1 ([true, false].map bv))), ((41, 2), some (.arr true 1 ([false, true].map bv))), ((41, 3), none), ((41, 4), none), ((41, 5), none), ((41, 6), none), ((41, 7), none), ((41, 8), none), ((41, 9), none)]⟩)) 2 (by kernel_rfl) (.inl ⟨rfl, rfl⟩) ?_
  rintro m st (⟨rfl, rfl⟩ | ⟨rfl, rfl⟩ | ⟨rfl, rfl⟩)
  · conv => whnf
    refine ⟨⟨by decide, rfl, by decide, by decide, by decide, by decide⟩, ?_⟩
    conv => whnf
    refine ⟨⟨rfl, by decide, by decide⟩, ?_⟩
    conv => whnf
    refine ⟨⟨rfl, by decide, by decide⟩, ?_⟩
    conv => whnf
    refine ⟨⟨rfl, by decide, by decide⟩, ?_⟩
    conv => whnf
    refine ⟨_, rfl, ⟨rfl, List.not_mem_nil⟩, _, rfl, ?_⟩
    conv => whnf
    exact ⟨by kernel_rfl, 1, by decide, .inr (.inl ⟨rfl, rfl⟩)⟩
  · conv => whnf
    refine ⟨⟨by decide, rfl, by decide, by decide, by decide, by decide⟩, ?_⟩
    conv => whnf
    refine ⟨⟨rfl, by decide, by decide⟩, ?_⟩
    conv => whnf
    refine ⟨⟨rfl, by decide, by decide⟩, ?_⟩
    conv => whnf
    refine ⟨⟨rfl, by decide, by decide⟩, ?_⟩
    conv => whnf
    refine ⟨_, rfl, ⟨rfl, List.not_mem_nil⟩, _, rfl, ?_⟩
    conv => whnf
    exact ⟨by kernel_rfl, 0, by decide, .inr (.inr (⟨rfl, rfl⟩))⟩
  conv => whnf
  refine cwF_loop (fun m st => (m = 1 ∧ st = ⟨[iv 2, .is 2 (List.map encE [(0, 1)]), .un, .un, .lp (6, 0) 2 0 0, bv false, .ls (32, 0) 1 0 2, .un, iv 0] ++ List.replicate 157 .un, mkOb [((6, 0), some (.arr false 2 [.agg [iv 0, nilV]])), ((32, 0), some (.arr false 1 [.ls (41, 1) 1 0 2, .ls (41, 2) 1 0 2])), ((15, 0), none), ((161, 1), none), ((41, 0), none), ((41, 1), some (.arr true 1 ([true, false].map bv))), ((41, 2), some (.arr true 1 ([false, true].map bv))), ((41, 3), none), ((41, 4), none), ((41, 5), none), ((41, 6), none), ((41, 7), none), ((41, 8), none), ((41, 9), none)]⟩) ∨ (m = 0 ∧ st = ⟨[iv 2, .is 2 (List.map encE [(0, 1)]), .un, .un, .lp (6, 0) 2 0 0, bv false, .ls (32, 0) 1 0 2, .un, iv 1] ++ List.replicate 157 .un, mkOb [((6, 0), some (.arr false 2 [.agg [iv 0, nilV]])), ((32, 0), some (.arr false 1 [.ls (41, 1) 1 0 2, .ls (41, 2) 1 0 2])), ((15, 0), none), ((161, 1), none), ((41, 0), none), ((41, 1), some (.arr true 1 ([true, true].map bv))), ((41, 2), some (.arr true 1 ([false, true].map bv))), ((41, 3), none), ((41, 4), none), ((41, 5), none), ((41, 6), none), ((41, 7), none), ((41, 8), none), ((41, 9), none)]⟩)) 1 (by kernel_rfl) (.inl ⟨rfl, rfl⟩) ?_
  rintro m st (⟨rfl, rfl⟩ | ⟨rfl, rfl⟩)
  · conv => whnf
    refine ⟨⟨rfl, by decide, by decide⟩, ?_⟩
    conv => whnf
    refine ⟨_, rfl, ?_⟩
    conv => whnf
    refine ⟨⟨rfl, by decide, by decide⟩, ?_⟩
    conv => whnf
    refine ⟨⟨rfl, by decide, by decide⟩, ?_⟩
    conv => whnf
    refine ⟨_, rfl, ⟨rfl, List.not_mem_nil⟩, _, rfl, ?_⟩
    conv => whnf
    refine ⟨by kernel_rfl, ?_⟩
    conv => whnf
    exact ⟨by kernel_rfl, 0, by decide, .inr (⟨rfl, rfl⟩)⟩
  conv => whnf
  refine cwF_loop (fun m st => ∃ (z : Int) (e0 e1 : List V), (∃ (k : Nat) (r0 r1 : List Bool), m = 2 - k ∧ k ≤ 2 ∧ z = (k : Nat) ∧ [r0, r1] = fwK 2 [[true, true], [false, true]] k ∧ (r0.length = 2 ∧ r1.length = 2) ∧ e0 = r0.map bv ∧ e1 = r1.map bv) ∧ st = ⟨[iv 2, .un, .un, .un, .lp (6, 0) 2 0 0, bv false, .ls (32, 0) 1 0 2, .un, .un, .un, iv z] ++ List.replicate 155 .un, mkOb [((6, 0), some (.arr false 2 [.agg [iv 0, nilV]])), ((32, 0), some (.arr false 1 [.ls (41, 1) 1 0 2, .ls (41, 2) 1 0 2])), ((15, 0), none), ((161, 1), none), ((41, 0), none), ((41, 1), some (.arr true 1 e0)), ((41, 2), some (.arr true 1 e1)), ((41, 3), none), ((41, 4), none), ((41, 5), none), ((41, 6), none), ((41, 7), none), ((41, 8), none), ((41, 9), none)]⟩) 2 (by kernel_rfl) ⟨_, _, _, ⟨0, [true, true], [false, true], rfl, by decide, rfl, fwK_zero.symm, ⟨rfl, rfl⟩, rfl, rfl⟩, rfl⟩ ?_
  rintro m st ⟨z, e0, e1, ⟨k, r0, r1, rfl, hk, rfl, hM1, hl1, rfl, rfl⟩, rfl⟩
  conv => whnf
  refine vif_dec (fun h1 => ?_) (fun h1 => ?_)
  · conv => whnf
    refine cwF_loop (fun m st => ∃ (z : Int) (e0 e1 : List V), (∃ (a : Nat) (r0 r1 : List Bool), m = 2 - a ∧ a ≤ 2 ∧ z = (a : Nat) ∧ [r0, r1] = fwA 2 (fwK 2 [[true, true], [false, true]] k) k a ∧ (r0.length = 2 ∧ r1.length = 2) ∧ e0 = r0.map bv ∧ e1 = r1.map bv) ∧ st = ⟨[iv 2, .un, .un, .un, .lp (6, 0) 2 0 0, bv false, .ls (32, 0) 1 0 2, .un, .un, .un, iv (k : Nat), iv z] ++ List.replicate 154 .un, mkOb [((6, 0), some (.arr false 2 [.agg [iv 0, nilV]])), ((32, 0), some (.arr false 1 [.ls (41, 1) 1 0 2, .ls (41, 2) 1 0 2])), ((15, 0), none), ((161, 1), none), ((41, 0), none), ((41, 1), some (.arr true 1 e0)), ((41, 2), some (.arr true 1 e1)), ((41, 3), none), ((41, 4), none), ((41, 5), none), ((41, 6), none), ((41, 7), none), ((41, 8), none), ((41, 9), none)]⟩) 2 (by kernel_rfl) ⟨_, _, _, ⟨0, r0, r1, rfl, by decide, rfl, hM1.trans fwA_zero.symm, hl1, rfl, rfl⟩, rfl⟩ ?_
    clear hM1 hl1
    rintro m st ⟨z, e0, e1, ⟨a, r0, r1, rfl, ha, rfl, hM2, hl2, rfl, rfl⟩, rfl⟩
    conv => whnf
    refine vif_dec (fun h2 => ?_) (fun h2 => ?_)
    · conv => whnf
      refine cwF_loop (fun m st => ∃ (z : Int) (e0 e1 : List V), (∃ (b : Nat) (r0 r1 : List Bool), m = 2 - b ∧ b ≤ 2 ∧ z = (b : Nat) ∧ [r0, r1] = fwR (fwA 2 (fwK 2 [[true, true], [false, true]] k) k a) k a b ∧ (r0.length = 2 ∧ r1.length = 2) ∧ e0 = r0.map bv ∧ e1 = r1.map bv) ∧ st = ⟨[iv 2, .un, .un, .un, .lp (6, 0) 2 0 0, bv false, .ls (32, 0) 1 0 2, .un, .un, .un, iv (k : Nat), iv (a : Nat), iv z] ++ List.replicate 153 .un, mkOb [((6, 0), some (.arr false 2 [.agg [iv 0, nilV]])), ((32, 0), some (.arr false 1 [.ls (41, 1) 1 0 2, .ls (41, 2) 1 0 2])), ((15, 0), none), ((161, 1), none), ((41, 0), none), ((41, 1), some (.arr true 1 e0)), ((41, 2), some (.arr true 1 e1)), ((41, 3), none), ((41, 4), none), ((41, 5), none), ((41, 6), none), ((41, 7), none), ((41, 8), none), ((41, 9), none)]⟩) 2 (by kernel_rfl) ⟨_, _, _, ⟨0, r0, r1, rfl, by decide, rfl, hM2.trans fwR_zero.symm, hl2, rfl, rfl⟩, rfl⟩ ?_
      clear hM2 hl2
      rintro m st ⟨z, e0, e1, ⟨b, r0, r1, rfl, hb, rfl, hM3, hl3, rfl, rfl⟩, rfl⟩
      have la := lens2 (a := a) (by omega) hl3
      have lk := lens2 (a := k) (by omega) hl3
      conv => whnf
      refine vif_dec (fun h3 => ?_) (fun h3 => ?_)
      · conv => whnf
        refine ⟨⟨rfl, by omega, by omega⟩, ?_⟩
        conv => whnf
        refine ob_eq (v := (.ls (41, a + 1) 1 0 2, [])) (by obtain rfl | rfl := lt2 (by omega : a < 2) <;> rfl) ?_
        conv => whnf
        refine ⟨⟨rfl, by omega, by omega⟩, ?_⟩
        conv => whnf
        refine ob_eq (v := (.ls (41, a + 1) 1 0 2, [])) (by obtain rfl | rfl := lt2 (by omega : a < 2) <;> rfl) ?_
        conv => whnf
        refine ⟨⟨rfl, by omega, by omega⟩, ?_⟩
        conv => whnf
        refine ⟨_, rows2 (by omega) r0 r1, ask_row (by omega) fun x hx => ?_⟩
        cases x
        · conv => whnf
          refine ⟨⟨rfl, by omega, by omega⟩, ?_⟩
          conv => whnf
          refine ob_eq (v := (.ls (41, a + 1) 1 0 2, [])) (by obtain rfl | rfl := lt2 (by omega : a < 2) <;> rfl) ?_
          conv => whnf
          refine ⟨⟨rfl, by omega, by omega⟩, ?_⟩
          conv => whnf
          refine ⟨_, rows2 (by omega) r0 r1, ask_row (by omega) fun y hy => ?_⟩
          cases y
          · conv => whnf
            refine ⟨⟨rfl, by omega, by omega⟩, ?_⟩
            conv => whnf
            refine ⟨_, rows2 (by omega) r0 r1, ⟨rfl, List.not_mem_nil⟩, _, row_get (by omega) hx, ?_⟩
            conv => whnf
            refine ⟨by kernel_rfl, ?_⟩
            conv => whnf
            have hN : fwR (fwA 2 (fwK 2 [[true, true], [false, true]] k) k a) k a (b + 1) = [r0, r1].set a (([r0, r1].getD a []).set b false) := by rw [fwR_succ, ← hM3, fwB, hx, hy]; rfl
            clear hM3 hx la lk
            obtain ⟨l0, l1⟩ := hl3
            obtain rfl | rfl := lt2 (by omega : a < 2)
            · exact ⟨by kernel_rfl, 2 - (b + 1), by omega, _, _, _, ⟨b + 1, r0.set b false, r1, rfl, by omega, wrap_i64 (by omega), hN.symm, ⟨by rw [List.length_set]; exact l0, l1⟩, row_set, rfl⟩, rfl⟩
            · exact ⟨by kernel_rfl, 2 - (b + 1), by omega, _, _, _, ⟨b + 1, r0, r1.set b false, rfl, by omega, wrap_i64 (by omega), hN.symm, ⟨l0, by rw [List.length_set]; exact l1⟩, rfl, row_set⟩, rfl⟩
          · conv => whnf
            refine ⟨⟨rfl, by omega, by omega⟩, ?_⟩
            conv => whnf
            refine ob_eq (v := (.ls (41, k + 1) 1 0 2, [])) (by obtain rfl | rfl := lt2 (by omega : k < 2) <;> rfl) ?_
            conv => whnf
            refine ⟨⟨rfl, by omega, by omega⟩, ?_⟩
            conv => whnf
            refine ⟨_, rows2 (by omega) r0 r1, ask_row (by omega) fun z hz => ?_⟩
            conv => whnf
            refine ⟨⟨rfl, by omega, by omega⟩, ?_⟩
            conv => whnf
            refine ⟨_, rows2 (by omega) r0 r1, ⟨rfl, List.not_mem_nil⟩, _, row_get (by omega) hx, ?_⟩
            conv => whnf
            refine ⟨by kernel_rfl, ?_⟩
            conv => whnf
            have hN : fwR (fwA 2 (fwK 2 [[true, true], [false, true]] k) k a) k a (b + 1) = [r0, r1].set a (([r0, r1].getD a []).set b z) := by rw [fwR_succ, ← hM3, fwB, hx, hy, hz]; rfl
            clear hM3 hx la lk
            obtain ⟨l0, l1⟩ := hl3
            obtain rfl | rfl := lt2 (by omega : a < 2)
            · exact ⟨by kernel_rfl, 2 - (b + 1), by omega, _, _, _, ⟨b + 1, r0.set b z, r1, rfl, by omega, wrap_i64 (by omega), hN.symm, ⟨by rw [List.length_set]; exact l0, l1⟩, row_set, rfl⟩, rfl⟩
            · exact ⟨by kernel_rfl, 2 - (b + 1), by omega, _, _, _, ⟨b + 1, r0, r1.set b z, rfl, by omega, wrap_i64 (by omega), hN.symm, ⟨l0, by rw [List.length_set]; exact l1⟩, rfl, row_set⟩, rfl⟩
        · conv => whnf
          refine ⟨⟨rfl, by omega, by omega⟩, ?_⟩
          conv => whnf
          refine ⟨_, rows2 (by omega) r0 r1, ⟨rfl, List.not_mem_nil⟩, _, row_get (by omega) hx, ?_⟩
          conv => whnf
          refine ⟨by kernel_rfl, ?_⟩
          conv => whnf
          have hN : fwR (fwA 2 (fwK 2 [[true, true], [false, true]] k) k a) k a (b + 1) = [r0, r1].set a (([r0, r1].getD a []).set b true) := by rw [fwR_succ, ← hM3, fwB, hx]; rfl
          clear hM3 hx la lk
          obtain ⟨l0, l1⟩ := hl3
          obtain rfl | rfl := lt2 (by omega : a < 2)
          · exact ⟨by kernel_rfl, 2 - (b + 1), by omega, _, _, _, ⟨b + 1, r0.set b true, r1, rfl, by omega, wrap_i64 (by omega), hN.symm, ⟨by rw [List.length_set]; exact l0, l1⟩, row_set, rfl⟩, rfl⟩
          · exact ⟨by kernel_rfl, 2 - (b + 1), by omega, _, _, _, ⟨b + 1, r0, r1.set b true, rfl, by omega, wrap_i64 (by omega), hN.symm, ⟨l0, by rw [List.length_set]; exact l1⟩, rfl, row_set⟩, rfl⟩
      · conv => whnf
        obtain rfl : b = 2 := by omega
        exact ⟨by kernel_rfl, 2 - (a + 1), by omega, _, _, _, ⟨a + 1, r0, r1, rfl, by omega, wrap_i64 (by omega), by rw [fwA_succ]; exact hM3, hl3, rfl, rfl⟩, rfl⟩
    · conv => whnf
      obtain rfl : a = 2 := by omega
      exact ⟨by kernel_rfl, 2 - (k + 1), by omega, _, _, _, ⟨k + 1, r0, r1, rfl, by omega, wrap_i64 (by omega), by rw [fwK_succ]; exact hM2, hl2, rfl, rfl⟩, rfl⟩
  obtain rfl : k = 2 := by omega
  have hE : fwK 2 [[true, true], [false, true]] 2 = [[true, true], [false, true]] := by kernel_rfl
  rw [hE] at hM1
  clear hE hl1
  simp only [List.cons.injEq, and_true] at hM1
  obtain ⟨rfl, rfl⟩ := hM1
  conv => whnf
  refine cwF_loop (fun m st => (m = 2 ∧ st = ⟨[iv 2, .un, .un, .un, .lp (6, 0) 2 0 0, bv false, .ls (32, 0) 1 0 2] ++ List.replicate 6 .un ++ [.lp (15, 0) 2 0 0, iv 0] ++ List.replicate 151 .un, mkOb [((6, 0), some (.arr false 2 [.agg [iv 0, nilV]])), ((32, 0), some (.arr false 1 [.ls (41, 1) 1 0 2, .ls (41, 2) 1 0 2])), ((15, 0), some (.arr false 2 [.agg [iv 2, nilV]])), ((161, 1), none), ((41, 0), none), ((41, 1), some (.arr true 1 ([true, true].map bv))), ((41, 2), some (.arr true 1 ([false, true].map bv))), ((41, 3), none), ((41, 4), none), ((41, 5), none), ((41, 6), none), ((41, 7), none), ((41, 8), none), ((41, 9), none)]⟩) ∨ (m = 1 ∧ st = ⟨[iv 2, .un, .un, .un, .lp (6, 0) 2 0 0, bv false, .ls (32, 0) 1 0 2] ++ List.replicate 6 .un ++ [.lp (15, 0) 2 0 0, iv 1] ++ List.replicate 151 .un, mkOb [((6, 0), some (.arr false 2 [.agg [iv 0, nilV]])), ((32, 0), some (.arr false 1 [.ls (41, 1) 1 0 2, .ls (41, 2) 1 0 2])), ((15, 0), some (.arr false 2 [.agg [iv 2, .ls (161, 1) 1 0 1]])), ((161, 1), some (.arr true 1 [uv 3])), ((41, 0), none), ((41, 1), some (.arr true 1 ([true, true].map bv))), ((41, 2), some (.arr true 1 ([false, true].map bv))), ((41, 3), none), ((41, 4), none), ((41, 5), none), ((41, 6), none), ((41, 7), none), ((41, 8), none), ((41, 9), none)]⟩) ∨ (m = 0 ∧ st = ⟨[iv 2, .un, .un, .un, .lp (6, 0) 2 0 0, bv false, .ls (32, 0) 1 0 2] ++ List.replicate 6 .un ++ [.lp (15, 0) 2 0 0, iv 2] ++ List.replicate 151 .un, mkOb [((6, 0), some (.arr false 2 [.agg [iv 0, nilV]])), ((32, 0), some (.arr false 1 [.ls (41, 1) 1 0 2, .ls (41, 2) 1 0 2])), ((15, 0), some (.arr false 2 [.agg [iv 2, .ls (161, 1) 1 0 2]])), ((161, 1), some (.arr true 1 [uv 3, uv 2])), ((41, 0), none), ((41, 1), some (.arr true 1 ([true, true].map bv))), ((41, 2), some (.arr true 1 ([false, true].map bv))), ((41, 3), none), ((41, 4), none), ((41, 5), none), ((41, 6), none), ((41, 7), none), ((41, 8), none), ((41, 9), none)]⟩)) 2 (by kernel_rfl) (.inl ⟨rfl, rfl⟩) ?_
  rintro m st (⟨rfl, rfl⟩ | ⟨rfl, rfl⟩ | ⟨rfl, rfl⟩)
  · conv => whnf
    refine cwF_loop (fun m st => ∃ z x : Int, (∃ b : Nat, m = 2 - b ∧ b ≤ 2 ∧ z = (b : Nat) ∧ x = wp [true, true] b) ∧ st = ⟨[iv 2, .un, .un, .un, .lp (6, 0) 2 0 0, bv false, .ls (32, 0) 1 0 2] ++ List.replicate 6 .un ++ [.lp (15, 0) 2 0 0, iv 0, uv x, iv z] ++ List.replicate 149 .un, mkOb [((6, 0), some (.arr false 2 [.agg [iv 0, nilV]])), ((32, 0), some (.arr false 1 [.ls (41, 1) 1 0 2, .ls (41, 2) 1 0 2])), ((15, 0), some (.arr false 2 [.agg [iv 2, nilV]])), ((161, 1), none), ((41, 0), none), ((41, 1), some (.arr true 1 ([true, true].map bv))), ((41, 2), some (.arr true 1 ([false, true].map bv))), ((41, 3), none), ((41, 4), none), ((41, 5), none), ((41, 6), none), ((41, 7), none), ((41, 8), none), ((41, 9), none)]⟩) 2 (by kernel_rfl) ⟨_, _, ⟨0, rfl, by decide, rfl, rfl⟩, rfl⟩ ?_
    rintro m st ⟨z, x, ⟨b, rfl, hb, rfl, rfl⟩, rfl⟩
    skip
    conv => whnf
    refine vif_dec (fun h1 => ?_) (fun h1 => ?_)
    · conv => whnf
      refine ⟨⟨rfl, by decide, by decide⟩, ?_⟩
      conv => whnf
      refine ⟨⟨rfl, by omega, by omega⟩, ?_⟩
      conv => whnf
      refine ⟨_, rfl, ask_row (r := [true, true]) (b := b) (by simp; omega) fun y hy => ?_⟩
      cases y
      · conv => whnf
        exact ⟨by kernel_rfl, 2 - (b + 1), by omega, _, _, ⟨b + 1, rfl, by omega, wrap_i64 (by omega), by rw [wp_succ, hy]; rfl⟩, rfl⟩
      · conv => whnf
        refine l01Power.ac _ (by omega) ?_
        conv => whnf
        exact ⟨by kernel_rfl, 2 - (b + 1), by omega, _, _, ⟨b + 1, rfl, by omega, wrap_i64 (by omega), by rw [wp_succ, hy]; exact wrap_u64 (wp_add (by omega)) ⟩, rfl⟩
    · conv => whnf
      obtain rfl : b = 2 := by omega
      refine ⟨⟨by decide, by decide, rfl⟩, ?_⟩
      conv => whnf
      exact ⟨by kernel_rfl, 1, by decide, .inr (.inl ⟨rfl, rfl⟩)⟩
  · conv => whnf
    refine cwF_loop (fun m st => ∃ z x : Int, (∃ b : Nat, m = 2 - b ∧ b ≤ 2 ∧ z = (b : Nat) ∧ x = wp [false, true] b) ∧ st = ⟨[iv 2, .un, .un, .un, .lp (6, 0) 2 0 0, bv false, .ls (32, 0) 1 0 2] ++ List.replicate 6 .un ++ [.lp (15, 0) 2 0 0, iv 1, uv x, iv z] ++ List.replicate 149 .un, mkOb [((6, 0), some (.arr false 2 [.agg [iv 0, nilV]])), ((32, 0), some (.arr false 1 [.ls (41, 1) 1 0 2, .ls (41, 2) 1 0 2])), ((15, 0), some (.arr false 2 [.agg [iv 2, .ls (161, 1) 1 0 1]])), ((161, 1), some (.arr true 1 [uv 3])), ((41, 0), none), ((41, 1), some (.arr true 1 ([true, true].map bv))), ((41, 2), some (.arr true 1 ([false, true].map bv))), ((41, 3), none), ((41, 4), none), ((41, 5), none), ((41, 6), none), ((41, 7), none), ((41, 8), none), ((41, 9), none)]⟩) 2 (by kernel_rfl) ⟨_, _, ⟨0, rfl, by decide, rfl, rfl⟩, rfl⟩ ?_
    rintro m st ⟨z, x, ⟨b, rfl, hb, rfl, rfl⟩, rfl⟩
    skip
    conv => whnf
    refine vif_dec (fun h1 => ?_) (fun h1 => ?_)
    · conv => whnf
      refine ⟨⟨rfl, by decide, by decide⟩, ?_⟩
      conv => whnf
      refine ⟨⟨rfl, by omega, by omega⟩, ?_⟩
      conv => whnf
      refine ⟨_, rfl, ask_row (r := [false, true]) (b := b) (by simp; omega) fun y hy => ?_⟩
      cases y
      · conv => whnf
        exact ⟨by kernel_rfl, 2 - (b + 1), by omega, _, _, ⟨b + 1, rfl, by omega, wrap_i64 (by omega), by rw [wp_succ, hy]; rfl⟩, rfl⟩
      · conv => whnf
        refine l01Power.ac _ (by omega) ?_
        conv => whnf
        exact ⟨by kernel_rfl, 2 - (b + 1), by omega, _, _, ⟨b + 1, rfl, by omega, wrap_i64 (by omega), by rw [wp_succ, hy]; exact wrap_u64 (wp_add (by omega)) ⟩, rfl⟩
    · conv => whnf
      obtain rfl : b = 2 := by omega
      exact ⟨by kernel_rfl, 0, by decide, .inr (.inr (⟨rfl, rfl⟩))⟩
  conv => whnf
  refine LatOkS.acW 2 [3, 2] fun r hr => ?_
  obtain rfl : r = true := hr.2 (latB_P (by kernel_rfl))
  conv => whnf
  exact hK
end Go.Eng.T.L

namespace Go.Eng.T.L
open Go.Proofs Go.Eng
set_option maxRecDepth 100000
set_option maxHeartbeats 0
theorem lt3 {k : Nat} (h : k < 3) : k = 0 ∨ k = 1 ∨ k = 2 := by omega
theorem rows3 {a : Nat} (h : a < 3) (r0 r1 r2 : List Bool) : mkOb [((6, 0), some (.arr false 2 [.agg [iv 0, nilV]])), ((32, 0), some (.arr false 1 [.ls (41, 1) 1 0 3, .ls (41, 2) 1 0 3, .ls (41, 3) 1 0 3])), ((15, 0), none), ((161, 1), none), ((41, 0), none), ((41, 1), some (.arr true 1 (r0.map bv))), ((41, 2), some (.arr true 1 (r1.map bv))), ((41, 3), some (.arr true 1 (r2.map bv))), ((41, 4), none), ((41, 5), none), ((41, 6), none), ((41, 7), none), ((41, 8), none), ((41, 9), none)] (41, a + 1) = some (.arr true 1 (([r0, r1, r2].getD a []).map bv)) := by
  obtain rfl | rfl | rfl := lt3 h <;> rfl
theorem lens3 {a : Nat} (h : a < 3) {r0 r1 r2 : List Bool} (hl : r0.length = 3 ∧ r1.length = 3 ∧ r2.length = 3) : ([r0, r1, r2].getD a []).length = 3 := by
  obtain ⟨l0, l1, l2⟩ := hl
  obtain rfl | rfl | rfl := lt3 h <;> assumption
theorem LatOfS.ac3 {K : V → List Obj → List Obj → Prop} (hK : K (.tup [.agg [iv 3, .ls (1, 0) 1 0 3], bv true]) [] [upO [7, 6, 4]]) : AC Try.prog 113 [iv 3, .is 2 (List.map encE [(0, 1), (1, 2)])] [] K := by
  refine ac_body annLatOf fkLatOf hm htt Try.func113 rfl (by kernel_rfl) rfl rfl ?_
  conv => whnf
  refine cwF_loop (fun m st => (m = 3 ∧ st = ⟨[iv 3, .is 2 (List.map encE [(0, 1), (1, 2)]), .un, .un, .lp (6, 0) 2 0 0, bv false, .ls (32, 0) 1 0 3, iv 0] ++ List.replicate 158 .un, mkOb [((6, 0), some (.arr false 2 [.agg [iv 0, nilV]])), ((32, 0), some (.arr false 1 [nilV, nilV, nilV])), ((15, 0), none), ((161, 1), none), ((41, 0), none), ((41, 1), none), ((41, 2), none), ((41, 3), none), ((41, 4), none), ((41, 5), none), ((41, 6), none), ((41, 7), none), ((41, 8), none), ((41, 9), none)]⟩) ∨ (m = 2 ∧ st = ⟨[iv 3, .is 2 (List.map encE [(0, 1), (1, 2)]), .un, .un, .lp (6, 0) 2 0 0, bv false, .ls (32, 0) 1 0 3, iv 1] ++ List.replicate 158 .un, mkOb [((6, 0), some (.arr false 2 [.agg [iv 0, nilV]])), ((32, 0), some (.arr false 1 [.ls (41, 1) 1 0 3, nilV, nilV])), ((15, 0), none), ((161, 1), none), ((41, 0), none), ((41, 1), some (.arr true 1 ([true, false, false].map bv))), ((41, 2), none), ((41, 3), none), ((41, 4), none), ((41, 5), none), ((41, 6), none), ((41, 7), none), ((41, 8), none), ((41, 9), none)]⟩) ∨ (m = 1 ∧ st = ⟨[iv 3, .is 2 (List.map encE [(0, 1), (1, 2)]), .un, .un, .lp (6, 0) 2 0 0, bv false, .ls (32, 0) 1 0 3, iv 2] ++ List.replicate 158 .un, mkOb [((6, 0), some (.arr false 2 [.agg [iv 0, nilV]])), ((32, 0), some (.arr false 1 [.ls (41, 1) 1 0 3, .ls (41, 2) 1 0 3, nilV])), ((15, 0), none), ((161, 1), none), ((41, 0), none), ((41, 1), some (.arr true 1 ([true, false, false].map bv))), ((41, 2), some (.arr true 1 ([false, true, false].map bv))), ((41, 3), none), ((41, 4), none), ((41, 5), none), ((41, 6), none), ((41, 7), none), ((41, 8), none), ((41, 9), none)]⟩) ∨ (m = 0 ∧ st = ⟨[iv 3, .is 2 (List.map encE [(0, 1), (1, 2)]), .un, .un, .lp (6, 0) 2 0 0, bv false, .ls (32, 0) 1 0 3, iv 3] ++ List.replicate 158 .un, mkOb [((6, 0), some (.arr false 2 [.agg [iv 0, nilV]])), ((32, 0), some (.arr false 1 [.ls (41, 1) 1 0 3, .ls (41, 2) 1 0 3, .ls (41, 3) 1 0 3])), ((15, 0), none), ((161, 1), none), ((41, 0), none), ((41, 1), some (.arr true 1 ([true, false, false].map bv))), ((41, 2), some (.arr true 1 ([false, true, false].map bv))), ((41, 3), some (.arr true 1 ([false, false, true].map bv))), ((41, 4), none), ((41, 5), none), ((41, 6), none), ((41, 7), none), ((41, 8), none), ((41, 9), none)]⟩)) 3 (by kernel_rfl) (.inl ⟨rfl, rfl⟩) ?_
  rintro m st (⟨rfl, rfl⟩ | ⟨rfl, rfl⟩ | ⟨rfl, rfl⟩ | ⟨rfl, rfl⟩)
  · conv => whnf
    refine ⟨⟨by decide, rfl, by decide, by decide, by decide, by decide⟩, ?_⟩
    conv => whnf
    refine ⟨⟨rfl, by decide, by decide⟩, ?_⟩
    conv => whnf
    refine ⟨⟨rfl, by decide, by decide⟩, ?_⟩
    conv => whnf
    refine ⟨⟨rfl, by decide, by decide⟩, ?_⟩
    conv => whnf
    refine ⟨_, rfl, ⟨rfl, List.not_mem_nil⟩, _, rfl, ?_⟩
    conv => whnf
    exact ⟨by kernel_rfl, 2, by decide, .inr (.inl ⟨rfl, rfl⟩)⟩
  · conv => whnf
    refine ⟨⟨by decide, rfl, by decide, by decide, by decide, by decide⟩, ?_⟩
    conv => whnf
    refine ⟨⟨rfl, by decide, by decide⟩, ?_⟩
    conv => whnf
    refine ⟨⟨rfl, by decide, by decide⟩, ?_⟩
    conv => whnf
    refine ⟨⟨rfl, by decide, by decide⟩, ?_⟩
    conv => whnf
    refine ⟨_, rfl, ⟨rfl, List.not_mem_nil⟩, _, rfl, ?_⟩
    conv => whnf
    exact ⟨by kernel_rfl, 1, by decide, .inr (.inr (.inl ⟨rfl, rfl⟩))⟩
  · conv => whnf
    refine ⟨⟨by decide, rfl, by decide, by decide, by decide, by decide⟩, ?_⟩
    conv => whnf
    refine ⟨⟨rfl, by decide, by decide⟩, ?_⟩
    conv => whnf
    refine ⟨⟨rfl, by decide, by decide⟩, ?_⟩
    conv => whnf
    refine ⟨⟨rfl, by decide, by decide⟩, ?_⟩
    conv => whnf
    refine ⟨_, rfl, ⟨rfl, List.not_mem_nil⟩, _, rfl, ?_⟩
    conv => whnf
    exact ⟨by kernel_rfl, 0, by decide, .inr (.inr (.inr (⟨rfl, rfl⟩)))⟩
  conv => whnf
  refine cwF_loop (fun m st => (m = 2 ∧ st = ⟨[iv 3, .is 2 (List.map encE [(0, 1), (1, 2)]), .un, .un, .lp (6, 0) 2 0 0, bv false, .ls (32, 0) 1 0 3, .un, iv 0] ++ List.replicate 157 .un, mkOb [((6, 0), some (.arr false 2 [.agg [iv 0, nilV]])), ((32, 0), some (.arr false 1 [.ls (41, 1) 1 0 3, .ls (41, 2) 1 0 3, .ls (41, 3) 1 0 3])), ((15, 0), none), ((161, 1), none), ((41, 0), none), ((41, 1), some (.arr true 1 ([true, false, false].map bv))), ((41, 2), some (.arr true 1 ([false, true, false].map bv))), ((41, 3), some (.arr true 1 ([false, false, true].map bv))), ((41, 4), none), ((41, 5), none), ((41, 6), none), ((41, 7), none), ((41, 8), none), ((41, 9), none)]⟩) ∨ (m = 1 ∧ st = ⟨[iv 3, .is 2 (List.map encE [(0, 1), (1, 2)]), .un, .un, .lp (6, 0) 2 0 0, bv false, .ls (32, 0) 1 0 3, .un, iv 1] ++ List.replicate 157 .un, mkOb [((6, 0), some (.arr false 2 [.agg [iv 0, nilV]])), ((32, 0), some (.arr false 1 [.ls (41, 1) 1 0 3, .ls (41, 2) 1 0 3, .ls (41, 3) 1 0 3])), ((15, 0), none), ((161, 1), none), ((41, 0), none), ((41, 1), some (.arr true 1 ([true, true, false].map bv))), ((41, 2), some (.arr true 1 ([false, true, false].map bv))), ((41, 3), some (.arr true 1 ([false, false, true].map bv))), ((41, 4), none), ((41, 5), none), ((41, 6), none), ((41, 7), none), ((41, 8), none), ((41, 9), none)]⟩) ∨ (m = 0 ∧ st = ⟨[iv 3, .is 2 (List.map encE [(0, 1), (1, 2)]), .un, .un, .lp (6, 0) 2 0 0, bv false, .ls (32, 0) 1 0 3, .un, iv 2] ++ List.replicate 157 .un, mkOb [((6, 0), some (.arr false 2 [.agg [iv 0, nilV]])), ((32, 0), some (.arr false 1 [.ls (41, 1) 1 0 3, .ls (41, 2) 1 0 3, .ls (41, 3) 1 0 3])), ((15, 0), none), ((161, 1), none), ((41, 0), none), ((41, 1), some (.arr true 1 ([true, true, false].map bv))), ((41, 2), some (.arr true 1 ([false, true, true].map bv))), ((41, 3), some (.arr true 1 ([false, false, true].map bv))), ((41, 4), none), ((41, 5), none), ((41, 6), none), ((41, 7), none), ((41, 8), none), ((41, 9), none)]⟩)) 2 (by kernel_rfl) (.inl ⟨rfl, rfl⟩) ?_
  rintro m st (⟨rfl, rfl⟩ | ⟨rfl, rfl⟩ | ⟨rfl, rfl⟩)
  · conv => whnf
    refine ⟨⟨rfl, by decide, by decide⟩, ?_⟩
    conv => whnf
    refine ⟨_, rfl, ?_⟩
    conv => whnf
    refine ⟨⟨rfl, by decide, by decide⟩, ?_⟩
    conv => whnf
    refine ⟨⟨rfl, by decide, by decide⟩, ?_⟩
    conv => whnf
    refine ⟨_, rfl, ⟨rfl, List.not_mem_nil⟩, _, rfl, ?_⟩
    conv => whnf
    refine ⟨by kernel_rfl, ?_⟩
    conv => whnf
    exact ⟨by kernel_rfl, 1, by decide, .inr (.inl ⟨rfl, rfl⟩)⟩
  · conv => whnf
    refine ⟨⟨rfl, by decide, by decide⟩, ?_⟩
    conv => whnf
    refine ⟨_, rfl, ?_⟩
    conv => whnf
    refine ⟨⟨rfl, by decide, by decide⟩, ?_⟩
    conv => whnf
    refine ⟨⟨rfl, by decide, by decide⟩, ?_⟩
    conv => whnf
    refine ⟨_, rfl, ⟨rfl, List.not_mem_nil⟩, _, rfl, ?_⟩
    conv => whnf
    refine ⟨by kernel_rfl, ?_⟩
    conv => whnf
    exact ⟨by kernel_rfl, 0, by decide, .inr (.inr (⟨rfl, rfl⟩))⟩
  conv => whnf
  refine cwF_loop (fun m st => ∃ (z : Int) (e0 e1 e2 : List V), (∃ (k : Nat) (r0 r1 r2 : List Bool), m = 3 - k ∧ k ≤ 3 ∧ z = (k : Nat) ∧ [r0, r1, r2] = fwK 3 [[true, true, false], [false, true, true], [false, false, true]] k ∧ (r0.length = 3 ∧ r1.length = 3 ∧ r2.length = 3) ∧ e0 = r0.map bv ∧ e1 = r1.map bv ∧ e2 = r2.map bv) ∧ st = ⟨[iv 3, .un, .un, .un, .lp (6, 0) 2 0 0, bv false, .ls (32, 0) 1 0 3, .un, .un, .un, iv z] ++ List.replicate 155 .un, mkOb [((6, 0), some (.arr false 2 [.agg [iv 0, nilV]])), ((32, 0), some (.arr false 1 [.ls (41, 1) 1 0 3, .ls (41, 2) 1 0 3, .ls (41, 3) 1 0 3])), ((15, 0), none), ((161, 1), none), ((41, 0), none), ((41, 1), some (.arr true 1 e0)), ((41, 2), some (.arr true 1 e1)), ((41, 3), some (.arr true 1 e2)), ((41, 4), none), ((41, 5), none), ((41, 6), none), ((41, 7), none), ((41, 8), none), ((41, 9), none)]⟩) 3 (by kernel_rfl) ⟨_, _, _, _, ⟨0, [true, true, false], [false, true, true], [false, false, true], rfl, by decide, rfl, fwK_zero.symm, ⟨rfl, rfl, rfl⟩, rfl, rfl, rfl⟩, rfl⟩ ?_
  rintro m st ⟨z, e0, e1, e2, ⟨k, r0, r1, r2, rfl, hk, rfl, hM1, hl1, rfl, rfl, rfl⟩, rfl⟩
  conv => whnf
  refine vif_dec (fun h1 => ?_) (fun h1 => ?_)
  · conv => whnf
    refine cwF_loop (fun m st => ∃ (z : Int) (e0 e1 e2 : List V), (∃ (a : Nat) (r0 r1 r2 : List Bool), m = 3 - a ∧ a ≤ 3 ∧ z = (a : Nat) ∧ [r0, r1, r2] = fwA 3 (fwK 3 [[true, true, false], [false, true, true], [false, false, true]] k) k a ∧ (r0.length = 3 ∧ r1.length = 3 ∧ r2.length = 3) ∧ e0 = r0.map bv ∧ e1 = r1.map bv ∧ e2 = r2.map bv) ∧ st = ⟨[iv 3, .un, .un, .un, .lp (6, 0) 2 0 0, bv false, .ls (32, 0) 1 0 3, .un, .un, .un, iv (k : Nat), iv z] ++ List.replicate 154 .un, mkOb [((6, 0), some (.arr false 2 [.agg [iv 0, nilV]])), ((32, 0), some (.arr false 1 [.ls (41, 1) 1 0 3, .ls (41, 2) 1 0 3, .ls (41, 3) 1 0 3])), ((15, 0), none), ((161, 1), none), ((41, 0), none), ((41, 1), some (.arr true 1 e0)), ((41, 2), some (.arr true 1 e1)), ((41, 3), some (.arr true 1 e2)), ((41, 4), none), ((41, 5), none), ((41, 6), none), ((41, 7), none), ((41, 8), none), ((41, 9), none)]⟩) 3 (by kernel_rfl) ⟨_, _, _, _, ⟨0, r0, r1, r2, rfl, by decide, rfl, hM1.trans fwA_zero.symm, hl1, rfl, rfl, rfl⟩, rfl⟩ ?_
    clear hM1 hl1
    rintro m st ⟨z, e0, e1, e2, ⟨a, r0, r1, r2, rfl, ha, rfl, hM2, hl2, rfl, rfl, rfl⟩, rfl⟩
    conv => whnf
    refine vif_dec (fun h2 => ?_) (fun h2 => ?_)
    · conv => whnf
      refine cwF_loop (fun m st => ∃ (z : Int) (e0 e1 e2 : List V), (∃ (b : Nat) (r0 r1 r2 : List Bool), m = 3 - b ∧ b ≤ 3 ∧ z = (b : Nat) ∧ [r0, r1, r2] = fwR (fwA 3 (fwK 3 [[true, true, false], [false, true, true], [false, false, true]] k) k a) k a b ∧ (r0.length = 3 ∧ r1.length = 3 ∧ r2.length = 3) ∧ e0 = r0.map bv ∧ e1 = r1.map bv ∧ e2 = r2.map bv) ∧ st = ⟨[iv 3, .un, .un, .un, .lp (6, 0) 2 0 0, bv false, .ls (32, 0) 1 0 3, .un, .un, .un, iv (k : Nat), iv (a : Nat), iv z] ++ List.replicate 153 .un, mkOb [((6, 0), some (.arr false 2 [.agg [iv 0, nilV]])), ((32, 0), some (.arr false 1 [.ls (41, 1) 1 0 3, .ls (41, 2) 1 0 3, .ls (41, 3) 1 0 3])), ((15, 0), none), ((161, 1), none), ((41, 0), none), ((41, 1), some (.arr true 1 e0)), ((41, 2), some (.arr true 1 e1)), ((41, 3), some (.arr true 1 e2)), ((41, 4), none), ((41, 5), none), ((41, 6), none), ((41, 7), none), ((41, 8), none), ((41, 9), none)]⟩) 3 (by kernel_rfl) ⟨_, _, _, _, ⟨0, r0, r1, r2, rfl, by decide, rfl, hM2.trans fwR_zero.symm, hl2, rfl, rfl, rfl⟩, rfl⟩ ?_
      clear hM2 hl2
      rintro m st ⟨z, e0, e1, e2, ⟨b, r0, r1, r2, rfl, hb, rfl, hM3, hl3, rfl, rfl, rfl⟩, rfl⟩
      have la := lens3 (a := a) (by omega) hl3
      have lk := lens3 (a := k) (by omega) hl3
      conv => whnf
      refine vif_dec (fun h3 => ?_) (fun h3 => ?_)
      · conv => whnf
        refine ⟨⟨rfl, by omega, by omega⟩, ?_⟩
        conv => whnf
        refine ob_eq (v := (.ls (41, a + 1) 1 0 3, [])) (by obtain rfl | rfl | rfl := lt3 (by omega : a < 3) <;> rfl) ?_
        conv => whnf
        refine ⟨⟨rfl, by omega, by omega⟩, ?_⟩
        conv => whnf
        refine ob_eq (v := (.ls (41, a + 1) 1 0 3, [])) (by obtain rfl | rfl | rfl := lt3 (by omega : a < 3) <;> rfl) ?_
        conv => whnf
        refine ⟨⟨rfl, by omega, by omega⟩, ?_⟩
        conv => whnf
        refine ⟨_, rows3 (by omega) r0 r1 r2, ask_row (by omega) fun x hx => ?_⟩
        cases x
        · conv => whnf
          refine ⟨⟨rfl, by omega, by omega⟩, ?_⟩
          conv => whnf
          refine ob_eq (v := (.ls (41, a + 1) 1 0 3, [])) (by obtain rfl | rfl | rfl := lt3 (by omega : a < 3) <;> rfl) ?_
          conv => whnf
          refine ⟨⟨rfl, by omega, by omega⟩, ?_⟩
          conv => whnf
          refine ⟨_, rows3 (by omega) r0 r1 r2, ask_row (by omega) fun y hy => ?_⟩
          cases y
          · conv => whnf
            refine ⟨⟨rfl, by omega, by omega⟩, ?_⟩
            conv => whnf
            refine ⟨_, rows3 (by omega) r0 r1 r2, ⟨rfl, List.not_mem_nil⟩, _, row_get (by omega) hx, ?_⟩
            conv => whnf
            refine ⟨by kernel_rfl, ?_⟩
            conv => whnf
            have hN : fwR (fwA 3 (fwK 3 [[true, true, false], [false, true, true], [false, false, true]] k) k a) k a (b + 1) = [r0, r1, r2].set a (([r0, r1, r2].getD a []).set b false) := by rw [fwR_succ, ← hM3, fwB, hx, hy]; rfl
            clear hM3 hx la lk
            obtain ⟨l0, l1, l2⟩ := hl3
            obtain rfl | rfl | rfl := lt3 (by omega : a < 3)
            · exact ⟨by kernel_rfl, 3 - (b + 1), by omega, _, _, _, _, ⟨b + 1, r0.set b false, r1, r2, rfl, by omega, wrap_i64 (by omega), hN.symm, ⟨by rw [List.length_set]; exact l0, l1, l2⟩, row_set, rfl, rfl⟩, rfl⟩
            · exact ⟨by kernel_rfl, 3 - (b + 1), by omega, _, _, _, _, ⟨b + 1, r0, r1.set b false, r2, rfl, by omega, wrap_i64 (by omega), hN.symm, ⟨l0, by rw [List.length_set]; exact l1, l2⟩, rfl, row_set, rfl⟩, rfl⟩
            · exact ⟨by kernel_rfl, 3 - (b + 1), by omega, _, _, _, _, ⟨b + 1, r0, r1, r2.set b false, rfl, by omega, wrap_i64 (by omega), hN.symm, ⟨l0, l1, by rw [List.length_set]; exact l2⟩, rfl, rfl, row_set⟩, rfl⟩
          · conv => whnf
            refine ⟨⟨rfl, by omega, by omega⟩, ?_⟩
            conv => whnf
            refine ob_eq (v := (.ls (41, k + 1) 1 0 3, [])) (by obtain rfl | rfl | rfl := lt3 (by omega : k < 3) <;> rfl) ?_
            conv => whnf
            refine ⟨⟨rfl, by omega, by omega⟩, ?_⟩
            conv => whnf
            refine ⟨_, rows3 (by omega) r0 r1 r2, ask_row (by omega) fun z hz => ?_⟩
            conv => whnf
            refine ⟨⟨rfl, by omega, by omega⟩, ?_⟩
            conv => whnf
            refine ⟨_, rows3 (by omega) r0 r1 r2, ⟨rfl, List.not_mem_nil⟩, _, row_get (by omega) hx, ?_⟩
            conv => whnf
            refine ⟨by kernel_rfl, ?_⟩
            conv => whnf
            have hN : fwR (fwA 3 (fwK 3 [[true, true, false], [false, true, true], [false, false, true]] k) k a) k a (b + 1) = [r0, r1, r2].set a (([r0, r1, r2].getD a []).set b z) := by rw [fwR_succ, ← hM3, fwB, hx, hy, hz]; rfl
            clear hM3 hx la lk
            obtain ⟨l0, l1, l2⟩ := hl3
            obtain rfl | rfl | rfl := lt3 (by omega : a < 3)
            · exact ⟨by kernel_rfl, 3 - (b + 1), by omega, _, _, _, _, ⟨b + 1, r0.set b z, r1, r2, rfl, by omega, wrap_i64 (by omega), hN.symm, ⟨by rw [List.length_set]; exact l0, l1, l2⟩, row_set, rfl, rfl⟩, rfl⟩
            · exact ⟨by kernel_rfl, 3 - (b + 1), by omega, _, _, _, _, ⟨b + 1, r0, r1.set b z, r2, rfl, by omega, wrap_i64 (by omega), hN.symm, ⟨l0, by rw [List.length_set]; exact l1, l2⟩, rfl, row_set, rfl⟩, rfl⟩
            · exact ⟨by kernel_rfl, 3 - (b + 1), by omega, _, _, _, _, ⟨b + 1, r0, r1, r2.set b z, rfl, by omega, wrap_i64 (by omega), hN.symm, ⟨l0, l1, by rw [List.length_set]; exact l2⟩, rfl, rfl, row_set⟩, rfl⟩
        · conv => whnf
          refine ⟨⟨rfl, by omega, by omega⟩, ?_⟩
          conv => whnf
          refine ⟨_, rows3 (by omega) r0 r1 r2, ⟨rfl, List.not_mem_nil⟩, _, row_get (by omega) hx, ?_⟩
          conv => whnf
          refine ⟨by kernel_rfl, ?_⟩
          conv => whnf
          have hN : fwR (fwA 3 (fwK 3 [[true, true, false], [false, true, true], [false, false, true]] k) k a) k a (b + 1) = [r0, r1, r2].set a (([r0, r1, r2].getD a []).set b true) := by rw [fwR_succ, ← hM3, fwB, hx]; rfl
          clear hM3 hx la lk
          obtain ⟨l0, l1, l2⟩ := hl3
          obtain rfl | rfl | rfl := lt3 (by omega : a < 3)
          · exact ⟨by kernel_rfl, 3 - (b + 1), by omega, _, _, _, _, ⟨b + 1, r0.set b true, r1, r2, rfl, by omega, wrap_i64 (by omega), hN.symm, ⟨by rw [List.length_set]; exact l0, l1, l2⟩, row_set, rfl, rfl⟩, rfl⟩
          · exact ⟨by kernel_rfl, 3 - (b + 1), by omega, _, _, _, _, ⟨b + 1, r0, r1.set b true, r2, rfl, by omega, wrap_i64 (by omega), hN.symm, ⟨l0, by rw [List.length_set]; exact l1, l2⟩, rfl, row_set, rfl⟩, rfl⟩
          · exact ⟨by kernel_rfl, 3 - (b + 1), by omega, _, _, _, _, ⟨b + 1, r0, r1, r2.set b true, rfl, by omega, wrap_i64 (by omega), hN.symm, ⟨l0, l1, by rw [List.length_set]; exact l2⟩, rfl, rfl, row_set⟩, rfl⟩
      · conv => whnf
        obtain rfl : b = 3 := by omega
        exact ⟨by kernel_rfl, 3 - (a + 1), by omega, _, _, _, _, ⟨a + 1, r0, r1, r2, rfl, by omega, wrap_i64 (by omega), by rw [fwA_succ]; exact hM3, hl3, rfl, rfl, rfl⟩, rfl⟩
    · conv => whnf
      obtain rfl : a = 3 := by omega
      exact ⟨by kernel_rfl, 3 - (k + 1), by omega, _, _, _, _, ⟨k + 1, r0, r1, r2, rfl, by omega, wrap_i64 (by omega), by rw [fwK_succ]; exact hM2, hl2, rfl, rfl, rfl⟩, rfl⟩
  obtain rfl : k = 3 := by omega
  have hE : fwK 3 [[true, true, false], [false, true, true], [false, false, true]] 3 = [[true, true, true], [false, true, true], [false, false, true]] := by kernel_rfl
  rw [hE] at hM1
  clear hE hl1
  simp only [List.cons.injEq, and_true] at hM1
  obtain ⟨rfl, rfl, rfl⟩ := hM1
  conv => whnf
  refine cwF_loop (fun m st => (m = 3 ∧ st = ⟨[iv 3, .un, .un, .un, .lp (6, 0) 2 0 0, bv false, .ls (32, 0) 1 0 3] ++ List.replicate 6 .un ++ [.lp (15, 0) 2 0 0, iv 0] ++ List.replicate 151 .un, mkOb [((6, 0), some (.arr false 2 [.agg [iv 0, nilV]])), ((32, 0), some (.arr false 1 [.ls (41, 1) 1 0 3, .ls (41, 2) 1 0 3, .ls (41, 3) 1 0 3])), ((15, 0), some (.arr false 2 [.agg [iv 3, nilV]])), ((161, 1), none), ((41, 0), none), ((41, 1), some (.arr true 1 ([true, true, true].map bv))), ((41, 2), some (.arr true 1 ([false, true, true].map bv))), ((41, 3), some (.arr true 1 ([false, false, true].map bv))), ((41, 4), none), ((41, 5), none), ((41, 6), none), ((41, 7), none), ((41, 8), none), ((41, 9), none)]⟩) ∨ (m = 2 ∧ st = ⟨[iv 3, .un, .un, .un, .lp (6, 0) 2 0 0, bv false, .ls (32, 0) 1 0 3] ++ List.replicate 6 .un ++ [.lp (15, 0) 2 0 0, iv 1] ++ List.replicate 151 .un, mkOb [((6, 0), some (.arr false 2 [.agg [iv 0, nilV]])), ((32, 0), some (.arr false 1 [.ls (41, 1) 1 0 3, .ls (41, 2) 1 0 3, .ls (41, 3) 1 0 3])), ((15, 0), some (.arr false 2 [.agg [iv 3, .ls (161, 1) 1 0 1]])), ((161, 1), some (.arr true 1 [uv 7])), ((41, 0), none), ((41, 1), some (.arr true 1 ([true, true, true].map bv))), ((41, 2), some (.arr true 1 ([false, true, true].map bv))), ((41, 3), some (.arr true 1 ([false, false, true].map bv))), ((41, 4), none), ((41, 5), none), ((41, 6), none), ((41, 7), none), ((41, 8), none), ((41, 9), none)]⟩) ∨ (m = 1 ∧ st = ⟨[iv 3, .un, .un, .un, .lp (6, 0) 2 0 0, bv false, .ls (32, 0) 1 0 3] ++ List.replicate 6 .un ++ [.lp (15, 0) 2 0 0, iv 2] ++ List.replicate 151 .un, mkOb [((6, 0), some (.arr false 2 [.agg [iv 0, nilV]])), ((32, 0), some (.arr false 1 [.ls (41, 1) 1 0 3, .ls (41, 2) 1 0 3, .ls (41, 3) 1 0 3])), ((15, 0), some (.arr false 2 [.agg [iv 3, .ls (161, 1) 1 0 2]])), ((161, 1), some (.arr true 1 [uv 7, uv 6])), ((41, 0), none), ((41, 1), some (.arr true 1 ([true, true, true].map bv))), ((41, 2), some (.arr true 1 ([false, true, true].map bv))), ((41, 3), some (.arr true 1 ([false, false, true].map bv))), ((41, 4), none), ((41, 5), none), ((41, 6), none), ((41, 7), none), ((41, 8), none), ((41, 9), none)]⟩) ∨ (m = 0 ∧ st = ⟨[iv 3, .un, .un, .un, .lp (6, 0) 2 0 0, bv false, .ls (32, 0) 1 0 3] ++ List.replicate 6 .un ++ [.lp (15, 0) 2 0 0, iv 3] ++ List.replicate 151 .un, mkOb [((6, 0), some (.arr false 2 [.agg [iv 0, nilV]])), ((32, 0), some (.arr false 1 [.ls (41, 1) 1 0 3, .ls (41, 2) 1 0 3, .ls (41, 3) 1 0 3])), ((15, 0), some (.arr false 2 [.agg [iv 3, .ls (161, 1) 1 0 3]])), ((161, 1), some (.arr true 1 [uv 7, uv 6, uv 4])), ((41, 0), none), ((41, 1), some (.arr true 1 ([true, true, true].map bv))), ((41, 2), some (.arr true 1 ([false, true, true].map bv))), ((41, 3), some (.arr true 1 ([false, false, true].map bv))), ((41, 4), none), ((41, 5), none), ((41, 6), none), ((41, 7), none), ((41, 8), none), ((41, 9), none)]⟩)) 3 (by kernel_rfl) (.inl ⟨rfl, rfl⟩) ?_
  rintro m st (⟨rfl, rfl⟩ | ⟨rfl, rfl⟩ | ⟨rfl, rfl⟩ | ⟨rfl, rfl⟩)
  · conv => whnf
    refine cwF_loop (fun m st => ∃ z x : Int, (∃ b : Nat, m = 3 - b ∧ b ≤ 3 ∧ z = (b : Nat) ∧ x = wp [true, true, true] b) ∧ st = ⟨[iv 3, .un, .un, .un, .lp (6, 0) 2 0 0, bv false, .ls (32, 0) 1 0 3] ++ List.replicate 6 .un ++ [.lp (15, 0) 2 0 0, iv 0, uv x, iv z] ++ List.replicate 149 .un, mkOb [((6, 0), some (.arr false 2 [.agg [iv 0, nilV]])), ((32, 0), some (.arr false 1 [.ls (41, 1) 1 0 3, .ls (41, 2) 1 0 3, .ls (41, 3) 1 0 3])), ((15, 0), some (.arr false 2 [.agg [iv 3, nilV]])), ((161, 1), none), ((41, 0), none), ((41, 1), some (.arr true 1 ([true, true, true].map bv))), ((41, 2), some (.arr true 1 ([false, true, true].map bv))), ((41, 3), some (.arr true 1 ([false, false, true].map bv))), ((41, 4), none), ((41, 5), none), ((41, 6), none), ((41, 7), none), ((41, 8), none), ((41, 9), none)]⟩) 3 (by kernel_rfl) ⟨_, _, ⟨0, rfl, by decide, rfl, rfl⟩, rfl⟩ ?_
    rintro m st ⟨z, x, ⟨b, rfl, hb, rfl, rfl⟩, rfl⟩
    skip
    conv => whnf
    refine vif_dec (fun h1 => ?_) (fun h1 => ?_)
    · conv => whnf
      refine ⟨⟨rfl, by decide, by decide⟩, ?_⟩
      conv => whnf
      refine ⟨⟨rfl, by omega, by omega⟩, ?_⟩
      conv => whnf
      refine ⟨_, rfl, ask_row (r := [true, true, true]) (b := b) (by simp; omega) fun y hy => ?_⟩
      cases y
      · conv => whnf
        exact ⟨by kernel_rfl, 3 - (b + 1), by omega, _, _, ⟨b + 1, rfl, by omega, wrap_i64 (by omega), by rw [wp_succ, hy]; rfl⟩, rfl⟩
      · conv => whnf
        refine l01Power.ac _ (by omega) ?_
        conv => whnf
        exact ⟨by kernel_rfl, 3 - (b + 1), by omega, _, _, ⟨b + 1, rfl, by omega, wrap_i64 (by omega), by rw [wp_succ, hy]; exact wrap_u64 (wp_add (by omega)) ⟩, rfl⟩
    · conv => whnf
      obtain rfl : b = 3 := by omega
      refine ⟨⟨by decide, by decide, rfl⟩, ?_⟩
      conv => whnf
      exact ⟨by kernel_rfl, 2, by decide, .inr (.inl ⟨rfl, rfl⟩)⟩
  · conv => whnf
    refine cwF_loop (fun m st => ∃ z x : Int, (∃ b : Nat, m = 3 - b ∧ b ≤ 3 ∧ z = (b : Nat) ∧ x = wp [false, true, true] b) ∧ st = ⟨[iv 3, .un, .un, .un, .lp (6, 0) 2 0 0, bv false, .ls (32, 0) 1 0 3] ++ List.replicate 6 .un ++ [.lp (15, 0) 2 0 0, iv 1, uv x, iv z] ++ List.replicate 149 .un, mkOb [((6, 0), some (.arr false 2 [.agg [iv 0, nilV]])), ((32, 0), some (.arr false 1 [.ls (41, 1) 1 0 3, .ls (41, 2) 1 0 3, .ls (41, 3) 1 0 3])), ((15, 0), some (.arr false 2 [.agg [iv 3, .ls (161, 1) 1 0 1]])), ((161, 1), some (.arr true 1 [uv 7])), ((41, 0), none), ((41, 1), some (.arr true 1 ([true, true, true].map bv))), ((41, 2), some (.arr true 1 ([false, true, true].map bv))), ((41, 3), some (.arr true 1 ([false, false, true].map bv))), ((41, 4), none), ((41, 5), none), ((41, 6), none), ((41, 7), none), ((41, 8), none), ((41, 9), none)]⟩) 3 (by kernel_rfl) ⟨_, _, ⟨0, rfl, by decide, rfl, rfl⟩, rfl⟩ ?_
    rintro m st ⟨z, x, ⟨b, rfl, hb, rfl, rfl⟩, rfl⟩
    skip
    conv => whnf
    refine vif_dec (fun h1 => ?_) (fun h1 => ?_)
    · conv => whnf
      refine ⟨⟨rfl, by decide, by decide⟩, ?_⟩
      conv => whnf
      refine ⟨⟨rfl, by omega, by omega⟩, ?_⟩
      conv => whnf
      refine ⟨_, rfl, ask_row (r := [false, true, true]) (b := b) (by simp; omega) fun y hy => ?_⟩
      cases y
      · conv => whnf
        exact ⟨by kernel_rfl, 3 - (b + 1), by omega, _, _, ⟨b + 1, rfl, by omega, wrap_i64 (by omega), by rw [wp_succ, hy]; rfl⟩, rfl⟩
      · conv => whnf
        refine l01Power.ac _ (by omega) ?_
        conv => whnf
        exact ⟨by kernel_rfl, 3 - (b + 1), by omega, _, _, ⟨b + 1, rfl, by omega, wrap_i64 (by omega), by rw [wp_succ, hy]; exact wrap_u64 (wp_add (by omega)) ⟩, rfl⟩
    · conv => whnf
      obtain rfl : b = 3 := by omega
      exact ⟨by kernel_rfl, 1, by decide, .inr (.inr (.inl ⟨rfl, rfl⟩))⟩
  · conv => whnf
    refine cwF_loop (fun m st => ∃ z x : Int, (∃ b : Nat, m = 3 - b ∧ b ≤ 3 ∧ z = (b : Nat) ∧ x = wp [false, false, true] b) ∧ st = ⟨[iv 3, .un, .un, .un, .lp (6, 0) 2 0 0, bv false, .ls (32, 0) 1 0 3] ++ List.replicate 6 .un ++ [.lp (15, 0) 2 0 0, iv 2, uv x, iv z] ++ List.replicate 149 .un, mkOb [((6, 0), some (.arr false 2 [.agg [iv 0, nilV]])), ((32, 0), some (.arr false 1 [.ls (41, 1) 1 0 3, .ls (41, 2) 1 0 3, .ls (41, 3) 1 0 3])), ((15, 0), some (.arr false 2 [.agg [iv 3, .ls (161, 1) 1 0 2]])), ((161, 1), some (.arr true 1 [uv 7, uv 6])), ((41, 0), none), ((41, 1), some (.arr true 1 ([true, true, true].map bv))), ((41, 2), some (.arr true 1 ([false, true, true].map bv))), ((41, 3), some (.arr true 1 ([false, false, true].map bv))), ((41, 4), none), ((41, 5), none), ((41, 6), none), ((41, 7), none), ((41, 8), none), ((41, 9), none)]⟩) 3 (by kernel_rfl) ⟨_, _, ⟨0, rfl, by decide, rfl, rfl⟩, rfl⟩ ?_
    rintro m st ⟨z, x, ⟨b, rfl, hb, rfl, rfl⟩, rfl⟩
    skip
    conv => whnf
    refine vif_dec (fun h1 => ?_) (fun h1 => ?_)
    · conv => whnf
      refine ⟨⟨rfl, by decide, by decide⟩, ?_⟩
      conv => whnf
      refine ⟨⟨rfl, by omega, by omega⟩, ?_⟩
      conv => whnf
      refine ⟨_, rfl, ask_row (r := [false, false, true]) (b := b) (by simp; omega) fun y hy => ?_⟩
      cases y
      · conv => whnf
        exact ⟨by kernel_rfl, 3 - (b + 1), by omega, _, _, ⟨b + 1, rfl, by omega, wrap_i64 (by omega), by rw [wp_succ, hy]; rfl⟩, rfl⟩
      · conv => whnf
        refine l01Power.ac _ (by omega) ?_
        conv => whnf
        exact ⟨by kernel_rfl, 3 - (b + 1), by omega, _, _, ⟨b + 1, rfl, by omega, wrap_i64 (by omega), by rw [wp_succ, hy]; exact wrap_u64 (wp_add (by omega)) ⟩, rfl⟩
    · conv => whnf
      obtain rfl : b = 3 := by omega
      exact ⟨by kernel_rfl, 0, by decide, .inr (.inr (.inr (⟨rfl, rfl⟩)))⟩
  conv => whnf
  refine LatOkS.acW 3 [7, 6, 4] fun r hr => ?_
  obtain rfl : r = true := hr.2 (latB_P (by kernel_rfl))
  conv => whnf
  exact hK
end Go.Eng.T.L

namespace Go.Eng.T.L
open Go.Proofs Go.Eng
set_option maxRecDepth 100000
set_option maxHeartbeats 0
theorem lt4 {k : Nat} (h : k < 4) : k = 0 ∨ k = 1 ∨ k = 2 ∨ k = 3 := by omega
theorem rows4 {a : Nat} (h : a < 4) (r0 r1 r2 r3 : List Bool) : mkOb [((6, 0), some (.arr false 2 [.agg [iv 0, nilV]])), ((32, 0), some (.arr false 1 [.ls (41, 1) 1 0 4, .ls (41, 2) 1 0 4, .ls (41, 3) 1 0 4, .ls (41, 4) 1 0 4])), ((15, 0), none), ((161, 1), none), ((41, 0), none), ((41, 1), some (.arr true 1 (r0.map bv))), ((41, 2), some (.arr true 1 (r1.map bv))), ((41, 3), some (.arr true 1 (r2.map bv))), ((41, 4), some (.arr true 1 (r3.map bv))), ((41, 5), none), ((41, 6), none), ((41, 7), none), ((41, 8), none), ((41, 9), none)] (41, a + 1) = some (.arr true 1 (([r0, r1, r2, r3].getD a []).map bv)) := by
  obtain rfl | rfl | rfl | rfl := lt4 h <;> rfl
theorem lens4 {a : Nat} (h : a < 4) {r0 r1 r2 r3 : List Bool} (hl : r0.length = 4 ∧ r1.length = 4 ∧ r2.length = 4 ∧ r3.length = 4) : ([r0, r1, r2, r3].getD a []).length = 4 := by
  obtain ⟨l0, l1, l2, l3⟩ := hl
  obtain rfl | rfl | rfl | rfl := lt4 h <;> assumption
theorem LatOfS.ac4 {K : V → List Obj → List Obj → Prop} (hK : K (.tup [.agg [iv 4, .ls (1, 0) 1 0 4], bv true]) [] [upO [15, 10, 12, 8]]) : AC Try.prog 113 [iv 4, .is 2 (List.map encE [(0, 1), (0, 2), (1, 3), (2, 3)])] [] K := by
  refine ac_body annLatOf fkLatOf hm htt Try.func113 rfl (by kernel_rfl) rfl rfl ?_
  conv => whnf
  refine cwF_loop (fun m st => (m = 4 ∧ st = ⟨[iv 4, .is 2 (List.map encE [(0, 1), (0, 2), (1, 3), (2, 3)]), .un, .un, .lp (6, 0) 2 0 0, bv false, .ls (32, 0) 1 0 4, iv 0] ++ List.replicate 158 .un, mkOb [((6, 0), some (.arr false 2 [.agg [iv 0, nilV]])), ((32, 0), some (.arr false 1 [nilV, nilV, nilV, nilV])), ((15, 0), none), ((161, 1), none), ((41, 0), none), ((41, 1), none), ((41, 2), none), ((41, 3), none), ((41, 4), none), ((41, 5), none), ((41, 6), none), ((41, 7), none), ((41, 8), none), ((41, 9), none)]⟩) ∨ (m = 3 ∧ st = ⟨[iv 4, .is 2 (List.map encE [(0, 1), (0, 2), (1, 3), (2, 3)]), .un, .un, .lp (6, 0) 2 0 0, bv false, .ls (32, 0) 1 0 4, iv 1] ++ List.replicate 158 .un, mkOb [((6, 0), some (.arr false 2 [.agg [iv 0, nilV]])), ((32, 0), some (.arr false 1 [.ls (41, 1) 1 0 4, nilV, nilV, nilV])), ((15, 0), none), ((161, 1), none), ((41, 0), none), ((41, 1), some (.arr true 1 ([true, false, false, false].map bv))), ((41, 2), none), ((41, 3), none), ((41, 4), none), ((41, 5), none), ((41, 6), none), ((41, 7), none), ((41, 8), none), ((41, 9), none)]⟩) ∨ (m = 2 ∧ st = ⟨[iv 4, .is 2 (List.map encE [(0, 1), (0, 2), (1, 3), (2, 3)]), .un, .un, .lp (6, 0) 2 0 0, bv false, .ls (32, 0) 1 0 4, iv 2] ++ List.replicate 158 .un, mkOb [((6, 0), some (.arr false 2 [.agg [iv 0, nilV]])), ((32, 0), some (.arr false 1 [.ls (41, 1) 1 0 4, .ls (41, 2) 1 0 4, nilV, nilV])), ((15, 0), none), ((161, 1), none), ((41, 0), none), ((41, 1), some (.arr true 1 ([true, false, false, false].map bv))), ((41, 2), some (.arr true 1 ([false, true, false, false].map bv))), ((41, 3), none), ((41, 4), none), ((41, 5), none), ((41, 6), none), ((41, 7), none), ((41, 8), none), ((41, 9), none)]⟩) ∨ (m = 1 ∧ st = ⟨[iv 4, .is 2 (List.map encE [(0, 1), (0, 2), (1, 3), (2, 3)]), .un, .un, .lp (6, 0) 2 0 0, bv false, .ls (32, 0) 1 0 4, iv 3] ++ List.replicate 158 .un, mkOb [((6, 0), some (.arr false 2 [.agg [iv 0, nilV]])), ((32, 0), some (.arr false 1 [.ls (41, 1) 1 0 4, .ls (41, 2) 1 0 4, .ls (41, 3) 1 0 4, nilV])), ((15, 0), none), ((161, 1), none), ((41, 0), none), ((41, 1), some (.arr true 1 ([true, false, false, false].map bv))), ((41, 2), some (.arr true 1 ([false, true, false, false].map bv))), ((41, 3), some (.arr true 1 ([false, false, true, false].map bv))), ((41, 4), none), ((41, 5), none), ((41, 6), none), ((41, 7), none), ((41, 8), none), ((41, 9), none)]⟩) ∨ (m = 0 ∧ st = ⟨[iv 4, .is 2 (List.map encE [(0, 1), (0, 2), (1, 3), (2, 3)]), .un, .un, .lp (6, 0) 2 0 0, bv false, .ls (32, 0) 1 0 4, iv 4] ++ List.replicate 158 .un, mkOb [((6, 0), some (.arr false 2 [.agg [iv 0, nilV]])), ((32, 0), some (.arr false 1 [.ls (41, 1) 1 0 4, .ls (41, 2) 1 0 4, .ls (41, 3) 1 0 4, .ls (41, 4) 1 0 4])), ((15, 0), none), ((161, 1), none), ((41, 0), none), ((41, 1), some (.arr true 1 ([true, false, false, false].map bv))), ((41, 2), some (.arr true 1 ([false, true, false, false].map bv))), ((41, 3), some (.arr true 1 ([false, false, true, false].map bv))), ((41, 4), some (.arr true 1 ([false, false, false, true].map bv))), ((41, 5), none), ((41, 6), none), ((41, 7), none), ((41, 8), none), ((41, 9), none)]⟩)) 4 (by kernel_rfl) (.inl ⟨rfl, rfl⟩) ?_
  rintro m st (⟨rfl, rfl⟩ | ⟨rfl, rfl⟩ | ⟨rfl, rfl⟩ | ⟨rfl, rfl⟩ | ⟨rfl, rfl⟩)
  · conv => whnf
    refine ⟨⟨by decide, rfl, by decide, by decide, by decide, by decide⟩, ?_⟩
    conv => whnf
    refine ⟨⟨rfl, by decide, by decide⟩, ?_⟩
    conv => whnf
    refine ⟨⟨rfl, by decide, by decide⟩, ?_⟩
    conv => whnf
    refine ⟨⟨rfl, by decide, by decide⟩, ?_⟩
    conv => whnf
    refine ⟨_, rfl, ⟨rfl, List.not_mem_nil⟩, _, rfl, ?_⟩
    conv => whnf
    exact ⟨by kernel_rfl, 3, by decide, .inr (.inl ⟨rfl, rfl⟩)⟩
  · conv => whnf
    refine ⟨⟨by decide, rfl, by decide, by decide, by decide, by decide⟩, ?_⟩
    conv => whnf
    refine ⟨⟨rfl, by decide, by decide⟩, ?_⟩
    conv => whnf
    refine ⟨⟨rfl, by decide, by decide⟩, ?_⟩
    conv => whnf
    refine ⟨⟨rfl, by decide, by decide⟩, ?_⟩
    conv => whnf
    refine ⟨_, rfl, ⟨rfl, List.not_mem_nil⟩, _, rfl, ?_⟩
    conv => whnf
    exact ⟨by kernel_rfl, 2, by decide, .inr (.inr (.inl ⟨rfl, rfl⟩))⟩
  · conv => whnf
    refine ⟨⟨by decide, rfl, by decide, by decide, by decide, by decide⟩, ?_⟩
    conv => whnf
    refine ⟨⟨rfl, by decide, by decide⟩, ?_⟩
    conv => whnf
    refine ⟨⟨rfl, by decide, by decide⟩, ?_⟩
    conv => whnf
    refine ⟨⟨rfl, by decide, by decide⟩, ?_⟩
    conv => whnf
    refine ⟨_, rfl, ⟨rfl, List.not_mem_nil⟩, _, rfl, ?_⟩
    conv => whnf
    exact ⟨by kernel_rfl, 1, by decide, .inr (.inr (.inr (.inl ⟨rfl, rfl⟩)))⟩
  · conv => whnf
    refine ⟨⟨by decide, rfl, by decide, by decide, by decide, by decide⟩, ?_⟩
    conv => whnf
    refine ⟨⟨rfl, by decide, by decide⟩, ?_⟩
    conv => whnf
    refine ⟨⟨rfl, by decide, by decide⟩, ?_⟩
    conv => whnf
    refine ⟨⟨rfl, by decide, by decide⟩, ?_⟩
    conv => whnf
    refine ⟨_, rfl, ⟨rfl, List.not_mem_nil⟩, _, rfl, ?_⟩
    conv => whnf
    exact ⟨by kernel_rfl, 0, by decide, .inr (.inr (.inr (.inr (⟨rfl, rfl⟩))))⟩
  conv => whnf
  refine cwF_loop (fun m st => (m = 4 ∧ st = ⟨[iv 4, .is 2 (List.map encE [(0, 1), (0, 2), (1, 3), (2, 3)]), .un, .un, .lp (6, 0) 2 0 0, bv false, .ls (32, 0) 1 0 4, .un, iv 0] ++ List.replicate 157 .un, mkOb [((6, 0), some (.arr false 2 [.agg [iv 0, nilV]])), ((32, 0), some (.arr false 1 [.ls (41, 1) 1 0 4, .ls (41, 2) 1 0 4, .ls (41, 3) 1 0 4, .ls (41, 4) 1 0 4])), ((15, 0), none), ((161, 1), none), ((41, 0), none), ((41, 1), some (.arr true 1 ([true, false, false, false].map bv))), ((41, 2), some (.arr true 1 ([false, true, false, false].map bv))), ((41, 3), some (.arr true 1 ([false, false, true, false].map bv))), ((41, 4), some (.arr true 1 ([false, false, false, true].map bv))), ((41, 5), none), ((41, 6), none), ((41, 7), none), ((41, 8), none), ((41, 9), none)]⟩) ∨ (m = 3 ∧ st = ⟨[iv 4, .is 2 (List.map encE [(0, 1), (0, 2), (1, 3), (2, 3)]), .un, .un, .lp (6, 0) 2 0 0, bv false, .ls (32, 0) 1 0 4, .un, iv 1] ++ List.replicate 157 .un, mkOb [((6, 0), some (.arr false 2 [.agg [iv 0, nilV]])), ((32, 0), some (.arr false 1 [.ls (41, 1) 1 0 4, .ls (41, 2) 1 0 4, .ls (41, 3) 1 0 4, .ls (41, 4) 1 0 4])), ((15, 0), none), ((161, 1), none), ((41, 0), none), ((41, 1), some (.arr true 1 ([true, true, false, false].map bv))), ((41, 2), some (.arr true 1 ([false, true, false, false].map bv))), ((41, 3), some (.arr true 1 ([false, false, true, false].map bv))), ((41, 4), some (.arr true 1 ([false, false, false, true].map bv))), ((41, 5), none), ((41, 6), none), ((41, 7), none), ((41, 8), none), ((41, 9), none)]⟩) ∨ (m = 2 ∧ st = ⟨[iv 4, .is 2 (List.map encE [(0, 1), (0, 2), (1, 3), (2, 3)]), .un, .un, .lp (6, 0) 2 0 0, bv false, .ls (32, 0) 1 0 4, .un, iv 2] ++ List.replicate 157 .un, mkOb [((6, 0), some (.arr false 2 [.agg [iv 0, nilV]])), ((32, 0), some (.arr false 1 [.ls (41, 1) 1 0 4, .ls (41, 2) 1 0 4, .ls (41, 3) 1 0 4, .ls (41, 4) 1 0 4])), ((15, 0), none), ((161, 1), none), ((41, 0), none), ((41, 1), some (.arr true 1 ([true, true, true, false].map bv))), ((41, 2), some (.arr true 1 ([false, true, false, false].map bv))), ((41, 3), some (.arr true 1 ([false, false, true, false].map bv))), ((41, 4), some (.arr true 1 ([false, false, false, true].map bv))), ((41, 5), none), ((41, 6), none), ((41, 7), none), ((41, 8), none), ((41, 9), none)]⟩) ∨ (m = 1 ∧ st = ⟨[iv 4, .is 2 (List.map encE [(0, 1), (0, 2), (1, 3), (2, 3)]), .un, .un, .lp (6, 0) 2 0 0, bv false, .ls (32, 0) 1 0 4, .un, iv 3] ++ List.replicate 157 .un, mkOb [((6, 0), some (.arr false 2 [.agg [iv 0, nilV]])), ((32, 0), some (.arr false 1 [.ls (41, 1) 1 0 4, .ls (41, 2) 1 0 4, .ls (41, 3) 1 0 4, .ls (41, 4) 1 0 4])), ((15, 0), none), ((161, 1), none), ((41, 0), none), ((41, 1), some (.arr true 1 ([true, true, true, false].map bv))), ((41, 2), some (.arr true 1 ([false, true, false, true].map bv))), ((41, 3), some (.arr true 1 ([false, false, true, false].map bv))), ((41, 4), some (.arr true 1 ([false, false, false, true].map bv))), ((41, 5), none), ((41, 6), none), ((41, 7), none), ((41, 8), none), ((41, 9), none)]⟩) ∨ (m = 0 ∧ st = ⟨[iv 4, .is 2 (List.map encE [(0, 1), (0, 2), (1, 3), (2, 3)]), .un, .un, .lp (6, 0) 2 0 0, bv false, .ls (32, 0) 1 0 4, .un, iv 4] ++ List.replicate 157 .un, mkOb [((6, 0), some (.arr false 2 [.agg [iv 0, nilV]])), ((32, 0), some (.arr false 1 [.ls (41, 1) 1 0 4, .ls (41, 2) 1 0 4, .ls (41, 3) 1 0 4, .ls (41, 4) 1 0 4])), ((15, 0), none), ((161, 1), none), ((41, 0), none), ((41, 1), some (.arr true 1 ([true, true, true, false].map bv))), ((41, 2), some (.arr true 1 ([false, true, false, true].map bv))), ((41, 3), some (.arr true 1 ([false, false, true, true].map bv))), ((41, 4), some (.arr true 1 ([false, false, false, true].map bv))), ((41, 5), none), ((41, 6), none), ((41, 7), none), ((41, 8), none), ((41, 9), none)]⟩)) 4 (by kernel_rfl) (.inl ⟨rfl, rfl⟩) ?_
  rintro m st (⟨rfl, rfl⟩ | ⟨rfl, rfl⟩ | ⟨rfl, rfl⟩ | ⟨rfl, rfl⟩ | ⟨rfl, rfl⟩)
  · conv => whnf
    refine ⟨⟨rfl, by decide, by decide⟩, ?_⟩
    conv => whnf
    refine ⟨_, rfl, ?_⟩
    conv => whnf
    refine ⟨⟨rfl, by decide, by decide⟩, ?_⟩
    conv => whnf
    refine ⟨⟨rfl, by decide, by decide⟩, ?_⟩
    conv => whnf
    refine ⟨_, rfl, ⟨rfl, List.not_mem_nil⟩, _, rfl, ?_⟩
    conv => whnf
    refine ⟨by kernel_rfl, ?_⟩
    conv => whnf
    exact ⟨by kernel_rfl, 3, by decide, .inr (.inl ⟨rfl, rfl⟩)⟩
  · conv => whnf
    refine ⟨⟨rfl, by decide, by decide⟩, ?_⟩
    conv => whnf
    refine ⟨_, rfl, ?_⟩
    conv => whnf
    refine ⟨⟨rfl, by decide, by decide⟩, ?_⟩
    conv => whnf
    refine ⟨⟨rfl, by decide, by decide⟩, ?_⟩
    conv => whnf
    refine ⟨_, rfl, ⟨rfl, List.not_mem_nil⟩, _, rfl, ?_⟩
    conv => whnf
    refine ⟨by kernel_rfl, ?_⟩
    conv => whnf
    exact ⟨by kernel_rfl, 2, by decide, .inr (.inr (.inl ⟨rfl, rfl⟩))⟩
  · conv => whnf
    refine ⟨⟨rfl, by decide, by decide⟩, ?_⟩
    conv => whnf
    refine ⟨_, rfl, ?_⟩
    conv => whnf
    refine ⟨⟨rfl, by decide, by decide⟩, ?_⟩
    conv => whnf
    refine ⟨⟨rfl, by decide, by decide⟩, ?_⟩
    conv => whnf
    refine ⟨_, rfl, ⟨rfl, List.not_mem_nil⟩, _, rfl, ?_⟩
    conv => whnf
    refine ⟨by kernel_rfl, ?_⟩
    conv => whnf
    exact ⟨by kernel_rfl, 1, by decide, .inr (.inr (.inr (.inl ⟨rfl, rfl⟩)))⟩
  · conv => whnf
    refine ⟨⟨rfl, by decide, by decide⟩, ?_⟩
    conv => whnf
    refine ⟨_, rfl, ?_⟩
    conv => whnf
    refine ⟨⟨rfl, by decide, by decide⟩, ?_⟩
    conv => whnf
    refine ⟨⟨rfl, by decide, by decide⟩, ?_⟩
    conv => whnf
    refine ⟨_, rfl, ⟨rfl, List.not_mem_nil⟩, _, rfl, ?_⟩
    conv => whnf
    refine ⟨by kernel_rfl, ?_⟩
    conv => whnf
    exact ⟨by kernel_rfl, 0, by decide, .inr (.inr (.inr (.inr (⟨rfl, rfl⟩))))⟩
  conv => whnf
  refine cwF_loop (fun m st => ∃ (z : Int) (e0 e1 e2 e3 : List V), (∃ (k : Nat) (r0 r1 r2 r3 : List Bool), m = 4 - k ∧ k ≤ 4 ∧ z = (k : Nat) ∧ [r0, r1, r2, r3] = fwK 4 [[true, true, true, false], [false, true, false, true], [false, false, true, true], [false, false, false, true]] k ∧ (r0.length = 4 ∧ r1.length = 4 ∧ r2.length = 4 ∧ r3.length = 4) ∧ e0 = r0.map bv ∧ e1 = r1.map bv ∧ e2 = r2.map bv ∧ e3 = r3.map bv) ∧ st = ⟨[iv 4, .un, .un, .un, .lp (6, 0) 2 0 0, bv false, .ls (32, 0) 1 0 4, .un, .un, .un, iv z] ++ List.replicate 155 .un, mkOb [((6, 0), some (.arr false 2 [.agg [iv 0, nilV]])), ((32, 0), some (.arr false 1 [.ls (41, 1) 1 0 4, .ls (41, 2) 1 0 4, .ls (41, 3) 1 0 4, .ls (41, 4) 1 0 4])), ((15, 0), none), ((161, 1), none), ((41, 0), none), ((41, 1), some (.arr true 1 e0)), ((41, 2), some (.arr true 1 e1)), ((41, 3), some (.arr true 1 e2)), ((41, 4), some (.arr true 1 e3)), ((41, 5), none), ((41, 6), none), ((41, 7), none), ((41, 8), none), ((41, 9), none)]⟩) 4 (by kernel_rfl) ⟨_, _, _, _, _, ⟨0, [true, true, true, false], [false, true, false, true], [false, false, true, true], [false, false, false, true], rfl, by decide, rfl, fwK_zero.symm, ⟨rfl, rfl, rfl, rfl⟩, rfl, rfl, rfl, rfl⟩, rfl⟩ ?_
  rintro m st ⟨z, e0, e1, e2, e3, ⟨k, r0, r1, r2, r3, rfl, hk, rfl, hM1, hl1, rfl, rfl, rfl, rfl⟩, rfl⟩
  conv => whnf
  refine vif_dec (fun h1 => ?_) (fun h1 => ?_)
  · conv => whnf
    refine cwF_loop (fun m st => ∃ (z : Int) (e0 e1 e2 e3 : List V), (∃ (a : Nat) (r0 r1 r2 r3 : List Bool), m = 4 - a ∧ a ≤ 4 ∧ z = (a : Nat) ∧ [r0, r1, r2, r3] = fwA 4 (fwK 4 [[true, true, true, false], [false, true, false, true], [false, false, true, true], [false, false, false, true]] k) k a ∧ (r0.length = 4 ∧ r1.length = 4 ∧ r2.length = 4 ∧ r3.length = 4) ∧ e0 = r0.map bv ∧ e1 = r1.map bv ∧ e2 = r2.map bv ∧ e3 = r3.map bv) ∧ st = ⟨[iv 4, .un, .un, .un, .lp (6, 0) 2 0 0, bv false, .ls (32, 0) 1 0 4, .un, .un, .un, iv (k : Nat), iv z] ++ List.replicate 154 .un, mkOb [((6, 0), some (.arr false 2 [.agg [iv 0, nilV]])), ((32, 0), some (.arr false 1 [.ls (41, 1) 1 0 4, .ls (41, 2) 1 0 4, .ls (41, 3) 1 0 4, .ls (41, 4) 1 0 4])), ((15, 0), none), ((161, 1), none), ((41, 0), none), ((41, 1), some (.arr true 1 e0)), ((41, 2), some (.arr true 1 e1)), ((41, 3), some (.arr true 1 e2)), ((41, 4), some (.arr true 1 e3)), ((41, 5), none), ((41, 6), none), ((41, 7), none), ((41, 8), none), ((41, 9), none)]⟩) 4 (by kernel_rfl) ⟨_, _, _, _, _, ⟨0, r0, r1, r2, r3, rfl, by decide, rfl, hM1.trans fwA_zero.symm, hl1, rfl, rfl, rfl, rfl⟩, rfl⟩ ?_
    clear hM1 hl1
    rintro m st ⟨z, e0, e1, e2, e3, ⟨a, r0, r1, r2, r3, rfl, ha, rfl, hM2, hl2, rfl, rfl, rfl, rfl⟩, rfl⟩
    conv => whnf
    refine vif_dec (fun h2 => ?_) (fun h2 => ?_)
    · conv => whnf
      refine cwF_loop (fun m st => ∃ (z : Int) (e0 e1 e2 e3 : List V), (∃ (b : Nat) (r0 r1 r2 r3 : List Bool), m = 4 - b ∧ b ≤ 4 ∧ z = (b : Nat) ∧ [r0, r1, r2, r3] = fwR (fwA 4 (fwK 4 [[true, true, true, false], [false, true, false, true], [false, false, true, true], [false, false, false, true]] k) k a) k a b ∧ (r0.length = 4 ∧ r1.length = 4 ∧ r2.length = 4 ∧ r3.length = 4) ∧ e0 = r0.map bv ∧ e1 = r1.map bv ∧ e2 = r2.map bv ∧ e3 = r3.map bv) ∧ st = ⟨[iv 4, .un, .un, .un, .lp (6, 0) 2 0 0, bv false, .ls (32, 0) 1 0 4, .un, .un, .un, iv (k : Nat), iv (a : Nat), iv z] ++ List.replicate 153 .un, mkOb [((6, 0), some (.arr false 2 [.agg [iv 0, nilV]])), ((32, 0), some (.arr false 1 [.ls (41, 1) 1 0 4, .ls (41, 2) 1 0 4, .ls (41, 3) 1 0 4, .ls (41, 4) 1 0 4])), ((15, 0), none), ((161, 1), none), ((41, 0), none), ((41, 1), some (.arr true 1 e0)), ((41, 2), some (.arr true 1 e1)), ((41, 3), some (.arr true 1 e2)), ((41, 4), some (.arr true 1 e3)), ((41, 5), none), ((41, 6), none), ((41, 7), none), ((41, 8), none), ((41, 9), none)]⟩) 4 (by kernel_rfl) ⟨_, _, _, _, _, ⟨0, r0, r1, r2, r3, rfl, by decide, rfl, hM2.trans fwR_zero.symm, hl2, rfl, rfl, rfl, rfl⟩, rfl⟩ ?_
      clear hM2 hl2
      rintro m st ⟨z, e0, e1, e2, e3, ⟨b, r0, r1, r2, r3, rfl, hb, rfl, hM3, hl3, rfl, rfl, rfl, rfl⟩, rfl⟩
      have la := lens4 (a := a) (by omega) hl3
      have lk := lens4 (a := k) (by omega) hl3
      conv => whnf
      refine vif_dec (fun h3 => ?_) (fun h3 => ?_)
      · conv => whnf
        refine ⟨⟨rfl, by omega, by omega⟩, ?_⟩
        conv => whnf
        refine ob_eq (v := (.ls (41, a + 1) 1 0 4, [])) (by obtain rfl | rfl | rfl | rfl := lt4 (by omega : a < 4) <;> rfl) ?_
        conv => whnf
        refine ⟨⟨rfl, by omega, by omega⟩, ?_⟩
        conv => whnf
        refine ob_eq (v := (.ls (41, a + 1) 1 0 4, [])) (by obtain rfl | rfl | rfl | rfl := lt4 (by omega : a < 4) <;> rfl) ?_
        conv => whnf
        refine ⟨⟨rfl, by omega, by omega⟩, ?_⟩
        conv => whnf
        refine ⟨_, rows4 (by omega) r0 r1 r2 r3, ask_row (by omega) fun x hx => ?_⟩
        cases x
        · conv => whnf
          refine ⟨⟨rfl, by omega, by omega⟩, ?_⟩
          conv => whnf
          refine ob_eq (v := (.ls (41, a + 1) 1 0 4, [])) (by obtain rfl | rfl | rfl | rfl := lt4 (by omega : a < 4) <;> rfl) ?_
          conv => whnf
          refine ⟨⟨rfl, by omega, by omega⟩, ?_⟩
          conv => whnf
          refine ⟨_, rows4 (by omega) r0 r1 r2 r3, ask_row (by omega) fun y hy => ?_⟩
          cases y
          · conv => whnf
            refine ⟨⟨rfl, by omega, by omega⟩, ?_⟩
            conv => whnf
            refine ⟨_, rows4 (by omega) r0 r1 r2 r3, ⟨rfl, List.not_mem_nil⟩, _, row_get (by omega) hx, ?_⟩
            conv => whnf
            refine ⟨by kernel_rfl, ?_⟩
            conv => whnf
            have hN : fwR (fwA 4 (fwK 4 [[true, true, true, false], [false, true, false, true], [false, false, true, true], [false, false, false, true]] k) k a) k a (b + 1) = [r0, r1, r2, r3].set a (([r0, r1, r2, r3].getD a []).set b false) := by rw [fwR_succ, ← hM3, fwB, hx, hy]; rfl
            clear hM3 hx la lk
            obtain ⟨l0, l1, l2, l3⟩ := hl3
            obtain rfl | rfl | rfl | rfl := lt4 (by omega : a < 4)
            · exact ⟨by kernel_rfl, 4 - (b + 1), by omega, _, _, _, _, _, ⟨b + 1, r0.set b false, r1, r2, r3, rfl, by omega, wrap_i64 (by omega), hN.symm, ⟨by rw [List.length_set]; exact l0, l1, l2, l3⟩, row_set, rfl, rfl, rfl⟩, rfl⟩
            · exact ⟨by kernel_rfl, 4 - (b + 1), by omega, _, _, _, _, _, ⟨b + 1, r0, r1.set b false, r2, r3, rfl, by omega, wrap_i64 (by omega), hN.symm, ⟨l0, by rw [List.length_set]; exact l1, l2, l3⟩, rfl, row_set, rfl, rfl⟩, rfl⟩
            · exact ⟨by kernel_rfl, 4 - (b + 1), by omega, _, _, _, _, _, ⟨b + 1, r0, r1, r2.set b false, r3, rfl, by omega, wrap_i64 (by omega), hN.symm, ⟨l0, l1, by rw [List.length_set]; exact l2, l3⟩, rfl, rfl, row_set, rfl⟩, rfl⟩
            · exact ⟨by kernel_rfl, 4 - (b + 1), by omega, _, _, _, _, _, ⟨b + 1, r0, r1, r2, r3.set b false, rfl, by omega, wrap_i64 (by omega), hN.symm, ⟨l0, l1, l2, by rw [List.length_set]; exact l3⟩, rfl, rfl, rfl, row_set⟩, rfl⟩
          · conv => whnf
            refine ⟨⟨rfl, by omega, by omega⟩, ?_⟩
            conv => whnf
            refine ob_eq (v := (.ls (41, k + 1) 1 0 4, [])) (by obtain rfl | rfl | rfl | rfl := lt4 (by omega : k < 4) <;> rfl) ?_
            conv => whnf
            refine ⟨⟨rfl, by omega, by omega⟩, ?_⟩
            conv => whnf
            refine ⟨_, rows4 (by omega) r0 r1 r2 r3, ask_row (by omega) fun z hz => ?_⟩
            conv => whnf
            refine ⟨⟨rfl, by omega, by omega⟩, ?_⟩
            conv => whnf
            refine ⟨_, rows4 (by omega) r0 r1 r2 r3, ⟨rfl, List.not_mem_nil⟩, _, row_get (by omega) hx, ?_⟩
            conv => whnf
            refine ⟨by kernel_rfl, ?_⟩
            conv => whnf
            have hN : fwR (fwA 4 (fwK 4 [[true, true, true, false], [false, true, false, true], [false, false, true, true], [false, false, false, true]] k) k a) k a (b + 1) = [r0, r1, r2, r3].set a (([r0, r1, r2, r3].getD a []).set b z) := by rw [fwR_succ, ← hM3, fwB, hx, hy, hz]; rfl
            clear hM3 hx la lk
            obtain ⟨l0, l1, l2, l3⟩ := hl3
            obtain rfl | rfl | rfl | rfl := lt4 (by omega : a < 4)
            · exact ⟨by kernel_rfl, 4 - (b + 1), by omega, _, _, _, _, _, ⟨b + 1, r0.set b z, r1, r2, r3, rfl, by omega, wrap_i64 (by omega), hN.symm, ⟨by rw [List.length_set]; exact l0, l1, l2, l3⟩, row_set, rfl, rfl, rfl⟩, rfl⟩
            · exact ⟨by kernel_rfl, 4 - (b + 1), by omega, _, _, _, _, _, ⟨b + 1, r0, r1.set b z, r2, r3, rfl, by omega, wrap_i64 (by omega), hN.symm, ⟨l0, by rw [List.length_set]; exact l1, l2, l3⟩, rfl, row_set, rfl, rfl⟩, rfl⟩
            · exact ⟨by kernel_rfl, 4 - (b + 1), by omega, _, _, _, _, _, ⟨b + 1, r0, r1, r2.set b z, r3, rfl, by omega, wrap_i64 (by omega), hN.symm, ⟨l0, l1, by rw [List.length_set]; exact l2, l3⟩, rfl, rfl, row_set, rfl⟩, rfl⟩
            · exact ⟨by kernel_rfl, 4 - (b + 1), by omega, _, _, _, _, _, ⟨b + 1, r0, r1, r2, r3.set b z, rfl, by omega, wrap_i64 (by omega), hN.symm, ⟨l0, l1, l2, by rw [List.length_set]; exact l3⟩, rfl, rfl, rfl, row_set⟩, rfl⟩
        · conv => whnf
          refine ⟨⟨rfl, by omega, by omega⟩, ?_⟩
          conv => whnf
          refine ⟨_, rows4 (by omega) r0 r1 r2 r3, ⟨rfl, List.not_mem_nil⟩, _, row_get (by omega) hx, ?_⟩
          conv => whnf
          refine ⟨by kernel_rfl, ?_⟩
          conv => whnf
          have hN : fwR (fwA 4 (fwK 4 [[true, true, true, false], [false, true, false, true], [false, false, true, true], [false, false, false, true]] k) k a) k a (b + 1) = [r0, r1, r2, r3].set a (([r0, r1, r2, r3].getD a []).set b true) := by rw [fwR_succ, ← hM3, fwB, hx]; rfl
          clear hM3 hx la lk
          obtain ⟨l0, l1, l2, l3⟩ := hl3
          obtain rfl | rfl | rfl | rfl := lt4 (by omega : a < 4)
          · exact ⟨by kernel_rfl, 4 - (b + 1), by omega, _, _, _, _, _, ⟨b + 1, r0.set b true, r1, r2, r3, rfl, by omega, wrap_i64 (by omega), hN.symm, ⟨by rw [List.length_set]; exact l0, l1, l2, l3⟩, row_set, rfl, rfl, rfl⟩, rfl⟩
          · exact ⟨by kernel_rfl, 4 - (b + 1), by omega, _, _, _, _, _, ⟨b + 1, r0, r1.set b true, r2, r3, rfl, by omega, wrap_i64 (by omega), hN.symm, ⟨l0, by rw [List.length_set]; exact l1, l2, l3⟩, rfl, row_set, rfl, rfl⟩, rfl⟩
          · exact ⟨by kernel_rfl, 4 - (b + 1), by omega, _, _, _, _, _, ⟨b + 1, r0, r1, r2.set b true, r3, rfl, by omega, wrap_i64 (by omega), hN.symm, ⟨l0, l1, by rw [List.length_set]; exact l2, l3⟩, rfl, rfl, row_set, rfl⟩, rfl⟩
          · exact ⟨by kernel_rfl, 4 - (b + 1), by omega, _, _, _, _, _, ⟨b + 1, r0, r1, r2, r3.set b true, rfl, by omega, wrap_i64 (by omega), hN.symm, ⟨l0, l1, l2, by rw [List.length_set]; exact l3⟩, rfl, rfl, rfl, row_set⟩, rfl⟩
      · conv => whnf
        obtain rfl : b = 4 := by omega
        exact ⟨by kernel_rfl, 4 - (a + 1), by omega, _, _, _, _, _, ⟨a + 1, r0, r1, r2, r3, rfl, by omega, wrap_i64 (by omega), by rw [fwA_succ]; exact hM3, hl3, rfl, rfl, rfl, rfl⟩, rfl⟩
    · conv => whnf
      obtain rfl : a = 4 := by omega
      exact ⟨by kernel_rfl, 4 - (k + 1), by omega, _, _, _, _, _, ⟨k + 1, r0, r1, r2, r3, rfl, by omega, wrap_i64 (by omega), by rw [fwK_succ]; exact hM2, hl2, rfl, rfl, rfl, rfl⟩, rfl⟩
  obtain rfl : k = 4 := by omega
  have hE : fwK 4 [[true, true, true, false], [false, true, false, true], [false, false, true, true], [false, false, false, true]] 4 = [[true, true, true, true], [false, true, false, true], [false, false, true, true], [false, false, false, true]] := by kernel_rfl
  rw [hE] at hM1
  clear hE hl1
  simp only [List.cons.injEq, and_true] at hM1
  obtain ⟨rfl, rfl, rfl, rfl⟩ := hM1
  conv => whnf
  refine cwF_loop (fun m st => (m = 4 ∧ st = ⟨[iv 4, .un, .un, .un, .lp (6, 0) 2 0 0, bv false, .ls (32, 0) 1 0 4] ++ List.replicate 6 .un ++ [.lp (15, 0) 2 0 0, iv 0] ++ List.replicate 151 .un, mkOb [((6, 0), some (.arr false 2 [.agg [iv 0, nilV]])), ((32, 0), some (.arr false 1 [.ls (41, 1) 1 0 4, .ls (41, 2) 1 0 4, .ls (41, 3) 1 0 4, .ls (41, 4) 1 0 4])), ((15, 0), some (.arr false 2 [.agg [iv 4, nilV]])), ((161, 1), none), ((41, 0), none), ((41, 1), some (.arr true 1 ([true, true, true, true].map bv))), ((41, 2), some (.arr true 1 ([false, true, false, true].map bv))), ((41, 3), some (.arr true 1 ([false, false, true, true].map bv))), ((41, 4), some (.arr true 1 ([false, false, false, true].map bv))), ((41, 5), none), ((41, 6), none), ((41, 7), none), ((41, 8), none), ((41, 9), none)]⟩) ∨ (m = 3 ∧ st = ⟨[iv 4, .un, .un, .un, .lp (6, 0) 2 0 0, bv false, .ls (32, 0) 1 0 4] ++ List.replicate 6 .un ++ [.lp (15, 0) 2 0 0, iv 1] ++ List.replicate 151 .un, mkOb [((6, 0), some (.arr false 2 [.agg [iv 0, nilV]])), ((32, 0), some (.arr false 1 [.ls (41, 1) 1 0 4, .ls (41, 2) 1 0 4, .ls (41, 3) 1 0 4, .ls (41, 4) 1 0 4])), ((15, 0), some (.arr false 2 [.agg [iv 4, .ls (161, 1) 1 0 1]])), ((161, 1), some (.arr true 1 [uv 15])), ((41, 0), none), ((41, 1), some (.arr true 1 ([true, true, true, true].map bv))), ((41, 2), some (.arr true 1 ([false, true, false, true].map bv))), ((41, 3), some (.arr true 1 ([false, false, true, true].map bv))), ((41, 4), some (.arr true 1 ([false, false, false, true].map bv))), ((41, 5), none), ((41, 6), none), ((41, 7), none), ((41, 8), none), ((41, 9), none)]⟩) ∨ (m = 2 ∧ st = ⟨[iv 4, .un, .un, .un, .lp (6, 0) 2 0 0, bv false, .ls (32, 0) 1 0 4] ++ List.replicate 6 .un ++ [.lp (15, 0) 2 0 0, iv 2] ++ List.replicate 151 .un, mkOb [((6, 0), some (.arr false 2 [.agg [iv 0, nilV]])), ((32, 0), some (.arr false 1 [.ls (41, 1) 1 0 4, .ls (41, 2) 1 0 4, .ls (41, 3) 1 0 4, .ls (41, 4) 1 0 4])), ((15, 0), some (.arr false 2 [.agg [iv 4, .ls (161, 1) 1 0 2]])), ((161, 1), some (.arr true 1 [uv 15, uv 10])), ((41, 0), none), ((41, 1), some (.arr true 1 ([true, true, true, true].map bv))), ((41, 2), some (.arr true 1 ([false, true, false, true].map bv))), ((41, 3), some (.arr true 1 ([false, false, true, true].map bv))), ((41, 4), some (.arr true 1 ([false, false, false, true].map bv))), ((41, 5), none), ((41, 6), none), ((41, 7), none), ((41, 8), none), ((41, 9), none)]⟩) ∨ (m = 1 ∧ st = ⟨[iv 4, .un, .un, .un, .lp (6, 0) 2 0 0, bv false, .ls (32, 0) 1 0 4] ++ List.replicate 6 .un ++ [.lp (15, 0) 2 0 0, iv 3] ++ List.replicate 151 .un, mkOb [((6, 0), some (.arr false 2 [.agg [iv 0, nilV]])), ((32, 0), some (.arr false 1 [.ls (41, 1) 1 0 4, .ls (41, 2) 1 0 4, .ls (41, 3) 1 0 4, .ls (41, 4) 1 0 4])), ((15, 0), some (.arr false 2 [.agg [iv 4, .ls (161, 1) 1 0 3]])), ((161, 1), some (.arr true 1 [uv 15, uv 10, uv 12])), ((41, 0), none), ((41, 1), some (.arr true 1 ([true, true, true, true].map bv))), ((41, 2), some (.arr true 1 ([false, true, false, true].map bv))), ((41, 3), some (.arr true 1 ([false, false, true, true].map bv))), ((41, 4), some (.arr true 1 ([false, false, false, true].map bv))), ((41, 5), none), ((41, 6), none), ((41, 7), none), ((41, 8), none), ((41, 9), none)]⟩) ∨ (m = 0 ∧ st = ⟨[iv 4, .un, .un, .un, .lp (6, 0) 2 0 0, bv false, .ls (32, 0) 1 0 4] ++ List.replicate 6 .un ++ [.lp (15, 0) 2 0 0, iv 4] ++ List.replicate 151 .un, mkOb [((6, 0), some (.arr false 2 [.agg [iv 0, nilV]])), ((32, 0), some (.arr false 1 [.ls (41, 1) 1 0 4, .ls (41, 2) 1 0 4, .ls (41, 3) 1 0 4, .ls (41, 4) 1 0 4])), ((15, 0), some (.arr false 2 [.agg [iv 4, .ls (161, 1) 1 0 4]])), ((161, 1), some (.arr true 1 [uv 15, uv 10, uv 12, uv 8])), ((41, 0), none), ((41, 1), some (.arr true 1 ([true, true, true, true].map bv))), ((41, 2), some (.arr true 1 ([false, true, false, true].map bv))), ((41, 3), some (.arr true 1 ([false, false, true, true].map bv))), ((41, 4), some (.arr true 1 ([false, false, false, true].map bv))), ((41, 5), none), ((41, 6), none), ((41, 7), none), ((41, 8), none), ((41, 9), none)]⟩)) 4 (by kernel_rfl) (.inl ⟨rfl, rfl⟩) ?_
  rintro m st (⟨rfl, rfl⟩ | ⟨rfl, rfl⟩ | ⟨rfl, rfl⟩ | ⟨rfl, rfl⟩ | ⟨rfl, rfl⟩)
  · conv => whnf
    refine cwF_loop (fun m st => ∃ z x : Int, (∃ b : Nat, m = 4 - b ∧ b ≤ 4 ∧ z = (b : Nat) ∧ x = wp [true, true, true, true] b) ∧ st = ⟨[iv 4, .un, .un, .un, .lp (6, 0) 2 0 0, bv false, .ls (32, 0) 1 0 4] ++ List.replicate 6 .un ++ [.lp (15, 0) 2 0 0, iv 0, uv x, iv z] ++ List.replicate 149 .un, mkOb [((6, 0), some (.arr false 2 [.agg [iv 0, nilV]])), ((32, 0), some (.arr false 1 [.ls (41, 1) 1 0 4, .ls (41, 2) 1 0 4, .ls (41, 3) 1 0 4, .ls (41, 4) 1 0 4])), ((15, 0), some (.arr false 2 [.agg [iv 4, nilV]])), ((161, 1), none), ((41, 0), none), ((41, 1), some (.arr true 1 ([true, true, true, true].map bv))), ((41, 2), some (.arr true 1 ([false, true, false, true].map bv))), ((41, 3), some (.arr true 1 ([false, false, true, true].map bv))), ((41, 4), some (.arr true 1 ([false, false, false, true].map bv))), ((41, 5), none), ((41, 6), none), ((41, 7), none), ((41, 8), none), ((41, 9), none)]⟩) 4 (by kernel_rfl) ⟨_, _, ⟨0, rfl, by decide, rfl, rfl⟩, rfl⟩ ?_
    rintro m st ⟨z, x, ⟨b, rfl, hb, rfl, rfl⟩, rfl⟩
    skip
    conv => whnf
    refine vif_dec (fun h1 => ?_) (fun h1 => ?_)
    · conv => whnf
      refine ⟨⟨rfl, by decide, by decide⟩, ?_⟩
      conv => whnf
      refine ⟨⟨rfl, by omega, by omega⟩, ?_⟩
      conv => whnf
      refine ⟨_, rfl, ask_row (r := [true, true, true, true]) (b := b) (by simp; omega) fun y hy => ?_⟩
      cases y
      · conv => whnf
        exact ⟨by kernel_rfl, 4 - (b + 1), by omega, _, _, ⟨b + 1, rfl, by omega, wrap_i64 (by omega), by rw [wp_succ, hy]; rfl⟩, rfl⟩
      · conv => whnf
        refine l01Power.ac _ (by omega) ?_
        conv => whnf
        exact ⟨by kernel_rfl, 4 - (b + 1), by omega, _, _, ⟨b + 1, rfl, by omega, wrap_i64 (by omega), by rw [wp_succ, hy]; exact wrap_u64 (wp_add (by omega)) ⟩, rfl⟩
    · conv => whnf
      obtain rfl : b = 4 := by omega
      refine ⟨⟨by decide, by decide, rfl⟩, ?_⟩
      conv => whnf
      exact ⟨by kernel_rfl, 3, by decide, .inr (.inl ⟨rfl, rfl⟩)⟩
  · conv => whnf
    refine cwF_loop (fun m st => ∃ z x : Int, (∃ b : Nat, m = 4 - b ∧ b ≤ 4 ∧ z = (b : Nat) ∧ x = wp [false, true, false, true] b) ∧ st = ⟨[iv 4, .un, .un, .un, .lp (6, 0) 2 0 0, bv false, .ls (32, 0) 1 0 4] ++ List.replicate 6 .un ++ [.lp (15, 0) 2 0 0, iv 1, uv x, iv z] ++ List.replicate 149 .un, mkOb [((6, 0), some (.arr false 2 [.agg [iv 0, nilV]])), ((32, 0), some (.arr false 1 [.ls (41, 1) 1 0 4, .ls (41, 2) 1 0 4, .ls (41, 3) 1 0 4, .ls (41, 4) 1 0 4])), ((15, 0), some (.arr false 2 [.agg [iv 4, .ls (161, 1) 1 0 1]])), ((161, 1), some (.arr true 1 [uv 15])), ((41, 0), none), ((41, 1), some (.arr true 1 ([true, true, true, true].map bv))), ((41, 2), some (.arr true 1 ([false, true, false, true].map bv))), ((41, 3), some (.arr true 1 ([false, false, true, true].map bv))), ((41, 4), some (.arr true 1 ([false, false, false, true].map bv))), ((41, 5), none), ((41, 6), none), ((41, 7), none), ((41, 8), none), ((41, 9), none)]⟩) 4 (by kernel_rfl) ⟨_, _, ⟨0, rfl, by decide, rfl, rfl⟩, rfl⟩ ?_
    rintro m st ⟨z, x, ⟨b, rfl, hb, rfl, rfl⟩, rfl⟩
    skip
    conv => whnf
    refine vif_dec (fun h1 => ?_) (fun h1 => ?_)
    · conv => whnf
      refine ⟨⟨rfl, by decide, by decide⟩, ?_⟩
      conv => whnf
      refine ⟨⟨rfl, by omega, by omega⟩, ?_⟩
      conv => whnf
      refine ⟨_, rfl, ask_row (r := [false, true, false, true]) (b := b) (by simp; omega) fun y hy => ?_⟩
      cases y
      · conv => whnf
        exact ⟨by kernel_rfl, 4 - (b + 1), by omega, _, _, ⟨b + 1, rfl, by omega, wrap_i64 (by omega), by rw [wp_succ, hy]; rfl⟩, rfl⟩
      · conv => whnf
        refine l01Power.ac _ (by omega) ?_
        conv => whnf
        exact ⟨by kernel_rfl, 4 - (b + 1), by omega, _, _, ⟨b + 1, rfl, by omega, wrap_i64 (by omega), by rw [wp_succ, hy]; exact wrap_u64 (wp_add (by omega)) ⟩, rfl⟩
    · conv => whnf
      obtain rfl : b = 4 := by omega
      exact ⟨by kernel_rfl, 2, by decide, .inr (.inr (.inl ⟨rfl, rfl⟩))⟩
  · conv => whnf
    refine cwF_loop (fun m st => ∃ z x : Int, (∃ b : Nat, m = 4 - b ∧ b ≤ 4 ∧ z = (b : Nat) ∧ x = wp [false, false, true, true] b) ∧ st = ⟨[iv 4, .un, .un, .un, .lp (6, 0) 2 0 0, bv false, .ls (32, 0) 1 0 4] ++ List.replicate 6 .un ++ [.lp (15, 0) 2 0 0, iv 2, uv x, iv z] ++ List.replicate 149 .un, mkOb [((6, 0), some (.arr false 2 [.agg [iv 0, nilV]])), ((32, 0), some (.arr false 1 [.ls (41, 1) 1 0 4, .ls (41, 2) 1 0 4, .ls (41, 3) 1 0 4, .ls (41, 4) 1 0 4])), ((15, 0), some (.arr false 2 [.agg [iv 4, .ls (161, 1) 1 0 2]])), ((161, 1), some (.arr true 1 [uv 15, uv 10])), ((41, 0), none), ((41, 1), some (.arr true 1 ([true, true, true, true].map bv))), ((41, 2), some (.arr true 1 ([false, true, false, true].map bv))), ((41, 3), some (.arr true 1 ([false, false, true, true].map bv))), ((41, 4), some (.arr true 1 ([false, false, false, true].map bv))), ((41, 5), none), ((41, 6), none), ((41, 7), none), ((41, 8), none), ((41, 9), none)]⟩) 4 (by kernel_rfl) ⟨_, _, ⟨0, rfl, by decide, rfl, rfl⟩, rfl⟩ ?_
    rintro m st ⟨z, x, ⟨b, rfl, hb, rfl, rfl⟩, rfl⟩
    skip
    conv => whnf
    refine vif_dec (fun h1 => ?_) (fun h1 => ?_)
    · conv => whnf
      refine ⟨⟨rfl, by decide, by decide⟩, ?_⟩
      conv => whnf
      refine ⟨⟨rfl, by omega, by omega⟩, ?_⟩
      conv => whnf
      refine ⟨_, rfl, ask_row (r := [false, false, true, true]) (b := b) (by simp; omega) fun y hy => ?_⟩
      cases y
      · conv => whnf
        exact ⟨by kernel_rfl, 4 - (b + 1), by omega, _, _, ⟨b + 1, rfl, by omega, wrap_i64 (by omega), by rw [wp_succ, hy]; rfl⟩, rfl⟩
      · conv => whnf
        refine l01Power.ac _ (by omega) ?_
        conv => whnf
        exact ⟨by kernel_rfl, 4 - (b + 1), by omega, _, _, ⟨b + 1, rfl, by omega, wrap_i64 (by omega), by rw [wp_succ, hy]; exact wrap_u64 (wp_add (by omega)) ⟩, rfl⟩
    · conv => whnf
      obtain rfl : b = 4 := by omega
      exact ⟨by kernel_rfl, 1, by decide, .inr (.inr (.inr (.inl ⟨rfl, rfl⟩)))⟩
  · conv => whnf
    refine cwF_loop (fun m st => ∃ z x : Int, (∃ b : Nat, m = 4 - b ∧ b ≤ 4 ∧ z = (b : Nat) ∧ x = wp [false, false, false, true] b) ∧ st = ⟨[iv 4, .un, .un, .un, .lp (6, 0) 2 0 0, bv false, .ls (32, 0) 1 0 4] ++ List.replicate 6 .un ++ [.lp (15, 0) 2 0 0, iv 3, uv x, iv z] ++ List.replicate 149 .un, mkOb [((6, 0), some (.arr false 2 [.agg [iv 0, nilV]])), ((32, 0), some (.arr false 1 [.ls (41, 1) 1 0 4, .ls (41, 2) 1 0 4, .ls (41, 3) 1 0 4, .ls (41, 4) 1 0 4])), ((15, 0), some (.arr false 2 [.agg [iv 4, .ls (161, 1) 1 0 3]])), ((161, 1), some (.arr true 1 [uv 15, uv 10, uv 12])), ((41, 0), none), ((41, 1), some (.arr true 1 ([true, true, true, true].map bv))), ((41, 2), some (.arr true 1 ([false, true, false, true].map bv))), ((41, 3), some (.arr true 1 ([false, false, true, true].map bv))), ((41, 4), some (.arr true 1 ([false, false, false, true].map bv))), ((41, 5), none), ((41, 6), none), ((41, 7), none), ((41, 8), none), ((41, 9), none)]⟩) 4 (by kernel_rfl) ⟨_, _, ⟨0, rfl, by decide, rfl, rfl⟩, rfl⟩ ?_
    rintro m st ⟨z, x, ⟨b, rfl, hb, rfl, rfl⟩, rfl⟩
    skip
    conv => whnf
    refine vif_dec (fun h1 => ?_) (fun h1 => ?_)
    · conv => whnf
      refine ⟨⟨rfl, by decide, by decide⟩, ?_⟩
      conv => whnf
      refine ⟨⟨rfl, by omega, by omega⟩, ?_⟩
      conv => whnf
      refine ⟨_, rfl, ask_row (r := [false, false, false, true]) (b := b) (by simp; omega) fun y hy => ?_⟩
      cases y
      · conv => whnf
        exact ⟨by kernel_rfl, 4 - (b + 1), by omega, _, _, ⟨b + 1, rfl, by omega, wrap_i64 (by omega), by rw [wp_succ, hy]; rfl⟩, rfl⟩
      · conv => whnf
        refine l01Power.ac _ (by omega) ?_
        conv => whnf
        exact ⟨by kernel_rfl, 4 - (b + 1), by omega, _, _, ⟨b + 1, rfl, by omega, wrap_i64 (by omega), by rw [wp_succ, hy]; exact wrap_u64 (wp_add (by omega)) ⟩, rfl⟩
    · conv => whnf
      obtain rfl : b = 4 := by omega
      exact ⟨by kernel_rfl, 0, by decide, .inr (.inr (.inr (.inr (⟨rfl, rfl⟩))))⟩
  conv => whnf
  refine LatOkS.acW 4 [15, 10, 12, 8] fun r hr => ?_
  obtain rfl : r = true := hr.2 (latB_P (by kernel_rfl))
  conv => whnf
  exact hK
end Go.Eng.T.L

namespace Go.Eng.T.L
open Go.Proofs Go.Eng
set_option maxRecDepth 100000
set_option maxHeartbeats 0
theorem lt5 {k : Nat} (h : k < 5) : k = 0 ∨ k = 1 ∨ k = 2 ∨ k = 3 ∨ k = 4 := by omega
theorem rows5 {a : Nat} (h : a < 5) (r0 r1 r2 r3 r4 : List Bool) : mkOb [((6, 0), some (.arr false 2 [.agg [iv 0, nilV]])), ((32, 0), some (.arr false 1 [.ls (41, 1) 1 0 5, .ls (41, 2) 1 0 5, .ls (41, 3) 1 0 5, .ls (41, 4) 1 0 5, .ls (41, 5) 1 0 5])), ((15, 0), none), ((161, 1), none), ((41, 0), none), ((41, 1), some (.arr true 1 (r0.map bv))), ((41, 2), some (.arr true 1 (r1.map bv))), ((41, 3), some (.arr true 1 (r2.map bv))), ((41, 4), some (.arr true 1 (r3.map bv))), ((41, 5), some (.arr true 1 (r4.map bv))), ((41, 6), none), ((41, 7), none), ((41, 8), none), ((41, 9), none)] (41, a + 1) = some (.arr true 1 (([r0, r1, r2, r3, r4].getD a []).map bv)) := by
  obtain rfl | rfl | rfl | rfl | rfl := lt5 h <;> rfl
theorem lens5 {a : Nat} (h : a < 5) {r0 r1 r2 r3 r4 : List Bool} (hl : r0.length = 5 ∧ r1.length = 5 ∧ r2.length = 5 ∧ r3.length = 5 ∧ r4.length = 5) : ([r0, r1, r2, r3, r4].getD a []).length = 5 := by
  obtain ⟨l0, l1, l2, l3, l4⟩ := hl
  obtain rfl | rfl | rfl | rfl | rfl := lt5 h <;> assumption
theorem LatOfS.ac5 {K : V → List Obj → List Obj → Prop} (hK : K (.tup [.agg [iv 5, .ls (1, 0) 1 0 5], bv true]) [] [upO [9, 10, 12, 8, 31]]) : AC Try.prog 113 [iv 5, .is 2 (List.map encE [(4, 0), (4, 1), (4, 2), (0, 3), (1, 3), (2, 3)])] [] K := by
  refine ac_body annLatOf fkLatOf hm htt Try.func113 rfl (by kernel_rfl) rfl rfl ?_
  conv => whnf
  refine cwF_loop (fun m st => (m = 5 ∧ st = ⟨[iv 5, .is 2 (List.map encE [(4, 0), (4, 1), (4, 2), (0, 3), (1, 3), (2, 3)]), .un, .un, .lp (6, 0) 2 0 0, bv false, .ls (32, 0) 1 0 5, iv 0] ++ List.replicate 158 .un, mkOb [((6, 0), some (.arr false 2 [.agg [iv 0, nilV]])), ((32, 0), some (.arr false 1 [nilV, nilV, nilV, nilV, nilV])), ((15, 0), none), ((161, 1), none), ((41, 0), none), ((41, 1), none), ((41, 2), none), ((41, 3), none), ((41, 4), none), ((41, 5), none), ((41, 6), none), ((41, 7), none), ((41, 8), none), ((41, 9), none)]⟩) ∨ (m = 4 ∧ st = ⟨[iv 5, .is 2 (List.map encE [(4, 0), (4, 1), (4, 2), (0, 3), (1, 3), (2, 3)]), .un, .un, .lp (6, 0) 2 0 0, bv false, .ls (32, 0) 1 0 5, iv 1] ++ List.replicate 158 .un, mkOb [((6, 0), some (.arr false 2 [.agg [iv 0, nilV]])), ((32, 0), some (.arr false 1 [.ls (41, 1) 1 0 5, nilV, nilV, nilV, nilV])), ((15, 0), none), ((161, 1), none), ((41, 0), none), ((41, 1), some (.arr true 1 ([true, false, false, false, false].map bv))), ((41, 2), none), ((41, 3), none), ((41, 4), none), ((41, 5), none), ((41, 6), none), ((41, 7), none), ((41, 8), none), ((41, 9), none)]⟩) ∨ (m = 3 ∧ st = ⟨[iv 5, .is 2 (List.map encE [(4, 0), (4, 1), (4, 2), (0, 3), (1, 3), (2, 3)]), .un, .un, .lp (6, 0) 2 0 0, bv false, .ls (32, 0) 1 0 5, iv 2] ++ List.replicate 158 .un, mkOb [((6, 0), some (.arr false 2 [.agg [iv 0, nilV]])), ((32, 0), some (.arr false 1 [.ls (41, 1) 1 0 5, .ls (41, 2) 1 0 5, nilV, nilV, nilV])), ((15, 0), none), ((161, 1), none), ((41, 0), none), ((41, 1), some (.arr true 1 ([true, false, false, false, false].map bv))), ((41, 2), some (.arr true 1 ([false, true, false, false, false].map bv))), ((41, 3), none), ((41, 4), none), ((41, 5), none), ((41, 6), none), ((41, 7), none), ((41, 8), none), ((41, 9), none)]⟩) ∨ (m = 2 ∧ st = ⟨[iv 5, .is 2 (List.map encE [(4, 0), (4, 1), (4, 2), (0, 3), (1, 3), (2, 3)]), .un, .un, .lp (6, 0) 2 0 0, bv false, .ls (32, 0) 1 0 5, iv 3] ++ List.replicate 158 .un, mkOb [((6, 0), some (.arr false 2 [.agg [iv 0, nilV]])), ((32, 0), some (.arr false 1 [.ls (41, 1) 1 0 5, .ls (41, 2) 1 0 5, .ls (41, 3) 1 0 5, nilV, nilV])), ((15, 0), none), ((161, 1), none), ((41, 0), none), ((41, 1), some (.arr true 1 ([true, false, false, false, false].map bv))), ((41, 2), some (.arr true 1 ([false, true, false, false, false].map bv))), ((41, 3), some (.arr true 1 ([false, false, true, false, false].map bv))), ((41, 4), none), ((41, 5), none), ((41, 6), none), ((41, 7), none), ((41, 8), none), ((41, 9), none)]⟩) ∨ (m = 1 ∧ st = ⟨[iv 5, .is 2 (List.map encE [(4, 0), (4, 1), (4, 2), (0, 3), (1, 3), (2, 3)]), .un, .un, .lp (6, 0) 2 0 0, bv false, .ls (32, 0) 1 0 5, iv 4] ++ List.replicate 158 .un, mkOb [((6, 0), some (.arr false 2 [.agg [iv 0, nilV]])), ((32, 0), some (.arr false 1 [.ls (41, 1) 1 0 5, .ls (41, 2) 1 0 5, .ls (41, 3) 1 0 5, .ls (41, 4) 1 0 5, nilV])), ((15, 0), none), ((161, 1), none), ((41, 0), none), ((41, 1), some (.arr true 1 ([true, false, false, false, false].map bv))), ((41, 2), some (.arr true 1 ([false, true, false, false, false].map bv))), ((41, 3), some (.arr true 1 ([false, false, true, false, false].map bv))), ((41, 4), some (.arr true 1 ([false, false, false, true, false].map bv))), ((41, 5), none), ((41, 6), none), ((41, 7), none), ((41, 8), none), ((41, 9), none)]⟩) ∨ (m = 0 ∧ st = ⟨[iv 5, .is 2 (List.map encE [(4, 0), (4, 1), (4, 2), (0, 3), (1, 3), (2, 3)]), .un, .un, .lp (6, 0) 2 0 0, bv false, .ls (32, 0) 1 0 5, iv 5] ++ List.replicate 158 .un, mkOb [((6, 0), some (.arr false 2 [.agg [iv 0, nilV]])), ((32, 0), some (.arr false 1 [.ls (41, 1) 1 0 5, .ls (41, 2) 1 0 5, .ls (41, 3) 1 0 5, .ls (41, 4) 1 0 5, .ls (41, 5) 1 0 5])), ((15, 0), none), ((161, 1), none), ((41, 0), none), ((41, 1), some (.arr true 1 ([true, false, false, false, false].map bv))), ((41, 2), some (.arr true 1 ([false, true, false, false, false].map bv))), ((41, 3), some (.arr true 1 ([false, false, true, false, false].map bv))), ((41, 4), some (.arr true 1 ([false, false, false, true, false].map bv))), ((41, 5), some (.arr true 1 ([false, false, false, false, true].map bv))), ((41, 6), none), ((41, 7), none), ((41, 8), none), ((41, 9), none)]⟩)) 5 (by kernel_rfl) (.inl ⟨rfl, rfl⟩) ?_
  rintro m st (⟨rfl, rfl⟩ | ⟨rfl, rfl⟩ | ⟨rfl, rfl⟩ | ⟨rfl, rfl⟩ | ⟨rfl, rfl⟩ | ⟨rfl, rfl⟩)
  · conv => whnf
    refine ⟨⟨by decide, rfl, by decide, by decide, by decide, by decide⟩, ?_⟩
    conv => whnf
    refine ⟨⟨rfl, by decide, by decide⟩, ?_⟩
    conv => whnf
    refine ⟨⟨rfl, by decide, by decide⟩, ?_⟩
    conv => whnf
    refine ⟨⟨rfl, by decide, by decide⟩, ?_⟩
    conv => whnf
    refine ⟨_, rfl, ⟨rfl, List.not_mem_nil⟩, _, rfl, ?_⟩
    conv => whnf
    exact ⟨by kernel_rfl, 4, by decide, .inr (.inl ⟨rfl, rfl⟩)⟩
  · conv => whnf
    refine ⟨⟨by decide, rfl, by decide, by decide, by decide, by decide⟩, ?_⟩
    conv => whnf
    refine ⟨⟨rfl, by decide, by decide⟩, ?_⟩
    conv => whnf
    refine ⟨⟨rfl, by decide, by decide⟩, ?_⟩
    conv => whnf
    refine ⟨⟨rfl, by decide, by decide⟩, ?_⟩
    conv => whnf
    refine ⟨_, rfl, ⟨rfl, List.not_mem_nil⟩, _, rfl, ?_⟩
    conv => whnf
    exact ⟨by kernel_rfl, 3, by decide, .inr (.inr (.inl ⟨rfl, rfl⟩))⟩
  · conv => whnf
    refine ⟨⟨by decide, rfl, by decide, by decide, by decide, by decide⟩, ?_⟩
    conv => whnf
    refine ⟨⟨rfl, by decide, by decide⟩, ?_⟩
    conv => whnf
    refine ⟨⟨rfl, by decide, by decide⟩, ?_⟩
    conv => whnf
    refine ⟨⟨rfl, by decide, by decide⟩, ?_⟩
    conv => whnf
    refine ⟨_, rfl, ⟨rfl, List.not_mem_nil⟩, _, rfl, ?_⟩
    conv => whnf
    exact ⟨by kernel_rfl, 2, by decide, .inr (.inr (.inr (.inl ⟨rfl, rfl⟩)))⟩
  · conv => whnf
    refine ⟨⟨by decide, rfl, by decide, by decide, by decide, by decide⟩, ?_⟩
    conv => whnf
    refine ⟨⟨rfl, by decide, by decide⟩, ?_⟩
    conv => whnf
    refine ⟨⟨rfl, by decide, by decide⟩, ?_⟩
    conv => whnf
    refine ⟨⟨rfl, by decide, by decide⟩, ?_⟩
    conv => whnf
    refine ⟨_, rfl, ⟨rfl, List.not_mem_nil⟩, _, rfl, ?_⟩
    conv => whnf
    exact ⟨by kernel_rfl, 1, by decide, .inr (.inr (.inr (.inr (.inl ⟨rfl, rfl⟩))))⟩
  · conv => whnf
    refine ⟨⟨by decide, rfl, by decide, by decide, by decide, by decide⟩, ?_⟩
    conv => whnf
    refine ⟨⟨rfl, by decide, by decide⟩, ?_⟩
    conv => whnf
    refine ⟨⟨rfl, by decide, by decide⟩, ?_⟩
    conv => whnf
    refine ⟨⟨rfl, by decide, by decide⟩, ?_⟩
    conv => whnf
    refine ⟨_, rfl, ⟨rfl, List.not_mem_nil⟩, _, rfl, ?_⟩
    conv => whnf
    exact ⟨by kernel_rfl, 0, by decide, .inr (.inr (.inr (.inr (.inr (⟨rfl, rfl⟩)))))⟩
  conv => whnf
  refine cwF_loop (fun m st => (m = 6 ∧ st = ⟨[iv 5, .is 2 (List.map encE [(4, 0), (4, 1), (4, 2), (0, 3), (1, 3), (2, 3)]), .un, .un, .lp (6, 0) 2 0 0, bv false, .ls (32, 0) 1 0 5, .un, iv 0] ++ List.replicate 157 .un, mkOb [((6, 0), some (.arr false 2 [.agg [iv 0, nilV]])), ((32, 0), some (.arr false 1 [.ls (41, 1) 1 0 5, .ls (41, 2) 1 0 5, .ls (41, 3) 1 0 5, .ls (41, 4) 1 0 5, .ls (41, 5) 1 0 5])), ((15, 0), none), ((161, 1), none), ((41, 0), none), ((41, 1), some (.arr true 1 ([true, false, false, false, false].map bv))), ((41, 2), some (.arr true 1 ([false, true, false, false, false].map bv))), ((41, 3), some (.arr true 1 ([false, false, true, false, false].map bv))), ((41, 4), some (.arr true 1 ([false, false, false, true, false].map bv))), ((41, 5), some (.arr true 1 ([false, false, false, false, true].map bv))), ((41, 6), none), ((41, 7), none), ((41, 8), none), ((41, 9), none)]⟩) ∨ (m = 5 ∧ st = ⟨[iv 5, .is 2 (List.map encE [(4, 0), (4, 1), (4, 2), (0, 3), (1, 3), (2, 3)]), .un, .un, .lp (6, 0) 2 0 0, bv false, .ls (32, 0) 1 0 5, .un, iv 1] ++ List.replicate 157 .un, mkOb [((6, 0), some (.arr false 2 [.agg [iv 0, nilV]])), ((32, 0), some (.arr false 1 [.ls (41, 1) 1 0 5, .ls (41, 2) 1 0 5, .ls (41, 3) 1 0 5, .ls (41, 4) 1 0 5, .ls (41, 5) 1 0 5])), ((15, 0), none), ((161, 1), none), ((41, 0), none), ((41, 1), some (.arr true 1 ([true, false, false, false, false].map bv))), ((41, 2), some (.arr true 1 ([false, true, false, false, false].map bv))), ((41, 3), some (.arr true 1 ([false, false, true, false, false].map bv))), ((41, 4), some (.arr true 1 ([false, false, false, true, false].map bv))), ((41, 5), some (.arr true 1 ([true, false, false, false, true].map bv))), ((41, 6), none), ((41, 7), none), ((41, 8), none), ((41, 9), none)]⟩) ∨ (m = 4 ∧ st = ⟨[iv 5, .is 2 (List.map encE [(4, 0), (4, 1), (4, 2), (0, 3), (1, 3), (2, 3)]), .un, .un, .lp (6, 0) 2 0 0, bv false, .ls (32, 0) 1 0 5, .un, iv 2] ++ List.replicate 157 .un, mkOb [((6, 0), some (.arr false 2 [.agg [iv 0, nilV]])), ((32, 0), some (.arr false 1 [.ls (41, 1) 1 0 5, .ls (41, 2) 1 0 5, .ls (41, 3) 1 0 5, .ls (41, 4) 1 0 5, .ls (41, 5) 1 0 5])), ((15, 0), none), ((161, 1), none), ((41, 0), none), ((41, 1), some (.arr true 1 ([true, false, false, false, false].map bv))), ((41, 2), some (.arr true 1 ([false, true, false, false, false].map bv))), ((41, 3), some (.arr true 1 ([false, false, true, false, false].map bv))), ((41, 4), some (.arr true 1 ([false, false, false, true, false].map bv))), ((41, 5), some (.arr true 1 ([true, true, false, false, true].map bv))), ((41, 6), none), ((41, 7), none), ((41, 8), none), ((41, 9), none)]⟩) ∨ (m = 3 ∧ st = ⟨[iv 5, .is 2 (List.map encE [(4, 0), (4, 1), (4, 2), (0, 3), (1, 3), (2, 3)]), .un, .un, .lp (6, 0) 2 0 0, bv false, .ls (32, 0) 1 0 5, .un, iv 3] ++ List.replicate 157 .un, mkOb [((6, 0), some (.arr false 2 [.agg [iv 0, nilV]])), ((32, 0), some (.arr false 1 [.ls (41, 1) 1 0 5, .ls (41, 2) 1 0 5, .ls (41, 3) 1 0 5, .ls (41, 4) 1 0 5, .ls (41, 5) 1 0 5])), ((15, 0), none), ((161, 1), none), ((41, 0), none), ((41, 1), some (.arr true 1 ([true, false, false, false, false].map bv))), ((41, 2), some (.arr true 1 ([false, true, false, false, false].map bv))), ((41, 3), some (.arr true 1 ([false, false, true, false, false].map bv))), ((41, 4), some (.arr true 1 ([false, false, false, true, false].map bv))), ((41, 5), some (.arr true 1 ([true, true, true, false, true].map bv))), ((41, 6), none), ((41, 7), none), ((41, 8), none), ((41, 9), none)]⟩) ∨ (m = 2 ∧ st = ⟨[iv 5, .is 2 (List.map encE [(4, 0), (4, 1), (4, 2), (0, 3), (1, 3), (2, 3)]), .un, .un, .lp (6, 0) 2 0 0, bv false, .ls (32, 0) 1 0 5, .un, iv 4] ++ List.replicate 157 .un, mkOb [((6, 0), some (.arr false 2 [.agg [iv 0, nilV]])), ((32, 0), some (.arr false 1 [.ls (41, 1) 1 0 5, .ls (41, 2) 1 0 5, .ls (41, 3) 1 0 5, .ls (41, 4) 1 0 5, .ls (41, 5) 1 0 5])), ((15, 0), none), ((161, 1), none), ((41, 0), none), ((41, 1), some (.arr true 1 ([true, false, false, true, false].map bv))), ((41, 2), some (.arr true 1 ([false, true, false, false, false].map bv))), ((41, 3), some (.arr true 1 ([false, false, true, false, false].map bv))), ((41, 4), some (.arr true 1 ([false, false, false, true, false].map bv))), ((41, 5), some (.arr true 1 ([true, true, true, false, true].map bv))), ((41, 6), none), ((41, 7), none), ((41, 8), none), ((41, 9), none)]⟩) ∨ (m = 1 ∧ st = ⟨[iv 5, .is 2 (List.map encE [(4, 0), (4, 1), (4, 2), (0, 3), (1, 3), (2, 3)]), .un, .un, .lp (6, 0) 2 0 0, bv false, .ls (32, 0) 1 0 5, .un, iv 5] ++ List.replicate 157 .un, mkOb [((6, 0), some (.arr false 2 [.agg [iv 0, nilV]])), ((32, 0), some (.arr false 1 [.ls (41, 1) 1 0 5, .ls (41, 2) 1 0 5, .ls (41, 3) 1 0 5, .ls (41, 4) 1 0 5, .ls (41, 5) 1 0 5])), ((15, 0), none), ((161, 1), none), ((41, 0), none), ((41, 1), some (.arr true 1 ([true, false, false, true, false].map bv))), ((41, 2), some (.arr true 1 ([false, true, false, true, false].map bv))), ((41, 3), some (.arr true 1 ([false, false, true, false, false].map bv))), ((41, 4), some (.arr true 1 ([false, false, false, true, false].map bv))), ((41, 5), some (.arr true 1 ([true, true, true, false, true].map bv))), ((41, 6), none), ((41, 7), none), ((41, 8), none), ((41, 9), none)]⟩) ∨ (m = 0 ∧ st = ⟨[iv 5, .is 2 (List.map encE [(4, 0), (4, 1), (4, 2), (0, 3), (1, 3), (2, 3)]), .un, .un, .lp (6, 0) 2 0 0, bv false, .ls (32, 0) 1 0 5, .un, iv 6] ++ List.replicate 157 .un, mkOb [((6, 0), some (.arr false 2 [.agg [iv 0, nilV]])), ((32, 0), some (.arr false 1 [.ls (41, 1) 1 0 5, .ls (41, 2) 1 0 5, .ls (41, 3) 1 0 5, .ls (41, 4) 1 0 5, .ls (41, 5) 1 0 5])), ((15, 0), none), ((161, 1), none), ((41, 0), none), ((41, 1), some (.arr true 1 ([true, false, false, true, false].map bv))), ((41, 2), some (.arr true 1 ([false, true, false, true, false].map bv))), ((41, 3), some (.arr true 1 ([false, false, true, true, false].map bv))), ((41, 4), some (.arr true 1 ([false, false, false, true, false].map bv))), ((41, 5), some (.arr true 1 ([true, true, true, false, true].map bv))), ((41, 6), none), ((41, 7), none), ((41, 8), none), ((41, 9), none)]⟩)) 6 (by kernel_rfl) (.inl ⟨rfl, rfl⟩) ?_
  rintro m st (⟨rfl, rfl⟩ | ⟨rfl, rfl⟩ | ⟨rfl, rfl⟩ | ⟨rfl, rfl⟩ | ⟨rfl, rfl⟩ | ⟨rfl, rfl⟩ | ⟨rfl, rfl⟩)
  · conv => whnf
    refine ⟨⟨rfl, by decide, by decide⟩, ?_⟩
    conv => whnf
    refine ⟨_, rfl, ?_⟩
    conv => whnf
    refine ⟨⟨rfl, by decide, by decide⟩, ?_⟩
    conv => whnf
    refine ⟨⟨rfl, by decide, by decide⟩, ?_⟩
    conv => whnf
    refine ⟨_, rfl, ⟨rfl, List.not_mem_nil⟩, _, rfl, ?_⟩
    conv => whnf
    refine ⟨by kernel_rfl, ?_⟩
    conv => whnf
    exact ⟨by kernel_rfl, 5, by decide, .inr (.inl ⟨rfl, rfl⟩)⟩
  · conv => whnf
    refine ⟨⟨rfl, by decide, by decide⟩, ?_⟩
    conv => whnf
    refine ⟨_, rfl, ?_⟩
    conv => whnf
    refine ⟨⟨rfl, by decide, by decide⟩, ?_⟩
    conv => whnf
    refine ⟨⟨rfl, by decide, by decide⟩, ?_⟩
    conv => whnf
    refine ⟨_, rfl, ⟨rfl, List.not_mem_nil⟩, _, rfl, ?_⟩
    conv => whnf
    refine ⟨by kernel_rfl, ?_⟩
    conv => whnf
    exact ⟨by kernel_rfl, 4, by decide, .inr (.inr (.inl ⟨rfl, rfl⟩))⟩
  · conv => whnf
    refine ⟨⟨rfl, by decide, by decide⟩, ?_⟩
    conv => whnf
    refine ⟨_, rfl, ?_⟩
    conv => whnf
    refine ⟨⟨rfl, by decide, by decide⟩, ?_⟩
    conv => whnf
    refine ⟨⟨rfl, by decide, by decide⟩, ?_⟩
    conv => whnf
    refine ⟨_, rfl, ⟨rfl, List.not_mem_nil⟩, _, rfl, ?_⟩
    conv => whnf
    refine ⟨by kernel_rfl, ?_⟩
    conv => whnf
    exact ⟨by kernel_rfl, 3, by decide, .inr (.inr (.inr (.inl ⟨rfl, rfl⟩)))⟩
  · conv => whnf
    refine ⟨⟨rfl, by decide, by decide⟩, ?_⟩
    conv => whnf
    refine ⟨_, rfl, ?_⟩
    conv => whnf
    refine ⟨⟨rfl, by decide, by decide⟩, ?_⟩
    conv => whnf
    refine ⟨⟨rfl, by decide, by decide⟩, ?_⟩
    conv => whnf
    refine ⟨_, rfl, ⟨rfl, List.not_mem_nil⟩, _, rfl, ?_⟩
    conv => whnf
    refine ⟨by kernel_rfl, ?_⟩
    conv => whnf
    exact ⟨by kernel_rfl, 2, by decide, .inr (.inr (.inr (.inr (.inl ⟨rfl, rfl⟩))))⟩
  · conv => whnf
    refine ⟨⟨rfl, by decide, by decide⟩, ?_⟩
    conv => whnf
    refine ⟨_, rfl, ?_⟩
    conv => whnf
    refine ⟨⟨rfl, by decide, by decide⟩, ?_⟩
    conv => whnf
    refine ⟨⟨rfl, by decide, by decide⟩, ?_⟩
    conv => whnf
    refine ⟨_, rfl, ⟨rfl, List.not_mem_nil⟩, _, rfl, ?_⟩
    conv => whnf
    refine ⟨by kernel_rfl, ?_⟩
    conv => whnf
    exact ⟨by kernel_rfl, 1, by decide, .inr (.inr (.inr (.inr (.inr (.inl ⟨rfl, rfl⟩)))))⟩
  · conv => whnf
    refine ⟨⟨rfl, by decide, by decide⟩, ?_⟩
    conv => whnf
    refine ⟨_, rfl, ?_⟩
    conv => whnf
    refine ⟨⟨rfl, by decide, by decide⟩, ?_⟩
    conv => whnf
    refine ⟨⟨rfl, by decide, by decide⟩, ?_⟩
    conv => whnf
    refine ⟨_, rfl, ⟨rfl, List.not_mem_nil⟩, _, rfl, ?_⟩
    conv => whnf
    refine ⟨by kernel_rfl, ?_⟩
    conv => whnf
    exact ⟨by kernel_rfl, 0, by decide, .inr (.inr (.inr (.inr (.inr (.inr (⟨rfl, rfl⟩))))))⟩
  conv => whnf
  refine cwF_loop (fun m st => ∃ (z : Int) (e0 e1 e2 e3 e4 : List V), (∃ (k : Nat) (r0 r1 r2 r3 r4 : List Bool), m = 5 - k ∧ k ≤ 5 ∧ z = (k : Nat) ∧ [r0, r1, r2, r3, r4] = fwK 5 [[true, false, false, true, false], [false, true, false, true, false], [false, false, true, true, false], [false, false, false, true, false], [true, true, true, false, true]] k ∧ (r0.length = 5 ∧ r1.length = 5 ∧ r2.length = 5 ∧ r3.length = 5 ∧ r4.length = 5) ∧ e0 = r0.map bv ∧ e1 = r1.map bv ∧ e2 = r2.map bv ∧ e3 = r3.map bv ∧ e4 = r4.map bv) ∧ st = ⟨[iv 5, .un, .un, .un, .lp (6, 0) 2 0 0, bv false, .ls (32, 0) 1 0 5, .un, .un, .un, iv z] ++ List.replicate 155 .un, mkOb [((6, 0), some (.arr false 2 [.agg [iv 0, nilV]])), ((32, 0), some (.arr false 1 [.ls (41, 1) 1 0 5, .ls (41, 2) 1 0 5, .ls (41, 3) 1 0 5, .ls (41, 4) 1 0 5, .ls (41, 5) 1 0 5])), ((15, 0), none), ((161, 1), none), ((41, 0), none), ((41, 1), some (.arr true 1 e0)), ((41, 2), some (.arr true 1 e1)), ((41, 3), some (.arr true 1 e2)), ((41, 4), some (.arr true 1 e3)), ((41, 5), some (.arr true 1 e4)), ((41, 6), none), ((41, 7), none), ((41, 8), none), ((41, 9), none)]⟩) 5 (by kernel_rfl) ⟨_, _, _, _, _, _, ⟨0, [true, false, false, true, false], [false, true, false, true, false], [false, false, true, true, false], [false, false, false, true, false], [true, true, true, false, true], rfl, by decide, rfl, fwK_zero.symm, ⟨rfl, rfl, rfl, rfl, rfl⟩, rfl, rfl, rfl, rfl, rfl⟩, rfl⟩ ?_
  rintro m st ⟨z, e0, e1, e2, e3, e4, ⟨k, r0, r1, r2, r3, r4, rfl, hk, rfl, hM1, hl1, rfl, rfl, rfl, rfl, rfl⟩, rfl⟩
  conv => whnf
  refine vif_dec (fun h1 => ?_) (fun h1 => ?_)
  · conv => whnf
    refine cwF_loop (fun m st => ∃ (z : Int) (e0 e1 e2 e3 e4 : List V), (∃ (a : Nat) (r0 r1 r2 r3 r4 : List Bool), m = 5 - a ∧ a ≤ 5 ∧ z = (a : Nat) ∧ [r0, r1, r2, r3, r4] = fwA 5 (fwK 5 [[true, false, false, true, false], [false, true, false, true, false], [false, false, true, true, false], [false, false, false, true, false], [true, true, true, false, true]] k) k a ∧ (r0.length = 5 ∧ r1.length = 5 ∧ r2.length = 5 ∧ r3.length = 5 ∧ r4.length = 5) ∧ e0 = r0.map bv ∧ e1 = r1.map bv ∧ e2 = r2.map bv ∧ e3 = r3.map bv ∧ e4 = r4.map bv) ∧ st = ⟨[iv 5, .un, .un, .un, .lp (6, 0) 2 0 0, bv false, .ls (32, 0) 1 0 5, .un, .un, .un, iv (k : Nat), iv z] ++ List.replicate 154 .un, mkOb [((6, 0), some (.arr false 2 [.agg [iv 0, nilV]])), ((32, 0), some (.arr false 1 [.ls (41, 1) 1 0 5, .ls (41, 2) 1 0 5, .ls (41, 3) 1 0 5, .ls (41, 4) 1 0 5, .ls (41, 5) 1 0 5])), ((15, 0), none), ((161, 1), none), ((41, 0), none), ((41, 1), some (.arr true 1 e0)), ((41, 2), some (.arr true 1 e1)), ((41, 3), some (.arr true 1 e2)), ((41, 4), some (.arr true 1 e3)), ((41, 5), some (.arr true 1 e4)), ((41, 6), none), ((41, 7), none), ((41, 8), none), ((41, 9), none)]⟩) 5 (by kernel_rfl) ⟨_, _, _, _, _, _, ⟨0, r0, r1, r2, r3, r4, rfl, by decide, rfl, hM1.trans fwA_zero.symm, hl1, rfl, rfl, rfl, rfl, rfl⟩, rfl⟩ ?_
    clear hM1 hl1
    rintro m st ⟨z, e0, e1, e2, e3, e4, ⟨a, r0, r1, r2, r3, r4, rfl, ha, rfl, hM2, hl2, rfl, rfl, rfl, rfl, rfl⟩, rfl⟩
    conv => whnf
    refine vif_dec (fun h2 => ?_) (fun h2 => ?_)
    · conv => whnf
      refine cwF_loop (fun m st => ∃ (z : Int) (e0 e1 e2 e3 e4 : List V), (∃ (b : Nat) (r0 r1 r2 r3 r4 : List Bool), m = 5 - b ∧ b ≤ 5 ∧ z = (b : Nat) ∧ [r0, r1, r2, r3, r4] = fwR (fwA 5 (fwK 5 [[true, false, false, true, false], [false, true, false, true, false], [false, false, true, true, false], [false, false, false, true, false], [true, true, true, false, true]] k) k a) k a b ∧ (r0.length = 5 ∧ r1.length = 5 ∧ r2.length = 5 ∧ r3.length = 5 ∧ r4.length = 5) ∧ e0 = r0.map bv ∧ e1 = r1.map bv ∧ e2 = r2.map bv ∧ e3 = r3.map bv ∧ e4 = r4.map bv) ∧ st = ⟨[iv 5, .un, .un, .un, .lp (6, 0) 2 0 0, bv false, .ls (32, 0) 1 0 5, .un, .un, .un, iv (k : Nat), iv (a : Nat), iv z] ++ List.replicate 153 .un, mkOb [((6, 0), some (.arr false 2 [.agg [iv 0, nilV]])), ((32, 0), some (.arr false 1 [.ls (41, 1) 1 0 5, .ls (41, 2) 1 0 5, .ls (41, 3) 1 0 5, .ls (41, 4) 1 0 5, .ls (41, 5) 1 0 5])), ((15, 0), none), ((161, 1), none), ((41, 0), none), ((41, 1), some (.arr true 1 e0)), ((41, 2), some (.arr true 1 e1)), ((41, 3), some (.arr true 1 e2)), ((41, 4), some (.arr true 1 e3)), ((41, 5), some (.arr true 1 e4)), ((41, 6), none), ((41, 7), none), ((41, 8), none), ((41, 9), none)]⟩) 5 (by kernel_rfl) ⟨_, _, _, _, _, _, ⟨0, r0, r1, r2, r3, r4, rfl, by decide, rfl, hM2.trans fwR_zero.symm, hl2, rfl, rfl, rfl, rfl, rfl⟩, rfl⟩ ?_
      clear hM2 hl2
      rintro m st ⟨z, e0, e1, e2, e3, e4, ⟨b, r0, r1, r2, r3, r4, rfl, hb, rfl, hM3, hl3, rfl, rfl, rfl, rfl, rfl⟩, rfl⟩
      have la := lens5 (a := a) (by omega) hl3
      have lk := lens5 (a := k) (by omega) hl3
      conv => whnf
      refine vif_dec (fun h3 => ?_) (fun h3 => ?_)
      · conv => whnf
        refine ⟨⟨rfl, by omega, by omega⟩, ?_⟩
        conv => whnf
        refine ob_eq (v := (.ls (41, a + 1) 1 0 5, [])) (by obtain rfl | rfl | rfl | rfl | rfl := lt5 (by omega : a < 5) <;> rfl) ?_
        conv => whnf
        refine ⟨⟨rfl, by omega, by omega⟩, ?_⟩
        conv => whnf
        refine ob_eq (v := (.ls (41, a + 1) 1 0 5, [])) (by obtain rfl | rfl | rfl | rfl | rfl := lt5 (by omega : a < 5) <;> rfl) ?_
        conv => whnf
        refine ⟨⟨rfl, by omega, by omega⟩, ?_⟩
        conv => whnf
        refine ⟨_, rows5 (by omega) r0 r1 r2 r3 r4, ask_row (by omega) fun x hx => ?_⟩
        cases x
        · conv => whnf
          refine ⟨⟨rfl, by omega, by omega⟩, ?_⟩
          conv => whnf
          refine ob_eq (v := (.ls (41, a + 1) 1 0 5, [])) (by obtain rfl | rfl | rfl | rfl | rfl := lt5 (by omega : a < 5) <;> rfl) ?_
          conv => whnf
          refine ⟨⟨rfl, by omega, by omega⟩, ?_⟩
          conv => whnf
          refine ⟨_, rows5 (by omega) r0 r1 r2 r3 r4, ask_row (by omega) fun y hy => ?_⟩
          cases y
          · conv => whnf
            refine ⟨⟨rfl, by omega, by omega⟩, ?_⟩
            conv => whnf
            refine ⟨_, rows5 (by omega) r0 r1 r2 r3 r4, ⟨rfl, List.not_mem_nil⟩, _, row_get (by omega) hx, ?_⟩
            conv => whnf
            refine ⟨by kernel_rfl, ?_⟩
            conv => whnf
            have hN : fwR (fwA 5 (fwK 5 [[true, false, false, true, false], [false, true, false, true, false], [false, false, true, true, false], [false, false, false, true, false], [true, true, true, false, true]] k) k a) k a (b + 1) = [r0, r1, r2, r3, r4].set a (([r0, r1, r2, r3, r4].getD a []).set b false) := by rw [fwR_succ, ← hM3, fwB, hx, hy]; rfl
            clear hM3 hx la lk
            obtain ⟨l0, l1, l2, l3, l4⟩ := hl3
            obtain rfl | rfl | rfl | rfl | rfl := lt5 (by omega : a < 5)
            · exact ⟨by kernel_rfl, 5 - (b + 1), by omega, _, _, _, _, _, _, ⟨b + 1, r0.set b false, r1, r2, r3, r4, rfl, by omega, wrap_i64 (by omega), hN.symm, ⟨by rw [List.length_set]; exact l0, l1, l2, l3, l4⟩, row_set, rfl, rfl, rfl, rfl⟩, rfl⟩
            · exact ⟨by kernel_rfl, 5 - (b + 1), by omega, _, _, _, _, _, _, ⟨b + 1, r0, r1.set b false, r2, r3, r4, rfl, by omega, wrap_i64 (by omega), hN.symm, ⟨l0, by rw [List.length_set]; exact l1, l2, l3, l4⟩, rfl, row_set, rfl, rfl, rfl⟩, rfl⟩
            · exact ⟨by kernel_rfl, 5 - (b + 1), by omega, _, _, _, _, _, _, ⟨b + 1, r0, r1, r2.set b false, r3, r4, rfl, by omega, wrap_i64 (by omega), hN.symm, ⟨l0, l1, by rw [List.length_set]; exact l2, l3, l4⟩, rfl, rfl, row_set, rfl, rfl⟩, rfl⟩
            · exact ⟨by kernel_rfl, 5 - (b + 1), by omega, _, _, _, _, _, _, ⟨b + 1, r0, r1, r2, r3.set b false, r4, rfl, by omega, wrap_i64 (by omega), hN.symm, ⟨l0, l1, l2, by rw [List.length_set]; exact l3, l4⟩, rfl, rfl, rfl, row_set, rfl⟩, rfl⟩
            · exact ⟨by kernel_rfl, 5 - (b + 1), by omega, _, _, _, _, _, _, ⟨b + 1, r0, r1, r2, r3, r4.set b false, rfl, by omega, wrap_i64 (by omega), hN.symm, ⟨l0, l1, l2, l3, by rw [List.length_set]; exact l4⟩, rfl, rfl, rfl, rfl, row_set⟩, rfl⟩
          · conv => whnf
            refine ⟨⟨rfl, by omega, by omega⟩, ?_⟩
            conv => whnf
            refine ob_eq (v := (.ls (41, k + 1) 1 0 5, [])) (by obtain rfl | rfl | rfl | rfl | rfl := lt5 (by omega : k < 5) <;> rfl) ?_
            conv => whnf
            refine ⟨⟨rfl, by omega, by omega⟩, ?_⟩
            conv => whnf
            refine ⟨_, rows5 (by omega) r0 r1 r2 r3 r4, ask_row (by omega) fun z hz => ?_⟩
            conv => whnf
            refine ⟨⟨rfl, by omega, by omega⟩, ?_⟩
            conv => whnf
            refine ⟨_, rows5 (by omega) r0 r1 r2 r3 r4, ⟨rfl, List.not_mem_nil⟩, _, row_get (by omega) hx, ?_⟩
            conv => whnf
            refine ⟨by kernel_rfl, ?_⟩
            conv => whnf
            have hN : fwR (fwA 5 (fwK 5 [[true, false, false, true, false], [false, true, false, true, false], [false, false, true, true, false], [false, false, false, true, false], [true, true, true, false, true]] k) k a) k a (b + 1) = [r0, r1, r2, r3, r4].set a (([r0, r1, r2, r3, r4].getD a []).set b z) := by rw [fwR_succ, ← hM3, fwB, hx, hy, hz]; rfl
            clear hM3 hx la lk
            obtain ⟨l0, l1, l2, l3, l4⟩ := hl3
            obtain rfl | rfl | rfl | rfl | rfl := lt5 (by omega : a < 5)
            · exact ⟨by kernel_rfl, 5 - (b + 1), by omega, _, _, _, _, _, _, ⟨b + 1, r0.set b z, r1, r2, r3, r4, rfl, by omega, wrap_i64 (by omega), hN.symm, ⟨by rw [List.length_set]; exact l0, l1, l2, l3, l4⟩, row_set, rfl, rfl, rfl, rfl⟩, rfl⟩
            · exact ⟨by kernel_rfl, 5 - (b + 1), by omega, _, _, _, _, _, _, ⟨b + 1, r0, r1.set b z, r2, r3, r4, rfl, by omega, wrap_i64 (by omega), hN.symm, ⟨l0, by rw [List.length_set]; exact l1, l2, l3, l4⟩, rfl, row_set, rfl, rfl, rfl⟩, rfl⟩
            · exact ⟨by kernel_rfl, 5 - (b + 1), by omega, _, _, _, _, _, _, ⟨b + 1, r0, r1, r2.set b z, r3, r4, rfl, by omega, wrap_i64 (by omega), hN.symm, ⟨l0, l1, by rw [List.length_set]; exact l2, l3, l4⟩, rfl, rfl, row_set, rfl, rfl⟩, rfl⟩
            · exact ⟨by kernel_rfl, 5 - (b + 1), by omega, _, _, _, _, _, _, ⟨b + 1, r0, r1, r2, r3.set b z, r4, rfl, by omega, wrap_i64 (by omega), hN.symm, ⟨l0, l1, l2, by rw [List.length_set]; exact l3, l4⟩, rfl, rfl, rfl, row_set, rfl⟩, rfl⟩
            · exact ⟨by kernel_rfl, 5 - (b + 1), by omega, _, _, _, _, _, _, ⟨b + 1, r0, r1, r2, r3, r4.set b z, rfl, by omega, wrap_i64 (by omega), hN.symm, ⟨l0, l1, l2, l3, by rw [List.length_set]; exact l4⟩, rfl, rfl, rfl, rfl, row_set⟩, rfl⟩
        · conv => whnf
          refine ⟨⟨rfl, by omega, by omega⟩, ?_⟩
          conv => whnf
          refine ⟨_, rows5 (by omega) r0 r1 r2 r3 r4, ⟨rfl, List.not_mem_nil⟩, _, row_get (by omega) hx, ?_⟩
          conv => whnf
          refine ⟨by kernel_rfl, ?_⟩
          conv => whnf
          have hN : fwR (fwA 5 (fwK 5 [[true, false, false, true, false], [false, true, false, true, false], [false, false, true, true, false], [false, false, false, true, false], [true, true, true, false, true]] k) k a) k a (b + 1) = [r0, r1, r2, r3, r4].set a (([r0, r1, r2, r3, r4].getD a []).set b true) := by rw [fwR_succ, ← hM3, fwB, hx]; rfl
          clear hM3 hx la lk
          obtain ⟨l0, l1, l2, l3, l4⟩ := hl3
          obtain rfl | rfl | rfl | rfl | rfl := lt5 (by omega : a < 5)
          · exact ⟨by kernel_rfl, 5 - (b + 1), by omega, _, _, _, _, _, _, ⟨b + 1, r0.set b true, r1, r2, r3, r4, rfl, by omega, wrap_i64 (by omega), hN.symm, ⟨by rw [List.length_set]; exact l0, l1, l2, l3, l4⟩, row_set, rfl, rfl, rfl, rfl⟩, rfl⟩
          · exact ⟨by kernel_rfl, 5 - (b + 1), by omega, _, _, _, _, _, _, ⟨b + 1, r0, r1.set b true, r2, r3, r4, rfl, by omega, wrap_i64 (by omega), hN.symm, ⟨l0, by rw [List.length_set]; exact l1, l2, l3, l4⟩, rfl, row_set, rfl, rfl, rfl⟩, rfl⟩
          · exact ⟨by kernel_rfl, 5 - (b + 1), by omega, _, _, _, _, _, _, ⟨b + 1, r0, r1, r2.set b true, r3, r4, rfl, by omega, wrap_i64 (by omega), hN.symm, ⟨l0, l1, by rw [List.length_set]; exact l2, l3, l4⟩, rfl, rfl, row_set, rfl, rfl⟩, rfl⟩
          · exact ⟨by kernel_rfl, 5 - (b + 1), by omega, _, _, _, _, _, _, ⟨b + 1, r0, r1, r2, r3.set b true, r4, rfl, by omega, wrap_i64 (by omega), hN.symm, ⟨l0, l1, l2, by rw [List.length_set]; exact l3, l4⟩, rfl, rfl, rfl, row_set, rfl⟩, rfl⟩
          · exact ⟨by kernel_rfl, 5 - (b + 1), by omega, _, _, _, _, _, _, ⟨b + 1, r0, r1, r2, r3, r4.set b true, rfl, by omega, wrap_i64 (by omega), hN.symm, ⟨l0, l1, l2, l3, by rw [List.length_set]; exact l4⟩, rfl, rfl, rfl, rfl, row_set⟩, rfl⟩
      · conv => whnf
        obtain rfl : b = 5 := by omega
        exact ⟨by kernel_rfl, 5 - (a + 1), by omega, _, _, _, _, _, _, ⟨a + 1, r0, r1, r2, r3, r4, rfl, by omega, wrap_i64 (by omega), by rw [fwA_succ]; exact hM3, hl3, rfl, rfl, rfl, rfl, rfl⟩, rfl⟩
    · conv => whnf
      obtain rfl : a = 5 := by omega
      exact ⟨by kernel_rfl, 5 - (k + 1), by omega, _, _, _, _, _, _, ⟨k + 1, r0, r1, r2, r3, r4, rfl, by omega, wrap_i64 (by omega), by rw [fwK_succ]; exact hM2, hl2, rfl, rfl, rfl, rfl, rfl⟩, rfl⟩
  obtain rfl : k = 5 := by omega
  have hE : fwK 5 [[true, false, false, true, false], [false, true, false, true, false], [false, false, true, true, false], [false, false, false, true, false], [true, true, true, false, true]] 5 = [[true, false, false, true, false], [false, true, false, true, false], [false, false, true, true, false], [false, false, false, true, false], [true, true, true, true, true]] := by kernel_rfl
  rw [hE] at hM1
  clear hE hl1
  simp only [List.cons.injEq, and_true] at hM1
  obtain ⟨rfl, rfl, rfl, rfl, rfl⟩ := hM1
  conv => whnf
  refine cwF_loop (fun m st => (m = 5 ∧ st = ⟨[iv 5, .un, .un, .un, .lp (6, 0) 2 0 0, bv false, .ls (32, 0) 1 0 5] ++ List.replicate 6 .un ++ [.lp (15, 0) 2 0 0, iv 0] ++ List.replicate 151 .un, mkOb [((6, 0), some (.arr false 2 [.agg [iv 0, nilV]])), ((32, 0), some (.arr false 1 [.ls (41, 1) 1 0 5, .ls (41, 2) 1 0 5, .ls (41, 3) 1 0 5, .ls (41, 4) 1 0 5, .ls (41, 5) 1 0 5])), ((15, 0), some (.arr false 2 [.agg [iv 5, nilV]])), ((161, 1), none), ((41, 0), none), ((41, 1), some (.arr true 1 ([true, false, false, true, false].map bv))), ((41, 2), some (.arr true 1 ([false, true, false, true, false].map bv))), ((41, 3), some (.arr true 1 ([false, false, true, true, false].map bv))), ((41, 4), some (.arr true 1 ([false, false, false, true, false].map bv))), ((41, 5), some (.arr true 1 ([true, true, true, true, true].map bv))), ((41, 6), none), ((41, 7), none), ((41, 8), none), ((41, 9), none)]⟩) ∨ (m = 4 ∧ st = ⟨[iv 5, .un, .un, .un, .lp (6, 0) 2 0 0, bv false, .ls (32, 0) 1 0 5] ++ List.replicate 6 .un ++ [.lp (15, 0) 2 0 0, iv 1] ++ List.replicate 151 .un, mkOb [((6, 0), some (.arr false 2 [.agg [iv 0, nilV]])), ((32, 0), some (.arr false 1 [.ls (41, 1) 1 0 5, .ls (41, 2) 1 0 5, .ls (41, 3) 1 0 5, .ls (41, 4) 1 0 5, .ls (41, 5) 1 0 5])), ((15, 0), some (.arr false 2 [.agg [iv 5, .ls (161, 1) 1 0 1]])), ((161, 1), some (.arr true 1 [uv 9])), ((41, 0), none), ((41, 1), some (.arr true 1 ([true, false, false, true, false].map bv))), ((41, 2), some (.arr true 1 ([false, true, false, true, false].map bv))), ((41, 3), some (.arr true 1 ([false, false, true, true, false].map bv))), ((41, 4), some (.arr true 1 ([false, false, false, true, false].map bv))), ((41, 5), some (.arr true 1 ([true, true, true, true, true].map bv))), ((41, 6), none), ((41, 7), none), ((41, 8), none), ((41, 9), none)]⟩) ∨ (m = 3 ∧ st = ⟨[iv 5, .un, .un, .un, .lp (6, 0) 2 0 0, bv false, .ls (32, 0) 1 0 5] ++ List.replicate 6 .un ++ [.lp (15, 0) 2 0 0, iv 2] ++ List.replicate 151 .un, mkOb [((6, 0), some (.arr false 2 [.agg [iv 0, nilV]])), ((32, 0), some (.arr false 1 [.ls (41, 1) 1 0 5, .ls (41, 2) 1 0 5, .ls (41, 3) 1 0 5, .ls (41, 4) 1 0 5, .ls (41, 5) 1 0 5])), ((15, 0), some (.arr false 2 [.agg [iv 5, .ls (161, 1) 1 0 2]])), ((161, 1), some (.arr true 1 [uv 9, uv 10])), ((41, 0), none), ((41, 1), some (.arr true 1 ([true, false, false, true, false].map bv))), ((41, 2), some (.arr true 1 ([false, true, false, true, false].map bv))), ((41, 3), some (.arr true 1 ([false, false, true, true, false].map bv))), ((41, 4), some (.arr true 1 ([false, false, false, true, false].map bv))), ((41, 5), some (.arr true 1 ([true, true, true, true, true].map bv))), ((41, 6), none), ((41, 7), none), ((41, 8), none), ((41, 9), none)]⟩) ∨ (m = 2 ∧ st = ⟨[iv 5, .un, .un, .un, .lp (6, 0) 2 0 0, bv false, .ls (32, 0) 1 0 5] ++ List.replicate 6 .un ++ [.lp (15, 0) 2 0 0, iv 3] ++ List.replicate 151 .un, mkOb [((6, 0), some (.arr false 2 [.agg [iv 0, nilV]])), ((32, 0), some (.arr false 1 [.ls (41, 1) 1 0 5, .ls (41, 2) 1 0 5, .ls (41, 3) 1 0 5, .ls (41, 4) 1 0 5, .ls (41, 5) 1 0 5])), ((15, 0), some (.arr false 2 [.agg [iv 5, .ls (161, 1) 1 0 3]])), ((161, 1), some (.arr true 1 [uv 9, uv 10, uv 12])), ((41, 0), none), ((41, 1), some (.arr true 1 ([true, false, false, true, false].map bv))), ((41, 2), some (.arr true 1 ([false, true, false, true, false].map bv))), ((41, 3), some (.arr true 1 ([false, false, true, true, false].map bv))), ((41, 4), some (.arr true 1 ([false, false, false, true, false].map bv))), ((41, 5), some (.arr true 1 ([true, true, true, true, true].map bv))), ((41, 6), none), ((41, 7), none), ((41, 8), none), ((41, 9), none)]⟩) ∨ (m = 1 ∧ st = ⟨[iv 5, .un, .un, .un, .lp (6, 0) 2 0 0, bv false, .ls (32, 0) 1 0 5] ++ List.replicate 6 .un ++ [.lp (15, 0) 2 0 0, iv 4] ++ List.replicate 151 .un, mkOb [((6, 0), some (.arr false 2 [.agg [iv 0, nilV]])), ((32, 0), some (.arr false 1 [.ls (41, 1) 1 0 5, .ls (41, 2) 1 0 5, .ls (41, 3) 1 0 5, .ls (41, 4) 1 0 5, .ls (41, 5) 1 0 5])), ((15, 0), some (.arr false 2 [.agg [iv 5, .ls (161, 1) 1 0 4]])), ((161, 1), some (.arr true 1 [uv 9, uv 10, uv 12, uv 8])), ((41, 0), none), ((41, 1), some (.arr true 1 ([true, false, false, true, false].map bv))), ((41, 2), some (.arr true 1 ([false, true, false, true, false].map bv))), ((41, 3), some (.arr true 1 ([false, false, true, true, false].map bv))), ((41, 4), some (.arr true 1 ([false, false, false, true, false].map bv))), ((41, 5), some (.arr true 1 ([true, true, true, true, true].map bv))), ((41, 6), none), ((41, 7), none), ((41, 8), none), ((41, 9), none)]⟩) ∨ (m = 0 ∧ st = ⟨[iv 5, .un, .un, .un, .lp (6, 0) 2 0 0, bv false, .ls (32, 0) 1 0 5] ++ List.replicate 6 .un ++ [.lp (15, 0) 2 0 0, iv 5] ++ List.replicate 151 .un, mkOb [((6, 0), some (.arr false 2 [.agg [iv 0, nilV]])), ((32, 0), some (.arr false 1 [.ls (41, 1) 1 0 5, .ls (41, 2) 1 0 5, .ls (41, 3) 1 0 5, .ls (41, 4) 1 0 5, .ls (41, 5) 1 0 5])), ((15, 0), some (.arr false 2 [.agg [iv 5, .ls (161, 1) 1 0 5]])), ((161, 1), some (.arr true 1 [uv 9, uv 10, uv 12, uv 8, uv 31])), ((41, 0), none), ((41, 1), some (.arr true 1 ([true, false, false, true, false].map bv))), ((41, 2), some (.arr true 1 ([false, true, false, true, false].map bv))), ((41, 3), some (.arr true 1 ([false, false, true, true, false].map bv))), ((41, 4), some (.arr true 1 ([false, false, false, true, false].map bv))), ((41, 5), some (.arr true 1 ([true, true, true, true, true].map bv))), ((41, 6), none), ((41, 7), none), ((41, 8), none), ((41, 9), none)]⟩)) 5 (by kernel_rfl) (.inl ⟨rfl, rfl⟩) ?_
  rintro m st (⟨rfl, rfl⟩ | ⟨rfl, rfl⟩ | ⟨rfl, rfl⟩ | ⟨rfl, rfl⟩ | ⟨rfl, rfl⟩ | ⟨rfl, rfl⟩)
  · conv => whnf
    refine cwF_loop (fun m st => ∃ z x : Int, (∃ b : Nat, m = 5 - b ∧ b ≤ 5 ∧ z = (b : Nat) ∧ x = wp [true, false, false, true, false] b) ∧ st = ⟨[iv 5, .un, .un, .un, .lp (6, 0) 2 0 0, bv false, .ls (32, 0) 1 0 5] ++ List.replicate 6 .un ++ [.lp (15, 0) 2 0 0, iv 0, uv x, iv z] ++ List.replicate 149 .un, mkOb [((6, 0), some (.arr false 2 [.agg [iv 0, nilV]])), ((32, 0), some (.arr false 1 [.ls (41, 1) 1 0 5, .ls (41, 2) 1 0 5, .ls (41, 3) 1 0 5, .ls (41, 4) 1 0 5, .ls (41, 5) 1 0 5])), ((15, 0), some (.arr false 2 [.agg [iv 5, nilV]])), ((161, 1), none), ((41, 0), none), ((41, 1), some (.arr true 1 ([true, false, false, true, false].map bv))), ((41, 2), some (.arr true 1 ([false, true, false, true, false].map bv))), ((41, 3), some (.arr true 1 ([false, false, true, true, false].map bv))), ((41, 4), some (.arr true 1 ([false, false, false, true, false].map bv))), ((41, 5), some (.arr true 1 ([true, true, true, true, true].map bv))), ((41, 6), none), ((41, 7), none), ((41, 8), none), ((41, 9), none)]⟩) 5 (by kernel_rfl) ⟨_, _, ⟨0, rfl, by decide, rfl, rfl⟩, rfl⟩ ?_
    rintro m st ⟨z, x, ⟨b, rfl, hb, rfl, rfl⟩, rfl⟩
    skip
    conv => whnf
    refine vif_dec (fun h1 => ?_) (fun h1 => ?_)
    · conv => whnf
      refine ⟨⟨rfl, by decide, by decide⟩, ?_⟩
      conv => whnf
      refine ⟨⟨rfl, by omega, by omega⟩, ?_⟩
      conv => whnf
      refine ⟨_, rfl, ask_row (r := [true, false, false, true, false]) (b := b) (by simp; omega) fun y hy => ?_⟩
      cases y
      · conv => whnf
        exact ⟨by kernel_rfl, 5 - (b + 1), by omega, _, _, ⟨b + 1, rfl, by omega, wrap_i64 (by omega), by rw [wp_succ, hy]; rfl⟩, rfl⟩
      · conv => whnf
        refine l01Power.ac _ (by omega) ?_
        conv => whnf
        exact ⟨by kernel_rfl, 5 - (b + 1), by omega, _, _, ⟨b + 1, rfl, by omega, wrap_i64 (by omega), by rw [wp_succ, hy]; exact wrap_u64 (wp_add (by omega)) ⟩, rfl⟩
    · conv => whnf
      obtain rfl : b = 5 := by omega
      refine ⟨⟨by decide, by decide, rfl⟩, ?_⟩
      conv => whnf
      exact ⟨by kernel_rfl, 4, by decide, .inr (.inl ⟨rfl, rfl⟩)⟩
  · conv => whnf
    refine cwF_loop (fun m st => ∃ z x : Int, (∃ b : Nat, m = 5 - b ∧ b ≤ 5 ∧ z = (b : Nat) ∧ x = wp [false, true, false, true, false] b) ∧ st = ⟨[iv 5, .un, .un, .un, .lp (6, 0) 2 0 0, bv false, .ls (32, 0) 1 0 5] ++ List.replicate 6 .un ++ [.lp (15, 0) 2 0 0, iv 1, uv x, iv z] ++ List.replicate 149 .un, mkOb [((6, 0), some (.arr false 2 [.agg [iv 0, nilV]])), ((32, 0), some (.arr false 1 [.ls (41, 1) 1 0 5, .ls (41, 2) 1 0 5, .ls (41, 3) 1 0 5, .ls (41, 4) 1 0 5, .ls (41, 5) 1 0 5])), ((15, 0), some (.arr false 2 [.agg [iv 5, .ls (161, 1) 1 0 1]])), ((161, 1), some (.arr true 1 [uv 9])), ((41, 0), none), ((41, 1), some (.arr true 1 ([true, false, false, true, false].map bv))), ((41, 2), some (.arr true 1 ([false, true, false, true, false].map bv))), ((41, 3), some (.arr true 1 ([false, false, true, true, false].map bv))), ((41, 4), some (.arr true 1 ([false, false, false, true, false].map bv))), ((41, 5), some (.arr true 1 ([true, true, true, true, true].map bv))), ((41, 6), none), ((41, 7), none), ((41, 8), none), ((41, 9), none)]⟩) 5 (by kernel_rfl) ⟨_, _, ⟨0, rfl, by decide, rfl, rfl⟩, rfl⟩ ?_
    rintro m st ⟨z, x, ⟨b, rfl, hb, rfl, rfl⟩, rfl⟩
    skip
    conv => whnf
    refine vif_dec (fun h1 => ?_) (fun h1 => ?_)
    · conv => whnf
      refine ⟨⟨rfl, by decide, by decide⟩, ?_⟩
      conv => whnf
      refine ⟨⟨rfl, by omega, by omega⟩, ?_⟩
      conv => whnf
      refine ⟨_, rfl, ask_row (r := [false, true, false, true, false]) (b := b) (by simp; omega) fun y hy => ?_⟩
      cases y
      · conv => whnf
        exact ⟨by kernel_rfl, 5 - (b + 1), by omega, _, _, ⟨b + 1, rfl, by omega, wrap_i64 (by omega), by rw [wp_succ, hy]; rfl⟩, rfl⟩
      · conv => whnf
        refine l01Power.ac _ (by omega) ?_
        conv => whnf
        exact ⟨by kernel_rfl, 5 - (b + 1), by omega, _, _, ⟨b + 1, rfl, by omega, wrap_i64 (by omega), by rw [wp_succ, hy]; exact wrap_u64 (wp_add (by omega)) ⟩, rfl⟩
    · conv => whnf
      obtain rfl : b = 5 := by omega
      exact ⟨by kernel_rfl, 3, by decide, .inr (.inr (.inl ⟨rfl, rfl⟩))⟩
  · conv => whnf
    refine cwF_loop (fun m st => ∃ z x : Int, (∃ b : Nat, m = 5 - b ∧ b ≤ 5 ∧ z = (b : Nat) ∧ x = wp [false, false, true, true, false] b) ∧ st = ⟨[iv 5, .un, .un, .un, .lp (6, 0) 2 0 0, bv false, .ls (32, 0) 1 0 5] ++ List.replicate 6 .un ++ [.lp (15, 0) 2 0 0, iv 2, uv x, iv z] ++ List.replicate 149 .un, mkOb [((6, 0), some (.arr false 2 [.agg [iv 0, nilV]])), ((32, 0), some (.arr false 1 [.ls (41, 1) 1 0 5, .ls (41, 2) 1 0 5, .ls (41, 3) 1 0 5, .ls (41, 4) 1 0 5, .ls (41, 5) 1 0 5])), ((15, 0), some (.arr false 2 [.agg [iv 5, .ls (161, 1) 1 0 2]])), ((161, 1), some (.arr true 1 [uv 9, uv 10])), ((41, 0), none), ((41, 1), some (.arr true 1 ([true, false, false, true, false].map bv))), ((41, 2), some (.arr true 1 ([false, true, false, true, false].map bv))), ((41, 3), some (.arr true 1 ([false, false, true, true, false].map bv))), ((41, 4), some (.arr true 1 ([false, false, false, true, false].map bv))), ((41, 5), some (.arr true 1 ([true, true, true, true, true].map bv))), ((41, 6), none), ((41, 7), none), ((41, 8), none), ((41, 9), none)]⟩) 5 (by kernel_rfl) ⟨_, _, ⟨0, rfl, by decide, rfl, rfl⟩, rfl⟩ ?_
    rintro m st ⟨z, x, ⟨b, rfl, hb, rfl, rfl⟩, rfl⟩
    skip
    conv => whnf
    refine vif_dec (fun h1 => ?_) (fun h1 => ?_)
    · conv => whnf
      refine ⟨⟨rfl, by decide, by decide⟩, ?_⟩
      conv => whnf
      refine ⟨⟨rfl, by omega, by omega⟩, ?_⟩
      conv => whnf
      refine ⟨_, rfl, ask_row (r := [false, false, true, true, false]) (b := b) (by simp; omega) fun y hy => ?_⟩
      cases y
      · conv => whnf
        exact ⟨by kernel_rfl, 5 - (b + 1), by omega, _, _, ⟨b + 1, rfl, by omega, wrap_i64 (by omega), by rw [wp_succ, hy]; rfl⟩, rfl⟩
      · conv => whnf
        refine l01Power.ac _ (by omega) ?_
        conv => whnf
        exact ⟨by kernel_rfl, 5 - (b + 1), by omega, _, _, ⟨b + 1, rfl, by omega, wrap_i64 (by omega), by rw [wp_succ, hy]; exact wrap_u64 (wp_add (by omega)) ⟩, rfl⟩
    · conv => whnf
      obtain rfl : b = 5 := by omega
      exact ⟨by kernel_rfl, 2, by decide, .inr (.inr (.inr (.inl ⟨rfl, rfl⟩)))⟩
  · conv => whnf
    refine cwF_loop (fun m st => ∃ z x : Int, (∃ b : Nat, m = 5 - b ∧ b ≤ 5 ∧ z = (b : Nat) ∧ x = wp [false, false, false, true, false] b) ∧ st = ⟨[iv 5, .un, .un, .un, .lp (6, 0) 2 0 0, bv false, .ls (32, 0) 1 0 5] ++ List.replicate 6 .un ++ [.lp (15, 0) 2 0 0, iv 3, uv x, iv z] ++ List.replicate 149 .un, mkOb [((6, 0), some (.arr false 2 [.agg [iv 0, nilV]])), ((32, 0), some (.arr false 1 [.ls (41, 1) 1 0 5, .ls (41, 2) 1 0 5, .ls (41, 3) 1 0 5, .ls (41, 4) 1 0 5, .ls (41, 5) 1 0 5])), ((15, 0), some (.arr false 2 [.agg [iv 5, .ls (161, 1) 1 0 3]])), ((161, 1), some (.arr true 1 [uv 9, uv 10, uv 12])), ((41, 0), none), ((41, 1), some (.arr true 1 ([true, false, false, true, false].map bv))), ((41, 2), some (.arr true 1 ([false, true, false, true, false].map bv))), ((41, 3), some (.arr true 1 ([false, false, true, true, false].map bv))), ((41, 4), some (.arr true 1 ([false, false, false, true, false].map bv))), ((41, 5), some (.arr true 1 ([true, true, true, true, true].map bv))), ((41, 6), none), ((41, 7), none), ((41, 8), none), ((41, 9), none)]⟩) 5 (by kernel_rfl) ⟨_, _, ⟨0, rfl, by decide, rfl, rfl⟩, rfl⟩ ?_
    rintro m st ⟨z, x, ⟨b, rfl, hb, rfl, rfl⟩, rfl⟩
    skip
    conv => whnf
    refine vif_dec (fun h1 => ?_) (fun h1 => ?_)
    · conv => whnf
      refine ⟨⟨rfl, by decide, by decide⟩, ?_⟩
      conv => whnf
      refine ⟨⟨rfl, by omega, by omega⟩, ?_⟩
      conv => whnf
      refine ⟨_, rfl, ask_row (r := [false, false, false, true, false]) (b := b) (by simp; omega) fun y hy => ?_⟩
      cases y
      · conv => whnf
        exact ⟨by kernel_rfl, 5 - (b + 1), by omega, _, _, ⟨b + 1, rfl, by omega, wrap_i64 (by omega), by rw [wp_succ, hy]; rfl⟩, rfl⟩
      · conv => whnf
        refine l01Power.ac _ (by omega) ?_
        conv => whnf
        exact ⟨by kernel_rfl, 5 - (b + 1), by omega, _, _, ⟨b + 1, rfl, by omega, wrap_i64 (by omega), by rw [wp_succ, hy]; exact wrap_u64 (wp_add (by omega)) ⟩, rfl⟩
    · conv => whnf
      obtain rfl : b = 5 := by omega
      exact ⟨by kernel_rfl, 1, by decide, .inr (.inr (.inr (.inr (.inl ⟨rfl, rfl⟩))))⟩
  · conv => whnf
    refine cwF_loop (fun m st => ∃ z x : Int, (∃ b : Nat, m = 5 - b ∧ b ≤ 5 ∧ z = (b : Nat) ∧ x = wp [true, true, true, true, true] b) ∧ st = ⟨[iv 5, .un, .un, .un, .lp (6, 0) 2 0 0, bv false, .ls (32, 0) 1 0 5] ++ List.replicate 6 .un ++ [.lp (15, 0) 2 0 0, iv 4, uv x, iv z] ++ List.replicate 149 .un, mkOb [((6, 0), some (.arr false 2 [.agg [iv 0, nilV]])), ((32, 0), some (.arr false 1 [.ls (41, 1) 1 0 5, .ls (41, 2) 1 0 5, .ls (41, 3) 1 0 5, .ls (41, 4) 1 0 5, .ls (41, 5) 1 0 5])), ((15, 0), some (.arr false 2 [.agg [iv 5, .ls (161, 1) 1 0 4]])), ((161, 1), some (.arr true 1 [uv 9, uv 10, uv 12, uv 8])), ((41, 0), none), ((41, 1), some (.arr true 1 ([true, false, false, true, false].map bv))), ((41, 2), some (.arr true 1 ([false, true, false, true, false].map bv))), ((41, 3), some (.arr true 1 ([false, false, true, true, false].map bv))), ((41, 4), some (.arr true 1 ([false, false, false, true, false].map bv))), ((41, 5), some (.arr true 1 ([true, true, true, true, true].map bv))), ((41, 6), none), ((41, 7), none), ((41, 8), none), ((41, 9), none)]⟩) 5 (by kernel_rfl) ⟨_, _, ⟨0, rfl, by decide, rfl, rfl⟩, rfl⟩ ?_
    rintro m st ⟨z, x, ⟨b, rfl, hb, rfl, rfl⟩, rfl⟩
    skip
    conv => whnf
    refine vif_dec (fun h1 => ?_) (fun h1 => ?_)
    · conv => whnf
      refine ⟨⟨rfl, by decide, by decide⟩, ?_⟩
      conv => whnf
      refine ⟨⟨rfl, by omega, by omega⟩, ?_⟩
      conv => whnf
      refine ⟨_, rfl, ask_row (r := [true, true, true, true, true]) (b := b) (by simp; omega) fun y hy => ?_⟩
      cases y
      · conv => whnf
        exact ⟨by kernel_rfl, 5 - (b + 1), by omega, _, _, ⟨b + 1, rfl, by omega, wrap_i64 (by omega), by rw [wp_succ, hy]; rfl⟩, rfl⟩
      · conv => whnf
        refine l01Power.ac _ (by omega) ?_
        conv => whnf
        exact ⟨by kernel_rfl, 5 - (b + 1), by omega, _, _, ⟨b + 1, rfl, by omega, wrap_i64 (by omega), by rw [wp_succ, hy]; exact wrap_u64 (wp_add (by omega)) ⟩, rfl⟩
    · conv => whnf
      obtain rfl : b = 5 := by omega
      exact ⟨by kernel_rfl, 0, by decide, .inr (.inr (.inr (.inr (.inr (⟨rfl, rfl⟩)))))⟩
  conv => whnf
  refine LatOkS.acW 5 [9, 10, 12, 8, 31] fun r hr => ?_
  obtain rfl : r = true := hr.2 (latB_P (by kernel_rfl))
  conv => whnf
  exact hK
end Go.Eng.T.L
