import Derived.Test.YtajekdeommaceaaXL1
namespace Go.Eng.T
open Go.Proofs Go.Eng
set_option maxRecDepth 100000

def fitsTo (up : List Int) (a b : Int) (u : Bool) (c : Int) (m : Nat) : Bool :=
  side up a c u && side up b c u && (List.range m).all fun (d : Nat) => !(side up a d u && side up b d u) || side up c d u
def bound (N : Nat) (up : List Int) (a b : Int) (u : Bool) : Int :=
  match (List.range N).find? fun (c : Nat) => fitsTo up a b u c N with
  | some c => c
  | none => -1

theorem fitsTo_succ {up : List Int} {a b : Int} {u : Bool} {c : Int} {d : Int} (h : 0 ≤ d) : fitsTo up a b u c (d + 1).toNat = (fitsTo up a b u c d.toNat && (!(side up a d u && side up b d u) || side up c d u)) := by
  have e : (d + 1).toNat = d.toNat + 1 := by omega
  have e2 : ((d.toNat : Nat) : Int) = d := by omega
  simp only [fitsTo, e, List.range_succ, List.all_append, List.all_cons, List.all_nil, Bool.and_true, e2, Bool.and_assoc]

theorem fitsTo_le {up : List Int} {a b : Int} {u : Bool} {c : Int} {m n : Nat} (h : m ≤ n) (hf : fitsTo up a b u c m = false) : fitsTo up a b u c n = false := by
  cases hc : fitsTo up a b u c n
  · rfl
  · simp only [fitsTo, Bool.and_eq_true, List.all_eq_true, List.mem_range] at hc
    have : fitsTo up a b u c m = true := by
      simp only [fitsTo, Bool.and_eq_true, List.all_eq_true, List.mem_range]
      exact ⟨hc.1, fun x hx => hc.2 x (by omega)⟩
    rw [this] at hf; cases hf

theorem find_next {p : Nat → Bool} {c : Int} (h0 : 0 ≤ c) (h : (List.range c.toNat).find? p = none) (hp : p c.toNat = false) : (List.range (c + 1).toNat).find? p = none := by
  have e : (c + 1).toNat = c.toNat + 1 := by omega
  rw [e, List.range_succ, List.find?_append, h]
  simp [hp]

theorem find_here {p : Nat → Bool} {c : Int} {N : Nat} (h0 : 0 ≤ c) (hN : c < N) (h : (List.range c.toNat).find? p = none) (hp : p c.toNat = true) : (List.range N).find? p = some c.toNat := by
  obtain ⟨k, rfl⟩ : ∃ k, N = c.toNat + 1 + k := ⟨N - (c.toNat + 1), by omega⟩
  rw [List.range_add, List.range_succ, List.find?_append, List.find?_append, h]
  simp [hp]

theorem l01Bound.ac (N : Nat) (up : List Int) (a b : Int) (u : Bool) (hN : N ≤ 16) (hu : up.length = N) (ha : 0 ≤ a ∧ a < N) (hb : 0 ≤ b ∧ b < N) {K : V → List Obj → List Obj → Prop} (hK : ∀ r, bound N up a b u = r → K (iv r) [] []) : AC Try.prog 49 [latV N up, iv a, iv b, bv u] [] K := by
  have hl : (up.map uv).length = N := by rw [List.length_map, hu]
  refine ac_body (ann [(2, [1, 2, 3, 4, 9], [(6, 0)]), (6, [1, 2, 3, 4, 9, 10, 11], [(6, 0)])]) [((6, 0), true)] hm htt Try.func49 rfl (by kernel_rfl) rfl rfl ?_
  conv => whnf
  refine cwF_loop (fun n st => ∃ c : Int, (n = (N - c).toNat ∧ 0 ≤ c ∧ c ≤ N ∧ (List.range c.toNat).find? (fun (c : Nat) => fitsTo up a b u c N) = none) ∧
    st = ⟨[.un, iv a, iv b, bv u, .lp (6, 0) 2 0 0, .un, .un, .un, .un, iv c] ++ List.replicate 51 .un, mkOb [((6, 0), some (.arr false 2 [latV N up]))]⟩) N (by kernel_rfl) ⟨_, ?_, rfl⟩ ?_
  · exact ⟨by simp, by omega, by omega, by simp⟩
  rintro n st ⟨c, ⟨rfl, h1, h2, h3⟩, rfl⟩
  conv => whnf
  refine vif_dec (fun h4 => ?_) (fun h4 => ?_)
  case refine_2.refine_2 =>
    conv => whnf
    have e : c = N := by omega
    subst e
    rw [Int.toNat_natCast] at h3
    exact hK _ (by simp only [bound, h3])
  conv => whnf
  refine l01Side.ac _ _ _ _ _ (by omega) (by omega) fun rhs hs => ?_
  conv => whnf
  have h5 : ∀ f, f = fitsTo up a b u c 0 → True := fun _ _ => trivial
  cases rhs
  rotate_left
  · conv => whnf
    refine l01Side.ac _ _ _ _ _ (by omega) (by omega) fun rhs2 hs2 => ?_
    conv => whnf
    refine cwF_loop (fun n st => ∃ (d : Int) (f : Bool), (n = (N - d).toNat ∧ 0 ≤ d ∧ d ≤ N ∧ f = fitsTo up a b u c d.toNat) ∧
      st = ⟨[.un, iv a, iv b, bv u, .lp (6, 0) 2 0 0, .un, .un, .un, .un, iv c, bv f, iv d] ++ List.replicate 49 .un, mkOb [((6, 0), some (.arr false 2 [latV N up]))]⟩) N (by kernel_rfl) ⟨_, _, ?_, rfl⟩ ?_
    · exact ⟨by simp, by omega, by omega, by simp [fitsTo, hs, hs2]⟩
    rintro n st ⟨d, f, ⟨rfl, g1, g2, g3⟩, rfl⟩
    conv => whnf
    have next : fitsTo up a b u c N = false → (List.range (c + 1).toNat).find? (fun (c : Nat) => fitsTo up a b u c N) = none := fun h => find_next h1 h3 (by rw [show ((c.toNat : Nat) : Int) = c by omega]; exact h)
    cases hd : decide (d < (N : Int))
    · have e : d = N := by have := of_decide_eq_false hd; omega
      subst e
      rw [Int.toNat_natCast] at g3
      cases f
      · conv => whnf
        refine ⟨by kernel_rfl, (N - (c + 1)).toNat, by omega, _, ?_, rfl⟩
        rw [wrap_i64 (by omega)]
        exact ⟨rfl, by omega, by omega, next g3.symm⟩
      · conv => whnf
        have h5 := find_here (p := fun (c : Nat) => fitsTo up a b u c N) h1 h4 h3 (by rw [show ((c.toNat : Nat) : Int) = c by omega]; exact g3.symm)
        exact hK _ (by simp only [bound, h5]; omega)
    · have hd := of_decide_eq_true hd
      cases f
      · conv => whnf
        refine ⟨by kernel_rfl, (N - (c + 1)).toNat, by omega, _, ?_, rfl⟩
        rw [wrap_i64 (by omega)]
        exact ⟨rfl, by omega, by omega, next (fitsTo_le (by omega) g3.symm)⟩
      · conv => whnf
        refine l01Side.ac _ _ _ _ _ (by omega) (by omega) fun rs1 s1 => ?_
        conv => whnf
        cases rs1
        · conv => whnf
          refine ⟨by kernel_rfl, (N - (d + 1)).toNat, by omega, _, _, ?_, rfl⟩
          rw [wrap_i64 (by omega)]
          exact ⟨rfl, by omega, by omega, by rw [fitsTo_succ g1, ← g3, s1]; rfl⟩
        · conv => whnf
          refine l01Side.ac _ _ _ _ _ (by omega) (by omega) fun rs2 s2 => ?_
          conv => whnf
          cases rs2
          · conv => whnf
            refine ⟨by kernel_rfl, (N - (d + 1)).toNat, by omega, _, _, ?_, rfl⟩
            rw [wrap_i64 (by omega)]
            exact ⟨rfl, by omega, by omega, by rw [fitsTo_succ g1, ← g3, s1, s2]; rfl⟩
          · conv => whnf
            refine l01Side.ac _ _ _ _ _ (by omega) (by omega) fun rs3 s3 => ?_
            conv => whnf
            cases rs3
            · conv => whnf
              refine ⟨by kernel_rfl, (N - (d + 1)).toNat, by omega, _, _, ?_, rfl⟩
              rw [wrap_i64 (by omega)]
              exact ⟨rfl, by omega, by omega, by rw [fitsTo_succ g1, ← g3, s1, s2, s3]; rfl⟩
            · conv => whnf
              refine ⟨by kernel_rfl, (N - (d + 1)).toNat, by omega, _, _, ?_, rfl⟩
              rw [wrap_i64 (by omega)]
              exact ⟨rfl, by omega, by omega, by rw [fitsTo_succ g1, ← g3, s1, s2, s3]; rfl⟩
  · conv => whnf
    have hs2 : true = true := rfl
    refine cwF_loop (fun n st => ∃ (d : Int) (f : Bool), (n = (N - d).toNat ∧ 0 ≤ d ∧ d ≤ N ∧ f = fitsTo up a b u c d.toNat) ∧
      st = ⟨[.un, iv a, iv b, bv u, .lp (6, 0) 2 0 0, .un, .un, .un, .un, iv c, bv f, iv d] ++ List.replicate 49 .un, mkOb [((6, 0), some (.arr false 2 [latV N up]))]⟩) N (by kernel_rfl) ⟨_, _, ?_, rfl⟩ ?_
    · exact ⟨by simp, by omega, by omega, by simp [fitsTo, hs]⟩
    rintro n st ⟨d, f, ⟨rfl, g1, g2, g3⟩, rfl⟩
    conv => whnf
    have next : fitsTo up a b u c N = false → (List.range (c + 1).toNat).find? (fun (c : Nat) => fitsTo up a b u c N) = none := fun h => find_next h1 h3 (by rw [show ((c.toNat : Nat) : Int) = c by omega]; exact h)
    cases hd : decide (d < (N : Int))
    · have e : d = N := by have := of_decide_eq_false hd; omega
      subst e
      rw [Int.toNat_natCast] at g3
      cases f
      · conv => whnf
        refine ⟨by kernel_rfl, (N - (c + 1)).toNat, by omega, _, ?_, rfl⟩
        rw [wrap_i64 (by omega)]
        exact ⟨rfl, by omega, by omega, next g3.symm⟩
      · conv => whnf
        have h5 := find_here (p := fun (c : Nat) => fitsTo up a b u c N) h1 h4 h3 (by rw [show ((c.toNat : Nat) : Int) = c by omega]; exact g3.symm)
        exact hK _ (by simp only [bound, h5]; omega)
    · have hd := of_decide_eq_true hd
      cases f
      · conv => whnf
        refine ⟨by kernel_rfl, (N - (c + 1)).toNat, by omega, _, ?_, rfl⟩
        rw [wrap_i64 (by omega)]
        exact ⟨rfl, by omega, by omega, next (fitsTo_le (by omega) g3.symm)⟩
      · conv => whnf
        refine l01Side.ac _ _ _ _ _ (by omega) (by omega) fun rs1 s1 => ?_
        conv => whnf
        cases rs1
        · conv => whnf
          refine ⟨by kernel_rfl, (N - (d + 1)).toNat, by omega, _, _, ?_, rfl⟩
          rw [wrap_i64 (by omega)]
          exact ⟨rfl, by omega, by omega, by rw [fitsTo_succ g1, ← g3, s1]; rfl⟩
        · conv => whnf
          refine l01Side.ac _ _ _ _ _ (by omega) (by omega) fun rs2 s2 => ?_
          conv => whnf
          cases rs2
          · conv => whnf
            refine ⟨by kernel_rfl, (N - (d + 1)).toNat, by omega, _, _, ?_, rfl⟩
            rw [wrap_i64 (by omega)]
            exact ⟨rfl, by omega, by omega, by rw [fitsTo_succ g1, ← g3, s1, s2]; rfl⟩
          · conv => whnf
            refine l01Side.ac _ _ _ _ _ (by omega) (by omega) fun rs3 s3 => ?_
            conv => whnf
            cases rs3
            · conv => whnf
              refine ⟨by kernel_rfl, (N - (d + 1)).toNat, by omega, _, _, ?_, rfl⟩
              rw [wrap_i64 (by omega)]
              exact ⟨rfl, by omega, by omega, by rw [fitsTo_succ g1, ← g3, s1, s2, s3]; rfl⟩
            · conv => whnf
              refine ⟨by kernel_rfl, (N - (d + 1)).toNat, by omega, _, _, ?_, rfl⟩
              rw [wrap_i64 (by omega)]
              exact ⟨rfl, by omega, by omega, by rw [fitsTo_succ g1, ← g3, s1, s2, s3]; rfl⟩
end Go.Eng.T
