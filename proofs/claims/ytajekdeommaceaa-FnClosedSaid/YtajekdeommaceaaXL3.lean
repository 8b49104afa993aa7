import Derived.Test.YtajekdeommaceaaXL2
namespace Go.Eng.T
open Go.Proofs Go.Eng
set_option maxRecDepth 100000
set_option maxHeartbeats 0

def RowB (N : Nat) (up : List Int) (a b : Int) : Prop :=
  ¬ (a ≠ b ∧ bit (up.getD a.toNat default) b = true ∧ bit (up.getD b.toNat default) a = true) ∧ ∀ c : Int, 0 ≤ c → c < N → bit (up.getD a.toNat default) b = true → bit (up.getD b.toNat default) c = true → bit (up.getD a.toNat default) c = true
def RowA (N : Nat) (up : List Int) (a : Int) : Prop :=
  bit (up.getD a.toNat default) a = true ∧ up.getD a.toNat default < 2 ^ N ∧ ∀ b : Int, 0 ≤ b → b < N → RowB N up a b
def LatP (N : Int) (up : List Int) : Prop :=
  1 ≤ N ∧ N ≤ 16 ∧ (up.length : Int) = N ∧ (∀ a : Int, 0 ≤ a → a < N → RowA N.toNat up a) ∧
  ∀ a b : Int, 0 ≤ b → b < a → a < N → 0 ≤ bound N.toNat up a b true ∧ 0 ≤ bound N.toNat up a b false

theorem LatOkS.ac (N : Int) (up : List Int) {K : V → List Obj → List Obj → Prop} (hK : ∀ r, (r = true ↔ LatP N up) → K (bv r) [] []) : AC Try.prog 12 [latV N up] [] K := by
  refine ac_body (ann [(4, [1, 3], [(3, 0)]), (9, [1, 3, 4], [(3, 0)]), (14, [1, 3, 4, 5], [(3, 0)]), (19, [1, 6], [(3, 0)]), (22, [1, 6, 7], [(3, 0)])]) [((3, 0), true)] hm htt Try.func12 rfl (by kernel_rfl) rfl rfl ?_
  have no : ¬ LatP N up → K (bv false) [] [] := fun h => hK _ ⟨fun h1 => (nomatch h1), fun h1 => absurd h1 h⟩
  conv => whnf
  by_cases q1 : N < 1
  · rw [decide_eq_true q1]
    conv => whnf
    exact no fun h => by have := h.1; omega
  rw [decide_eq_false q1]
  conv => whnf
  by_cases q2 : N > 16
  · rw [decide_eq_true q2]
    conv => whnf
    exact no fun h => by have := h.2.1; omega
  rw [decide_eq_false q2]
  conv => whnf
  refine vif_bool (fun q3 => ?_) (fun q3 => ?_)
  · conv => whnf
    exact no fun h => by have := h.2.2.1; simp at q3; omega
  conv => whnf
  simp only [List.length_map, bne_eq_false_iff_eq] at q3
  obtain ⟨M, rfl⟩ : ∃ M : Nat, N = M := ⟨N.toNat, by omega⟩
  have hl : (up.map uv).length = M := by rw [List.length_map]; omega
  refine cwF_loop (fun n st => ∃ a : Int, (n = (M - a).toNat ∧ 0 ≤ a ∧ a ≤ M ∧ ∀ a' : Int, 0 ≤ a' → a' < a → RowA M up a') ∧
    st = ⟨[.un, .lp (3, 0) 2 0 0, .un, iv a] ++ List.replicate 127 .un, mkOb [((3, 0), some (.arr false 2 [latV M up]))]⟩) M (by kernel_rfl) ⟨_, ?_, rfl⟩ ?_
  · exact ⟨by simp, by omega, by omega, fun a' _ _ => by omega⟩
  rintro n st ⟨a, ⟨rfl, a1, a2, a3⟩, rfl⟩
  conv => whnf
  refine vif_dec (fun a4 => ?_) (fun a4 => ?_)
  · conv => whnf
    refine ⟨⟨rfl, by omega, by omega⟩, ?_⟩
    conv => whnf
    refine ⟨_, map_get (by omega), ?_⟩
    conv => whnf
    refine ⟨by kernel_rfl, ?_⟩
    conv => whnf
    refine l01Bit.ac _ _ fun w1 r1 => ?_
    conv => whnf
    cases w1
    · conv => whnf
      refine ⟨by kernel_rfl, ?_⟩
      conv => whnf
      refine ⟨by kernel_rfl, ?_⟩
      conv => whnf
      exact no fun h => by have := (h.2.2.2.1 a (by omega) (by omega)).1; rw [this] at r1; cases r1
    conv => whnf
    refine ⟨⟨rfl, by omega, by omega⟩, ?_⟩
    conv => whnf
    refine ⟨_, map_get (by omega), ?_⟩
    conv => whnf
    refine ⟨by kernel_rfl, ?_⟩
    conv => whnf
    refine l01Power.ac _ (by omega) ?_
    conv => whnf
    refine ⟨by kernel_rfl, ?_⟩
    conv => whnf
    refine vif_dec (fun r3 => ?_) (fun r3 => ?_)
    · conv => whnf
      exact no fun h => by have := (h.2.2.2.1 a (by omega) (by omega)).2.1; omega
    conv => whnf
    have r3 : up.getD a.toNat default < 2 ^ M := by rw [Int.toNat_natCast] at r3; omega
    refine cwF_loop (fun n st => ∃ b : Int, (n = (M - b).toNat ∧ 0 ≤ b ∧ b ≤ M ∧ ∀ b' : Int, 0 ≤ b' → b' < b → RowB M up a b') ∧
      st = ⟨[.un, .lp (3, 0) 2 0 0, .un, iv a, iv b] ++ List.replicate 126 .un, mkOb [((3, 0), some (.arr false 2 [latV M up]))]⟩) M (by kernel_rfl) ⟨_, ?_, rfl⟩ ?_
    · exact ⟨by simp, by omega, by omega, fun c' _ _ => by omega⟩
    rintro n st ⟨b, ⟨rfl, b1, b2, b3⟩, rfl⟩
    conv => whnf
    refine vif_dec (fun b4 => ?_) (fun b4 => ?_)
    · conv => whnf
      rcases (Bool.eq_false_or_eq_true (a != b)).symm with hne | hne
      all_goals rw [hne]
      · conv => whnf
        have nb : ¬ (a ≠ b ∧ bit (up.getD a.toNat default) b = true ∧ bit (up.getD b.toNat default) a = true) := fun w => by simp at hne; exact w.1 hne
        refine cwF_loop (fun n st => ∃ c : Int, (n = (M - c).toNat ∧ 0 ≤ c ∧ c ≤ M ∧ ∀ c' : Int, 0 ≤ c' → c' < c → bit (up.getD a.toNat default) b = true → bit (up.getD b.toNat default) c' = true → bit (up.getD a.toNat default) c' = true) ∧
          st = ⟨[.un, .lp (3, 0) 2 0 0, .un, iv a, iv b, iv c] ++ List.replicate 125 .un, mkOb [((3, 0), some (.arr false 2 [latV M up]))]⟩) M (by kernel_rfl) ⟨_, ?_, rfl⟩ ?_
        · exact ⟨by simp, by omega, by omega, fun c' _ _ => by omega⟩
        rintro n st ⟨c, ⟨rfl, c1, c2, c3⟩, rfl⟩
        conv => whnf
        refine vif_dec (fun c4 => ?_) (fun c4 => ?_)
        · conv => whnf
          refine ⟨⟨rfl, by omega, by omega⟩, ?_⟩
          conv => whnf
          refine ⟨_, map_get (by omega), ?_⟩
          conv => whnf
          refine l01Bit.ac _ _ fun u1 t1 => ?_
          conv => whnf
          cases u1
          · conv => whnf
            refine ⟨by kernel_rfl, (M - (c + 1)).toNat, by omega, _, ?_, rfl⟩
            rw [wrap_i64 (by omega)]
            refine ⟨rfl, by omega, by omega, fun c' k1 k2 => ?_⟩
            rcases (by omega : c' < c ∨ c' = c) with k3 | rfl
            · exact c3 c' k1 k3
            · exact fun w => by rw [w] at t1; cases t1
          · conv => whnf
            refine ⟨⟨rfl, by omega, by omega⟩, ?_⟩
            conv => whnf
            refine ⟨_, map_get (by omega), ?_⟩
            conv => whnf
            refine l01Bit.ac _ _ fun u2 t2 => ?_
            conv => whnf
            cases u2
            · conv => whnf
              refine ⟨by kernel_rfl, (M - (c + 1)).toNat, by omega, _, ?_, rfl⟩
              rw [wrap_i64 (by omega)]
              refine ⟨rfl, by omega, by omega, fun c' k1 k2 => ?_⟩
              rcases (by omega : c' < c ∨ c' = c) with k3 | rfl
              · exact c3 c' k1 k3
              · exact fun _ w => by rw [w] at t2; cases t2
            · conv => whnf
              refine ⟨⟨rfl, by omega, by omega⟩, ?_⟩
              conv => whnf
              refine ⟨_, map_get (by omega), ?_⟩
              conv => whnf
              refine l01Bit.ac _ _ fun u3 t3 => ?_
              conv => whnf
              cases u3
              · conv => whnf
                exact no fun h => by
                  have := ((h.2.2.2.1 a (by omega) (by omega)).2.2 b (by omega) (by omega)).2 c (by omega) (by omega) t1 t2
                  rw [this] at t3; cases t3
              · conv => whnf
                refine ⟨by kernel_rfl, (M - (c + 1)).toNat, by omega, _, ?_, rfl⟩
                rw [wrap_i64 (by omega)]
                refine ⟨rfl, by omega, by omega, fun c' k1 k2 => ?_⟩
                rcases (by omega : c' < c ∨ c' = c) with k3 | rfl
                · exact c3 c' k1 k3
                · exact fun _ _ => t3
        · conv => whnf
          have eC : c = M := by omega
          subst eC
          refine ⟨by kernel_rfl, (M - (b + 1)).toNat, by omega, _, ?_, rfl⟩
          rw [wrap_i64 (by omega)]
          refine ⟨rfl, by omega, by omega, fun b' k1 k2 => ?_⟩
          rcases (by omega : b' < b ∨ b' = b) with k3 | rfl
          · exact b3 b' k1 k3
          · exact ⟨nb, fun c' m1 m2 => c3 c' m1 m2⟩
      · conv => whnf
        refine ⟨⟨rfl, by omega, by omega⟩, ?_⟩
        conv => whnf
        refine ⟨_, map_get (by omega), ?_⟩
        conv => whnf
        refine l01Bit.ac _ _ fun v1 s1 => ?_
        conv => whnf
        cases v1
        · conv => whnf
          have nb : ¬ (a ≠ b ∧ bit (up.getD a.toNat default) b = true ∧ bit (up.getD b.toNat default) a = true) := fun w => by rw [w.2.1] at s1; cases s1
          refine cwF_loop (fun n st => ∃ c : Int, (n = (M - c).toNat ∧ 0 ≤ c ∧ c ≤ M ∧ ∀ c' : Int, 0 ≤ c' → c' < c → bit (up.getD a.toNat default) b = true → bit (up.getD b.toNat default) c' = true → bit (up.getD a.toNat default) c' = true) ∧
            st = ⟨[.un, .lp (3, 0) 2 0 0, .un, iv a, iv b, iv c] ++ List.replicate 125 .un, mkOb [((3, 0), some (.arr false 2 [latV M up]))]⟩) M (by kernel_rfl) ⟨_, ?_, rfl⟩ ?_
          · exact ⟨by simp, by omega, by omega, fun c' _ _ => by omega⟩
          rintro n st ⟨c, ⟨rfl, c1, c2, c3⟩, rfl⟩
          conv => whnf
          refine vif_dec (fun c4 => ?_) (fun c4 => ?_)
          · conv => whnf
            refine ⟨⟨rfl, by omega, by omega⟩, ?_⟩
            conv => whnf
            refine ⟨_, map_get (by omega), ?_⟩
            conv => whnf
            refine l01Bit.ac _ _ fun u1 t1 => ?_
            conv => whnf
            cases u1
            · conv => whnf
              refine ⟨by kernel_rfl, (M - (c + 1)).toNat, by omega, _, ?_, rfl⟩
              rw [wrap_i64 (by omega)]
              refine ⟨rfl, by omega, by omega, fun c' k1 k2 => ?_⟩
              rcases (by omega : c' < c ∨ c' = c) with k3 | rfl
              · exact c3 c' k1 k3
              · exact fun w => by rw [w] at t1; cases t1
            · conv => whnf
              refine ⟨⟨rfl, by omega, by omega⟩, ?_⟩
              conv => whnf
              refine ⟨_, map_get (by omega), ?_⟩
              conv => whnf
              refine l01Bit.ac _ _ fun u2 t2 => ?_
              conv => whnf
              cases u2
              · conv => whnf
                refine ⟨by kernel_rfl, (M - (c + 1)).toNat, by omega, _, ?_, rfl⟩
                rw [wrap_i64 (by omega)]
                refine ⟨rfl, by omega, by omega, fun c' k1 k2 => ?_⟩
                rcases (by omega : c' < c ∨ c' = c) with k3 | rfl
                · exact c3 c' k1 k3
                · exact fun _ w => by rw [w] at t2; cases t2
              · conv => whnf
                refine ⟨⟨rfl, by omega, by omega⟩, ?_⟩
                conv => whnf
                refine ⟨_, map_get (by omega), ?_⟩
                conv => whnf
                refine l01Bit.ac _ _ fun u3 t3 => ?_
                conv => whnf
                cases u3
                · conv => whnf
                  exact no fun h => by
                    have := ((h.2.2.2.1 a (by omega) (by omega)).2.2 b (by omega) (by omega)).2 c (by omega) (by omega) t1 t2
                    rw [this] at t3; cases t3
                · conv => whnf
                  refine ⟨by kernel_rfl, (M - (c + 1)).toNat, by omega, _, ?_, rfl⟩
                  rw [wrap_i64 (by omega)]
                  refine ⟨rfl, by omega, by omega, fun c' k1 k2 => ?_⟩
                  rcases (by omega : c' < c ∨ c' = c) with k3 | rfl
                  · exact c3 c' k1 k3
                  · exact fun _ _ => t3
          · conv => whnf
            have eC : c = M := by omega
            subst eC
            refine ⟨by kernel_rfl, (M - (b + 1)).toNat, by omega, _, ?_, rfl⟩
            rw [wrap_i64 (by omega)]
            refine ⟨rfl, by omega, by omega, fun b' k1 k2 => ?_⟩
            rcases (by omega : b' < b ∨ b' = b) with k3 | rfl
            · exact b3 b' k1 k3
            · exact ⟨nb, fun c' m1 m2 => c3 c' m1 m2⟩
        · conv => whnf
          refine ⟨⟨rfl, by omega, by omega⟩, ?_⟩
          conv => whnf
          refine ⟨_, map_get (by omega), ?_⟩
          conv => whnf
          refine l01Bit.ac _ _ fun v2 s2 => ?_
          conv => whnf
          cases v2
          · conv => whnf
            have nb : ¬ (a ≠ b ∧ bit (up.getD a.toNat default) b = true ∧ bit (up.getD b.toNat default) a = true) := fun w => by rw [w.2.2] at s2; cases s2
            refine cwF_loop (fun n st => ∃ c : Int, (n = (M - c).toNat ∧ 0 ≤ c ∧ c ≤ M ∧ ∀ c' : Int, 0 ≤ c' → c' < c → bit (up.getD a.toNat default) b = true → bit (up.getD b.toNat default) c' = true → bit (up.getD a.toNat default) c' = true) ∧
              st = ⟨[.un, .lp (3, 0) 2 0 0, .un, iv a, iv b, iv c] ++ List.replicate 125 .un, mkOb [((3, 0), some (.arr false 2 [latV M up]))]⟩) M (by kernel_rfl) ⟨_, ?_, rfl⟩ ?_
            · exact ⟨by simp, by omega, by omega, fun c' _ _ => by omega⟩
            rintro n st ⟨c, ⟨rfl, c1, c2, c3⟩, rfl⟩
            conv => whnf
            refine vif_dec (fun c4 => ?_) (fun c4 => ?_)
            · conv => whnf
              refine ⟨⟨rfl, by omega, by omega⟩, ?_⟩
              conv => whnf
              refine ⟨_, map_get (by omega), ?_⟩
              conv => whnf
              refine l01Bit.ac _ _ fun u1 t1 => ?_
              conv => whnf
              cases u1
              · conv => whnf
                refine ⟨by kernel_rfl, (M - (c + 1)).toNat, by omega, _, ?_, rfl⟩
                rw [wrap_i64 (by omega)]
                refine ⟨rfl, by omega, by omega, fun c' k1 k2 => ?_⟩
                rcases (by omega : c' < c ∨ c' = c) with k3 | rfl
                · exact c3 c' k1 k3
                · exact fun w => by rw [w] at t1; cases t1
              · conv => whnf
                refine ⟨⟨rfl, by omega, by omega⟩, ?_⟩
                conv => whnf
                refine ⟨_, map_get (by omega), ?_⟩
                conv => whnf
                refine l01Bit.ac _ _ fun u2 t2 => ?_
                conv => whnf
                cases u2
                · conv => whnf
                  refine ⟨by kernel_rfl, (M - (c + 1)).toNat, by omega, _, ?_, rfl⟩
                  rw [wrap_i64 (by omega)]
                  refine ⟨rfl, by omega, by omega, fun c' k1 k2 => ?_⟩
                  rcases (by omega : c' < c ∨ c' = c) with k3 | rfl
                  · exact c3 c' k1 k3
                  · exact fun _ w => by rw [w] at t2; cases t2
                · conv => whnf
                  refine ⟨⟨rfl, by omega, by omega⟩, ?_⟩
                  conv => whnf
                  refine ⟨_, map_get (by omega), ?_⟩
                  conv => whnf
                  refine l01Bit.ac _ _ fun u3 t3 => ?_
                  conv => whnf
                  cases u3
                  · conv => whnf
                    exact no fun h => by
                      have := ((h.2.2.2.1 a (by omega) (by omega)).2.2 b (by omega) (by omega)).2 c (by omega) (by omega) t1 t2
                      rw [this] at t3; cases t3
                  · conv => whnf
                    refine ⟨by kernel_rfl, (M - (c + 1)).toNat, by omega, _, ?_, rfl⟩
                    rw [wrap_i64 (by omega)]
                    refine ⟨rfl, by omega, by omega, fun c' k1 k2 => ?_⟩
                    rcases (by omega : c' < c ∨ c' = c) with k3 | rfl
                    · exact c3 c' k1 k3
                    · exact fun _ _ => t3
            · conv => whnf
              have eC : c = M := by omega
              subst eC
              refine ⟨by kernel_rfl, (M - (b + 1)).toNat, by omega, _, ?_, rfl⟩
              rw [wrap_i64 (by omega)]
              refine ⟨rfl, by omega, by omega, fun b' k1 k2 => ?_⟩
              rcases (by omega : b' < b ∨ b' = b) with k3 | rfl
              · exact b3 b' k1 k3
              · exact ⟨nb, fun c' m1 m2 => c3 c' m1 m2⟩
          · conv => whnf
            exact no fun h => ((h.2.2.2.1 a (by omega) (by omega)).2.2 b (by omega) (by omega)).1 ⟨by simpa using hne, s1, s2⟩
    · conv => whnf
      have eB : b = M := by omega
      subst eB
      refine ⟨by kernel_rfl, (M - (a + 1)).toNat, by omega, _, ?_, rfl⟩
      rw [wrap_i64 (by omega)]
      refine ⟨rfl, by omega, by omega, fun a' k1 k2 => ?_⟩
      rcases (by omega : a' < a ∨ a' = a) with k3 | rfl
      · exact a3 a' k1 k3
      · exact ⟨r1, r3, fun b' m1 m2 => b3 b' m1 m2⟩
  · conv => whnf
    have eA : a = M := by omega
    subst eA
    have rows := a3
    clear a3 a1 a2 a4
    refine cwF_loop (fun n st => ∃ a : Int, (n = (M - a).toNat ∧ 0 ≤ a ∧ a ≤ M ∧ ∀ a' b' : Int, 0 ≤ b' → b' < a' → a' < a → 0 ≤ bound M up a' b' true ∧ 0 ≤ bound M up a' b' false) ∧
      st = ⟨[.un, .lp (3, 0) 2 0 0, .un, .un, .un, .un, iv a] ++ List.replicate 124 .un, mkOb [((3, 0), some (.arr false 2 [latV M up]))]⟩) M (by kernel_rfl) ⟨_, ?_, rfl⟩ ?_
    · exact ⟨by simp, by omega, by omega, fun c' _ _ => by omega⟩
    rintro n st ⟨a, ⟨rfl, a1, a2, a3⟩, rfl⟩
    conv => whnf
    refine vif_dec (fun a4 => ?_) (fun a4 => ?_)
    · conv => whnf
      refine cwF_loop (fun n st => ∃ b : Int, (n = (a - b).toNat ∧ 0 ≤ b ∧ b ≤ a ∧ ∀ b' : Int, 0 ≤ b' → b' < b → 0 ≤ bound M up a b' true ∧ 0 ≤ bound M up a b' false) ∧
        st = ⟨[.un, .lp (3, 0) 2 0 0, .un, .un, .un, .un, iv a, iv b] ++ List.replicate 123 .un, mkOb [((3, 0), some (.arr false 2 [latV M up]))]⟩) a.toNat (by kernel_rfl) ⟨_, ?_, rfl⟩ ?_
      · exact ⟨by simp, by omega, by omega, fun c' _ _ => by omega⟩
      rintro n st ⟨b, ⟨rfl, b1, b2, b3⟩, rfl⟩
      conv => whnf
      refine vif_dec (fun b4 => ?_) (fun b4 => ?_)
      · conv => whnf
        refine l01Bound.ac _ _ _ _ _ (by omega) (by omega) (by omega) (by omega) fun r1 s1 => ?_
        conv => whnf
        by_cases p1 : r1 < 0
        · rw [decide_eq_true p1]
          conv => whnf
          exact no fun h => by have := (h.2.2.2.2 a b (by omega) (by omega) (by omega)).1; rw [Int.toNat_natCast, s1] at this; omega
        rw [decide_eq_false p1]
        conv => whnf
        refine l01Bound.ac _ _ _ _ _ (by omega) (by omega) (by omega) (by omega) fun r2 s2 => ?_
        conv => whnf
        refine vif_dec (fun p2 => ?_) (fun p2 => ?_)
        · conv => whnf
          exact no fun h => by have := (h.2.2.2.2 a b (by omega) (by omega) (by omega)).2; rw [Int.toNat_natCast, s2] at this; omega
        conv => whnf
        refine ⟨by kernel_rfl, (a - (b + 1)).toNat, by omega, _, ?_, rfl⟩
        rw [wrap_i64 (by omega)]
        refine ⟨rfl, by omega, by omega, fun b' k1 k2 => ?_⟩
        rcases (by omega : b' < b ∨ b' = b) with k3 | rfl
        · exact b3 b' k1 k3
        · exact ⟨by omega, by omega⟩
      · conv => whnf
        have eB : b = a := by omega
        subst eB
        refine ⟨by kernel_rfl, (M - (b + 1)).toNat, by omega, _, ?_, rfl⟩
        rw [wrap_i64 (by omega)]
        refine ⟨rfl, by omega, by omega, fun a' b' k1 k2 k3 => ?_⟩
        rcases (by omega : a' < b ∨ a' = b) with k4 | rfl
        · exact a3 a' b' k1 k2 k4
        · exact b3 b' k1 k2
    · conv => whnf
      have eA : a = M := by omega
      subst eA
      exact hK true ⟨fun _ => ⟨by omega, by omega, by omega, by rw [Int.toNat_natCast]; exact rows, by rw [Int.toNat_natCast]; exact a3⟩, fun _ => rfl⟩
end Go.Eng.T
