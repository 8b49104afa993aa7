import Derived.Test.YtajekdeommaceaaXL4
namespace Go.Eng.T
open Go.Proofs Go.Eng
set_option maxRecDepth 100000
set_option maxHeartbeats 0

abbrev upO (up : List Int) : Obj := .arr true 1 (up.map uv)
abbrev latW (N : Int) (up : List Int) : V := .agg [iv N, .ls (0, 0) 1 0 (up.map uv).length]
theorem map_get0 {α : Type} [Inhabited α] {f : α → V} {l : List α} {i : Int} (h : 0 ≤ i ∧ i < (l.map f).length) : (l.map f)[0 + i.toNat]? = some (f (l.getD i.toNat default)) := by
  rw [Nat.zero_add]; exact map_get h

theorem l01Side.acW (N : Int) (up : List Int) (a c : Int) (u : Bool) (ha : 0 ≤ a ∧ a < (up.map uv).length) (hc : 0 ≤ c ∧ c < (up.map uv).length) {K : V → List Obj → List Obj → Prop} (hK : ∀ r, side up a c u = r → K (bv r) [upO up] []) : AC Try.prog 90 [latW N up, iv a, iv c, bv u] [upO up] K := by
  refine ac_body (ann []) [((6, 0), true), ((0, 0), false)] hm htt Try.func90 rfl (by kernel_rfl) rfl rfl ?_
  conv => whnf
  refine vif_bool (fun h => ?_) (fun h => ?_)
  · subst h
    conv => whnf
    refine ⟨⟨rfl, ha⟩, ?_⟩
    conv => whnf
    refine ⟨rfl, _, map_get0 ha, ?_⟩
    conv => whnf
    refine l01Bit.ac _ _ fun r hr => ?_
    conv => whnf
    exact hK r hr
  · subst h
    conv => whnf
    refine ⟨⟨rfl, hc⟩, ?_⟩
    conv => whnf
    refine ⟨rfl, _, map_get0 hc, ?_⟩
    conv => whnf
    refine l01Bit.ac _ _ fun r hr => ?_
    conv => whnf
    exact hK r hr
theorem l01Bound.acW (N : Nat) (up : List Int) (a b : Int) (u : Bool) (hN : N ≤ 16) (hu : up.length = N) (ha : 0 ≤ a ∧ a < N) (hb : 0 ≤ b ∧ b < N) {K : V → List Obj → List Obj → Prop} (hK : ∀ r, bound N up a b u = r → K (iv r) [upO up] []) : AC Try.prog 49 [latW N up, iv a, iv b, bv u] [upO up] K := by
  have hl : (up.map uv).length = N := by rw [List.length_map, hu]
  refine ac_body (ann [(2, [1, 2, 3, 4, 9], [(6, 0), (0, 0)]), (6, [1, 2, 3, 4, 9, 10, 11], [(6, 0), (0, 0)])]) [((6, 0), true), ((0, 0), false)] hm htt Try.func49 rfl (by kernel_rfl) rfl rfl ?_
  conv => whnf
  refine cwF_loop (fun n st => ∃ c : Int, (n = (N - c).toNat ∧ 0 ≤ c ∧ c ≤ N ∧ (List.range c.toNat).find? (fun (c : Nat) => fitsTo up a b u c N) = none) ∧
    st = ⟨[.un, iv a, iv b, bv u, .lp (6, 0) 2 0 0, .un, .un, .un, .un, iv c] ++ List.replicate 51 .un, mkOb [((6, 0), some (.arr false 2 [latW N up])), ((0, 0), some (upO up))]⟩) N (by kernel_rfl) ⟨_, ?_, rfl⟩ ?_
  · exact ⟨by simp, by omega, by omega, by simp⟩
  rintro n st ⟨c, ⟨rfl, h1, h2, h3⟩, rfl⟩
  conv => whnf
  refine vif_dec (fun h4 => ?_) (fun h4 => ?_)
  case refine_2.refine_2 =>
    conv => whnf
    have e : c = N := by omega
    subst e
    rw [Int.toNat_natCast] at h3
    exact hK _ (by simp only [bound, h3])
  conv => whnf
  refine l01Side.acW _ _ _ _ _ (by omega) (by omega) fun rhs hs => ?_
  conv => whnf
  have h5 : ∀ f, f = fitsTo up a b u c 0 → True := fun _ _ => trivial
  cases rhs
  rotate_left
  · conv => whnf
    refine l01Side.acW _ _ _ _ _ (by omega) (by omega) fun rhs2 hs2 => ?_
    conv => whnf
    refine cwF_loop (fun n st => ∃ (d : Int) (f : Bool), (n = (N - d).toNat ∧ 0 ≤ d ∧ d ≤ N ∧ f = fitsTo up a b u c d.toNat) ∧
      st = ⟨[.un, iv a, iv b, bv u, .lp (6, 0) 2 0 0, .un, .un, .un, .un, iv c, bv f, iv d] ++ List.replicate 49 .un, mkOb [((6, 0), some (.arr false 2 [latW N up])), ((0, 0), some (upO up))]⟩) N (by kernel_rfl) ⟨_, _, ?_, rfl⟩ ?_
    · exact ⟨by simp, by omega, by omega, by simp [fitsTo, hs, hs2]⟩
    rintro n st ⟨d, f, ⟨rfl, g1, g2, g3⟩, rfl⟩
    conv => whnf
    have next : fitsTo up a b u c N = false → (List.range (c + 1).toNat).find? (fun (c : Nat) => fitsTo up a b u c N) = none := fun h => find_next h1 h3 (by rw [show ((c.toNat : Nat) : Int) = c by omega]; exact h)
    cases hd : decide (d < (N : Int))
    · have e : d = N := by have := of_decide_eq_false hd; omega
      subst e
      rw [Int.toNat_natCast] at g3
      cases f
      · conv => whnf
        refine ⟨by kernel_rfl, (N - (c + 1)).toNat, by omega, _, ?_, rfl⟩
        rw [wrap_i64 (by omega)]
        exact ⟨rfl, by omega, by omega, next g3.symm⟩
      · conv => whnf
        have h5 := find_here (p := fun (c : Nat) => fitsTo up a b u c N) h1 h4 h3 (by rw [show ((c.toNat : Nat) : Int) = c by omega]; exact g3.symm)
        exact hK _ (by simp only [bound, h5]; omega)
    · have hd := of_decide_eq_true hd
      cases f
      · conv => whnf
        refine ⟨by kernel_rfl, (N - (c + 1)).toNat, by omega, _, ?_, rfl⟩
        rw [wrap_i64 (by omega)]
        exact ⟨rfl, by omega, by omega, next (fitsTo_le (by omega) g3.symm)⟩
      · conv => whnf
        refine l01Side.acW _ _ _ _ _ (by omega) (by omega) fun rs1 s1 => ?_
        conv => whnf
        cases rs1
        · conv => whnf
          refine ⟨by kernel_rfl, (N - (d + 1)).toNat, by omega, _, _, ?_, rfl⟩
          rw [wrap_i64 (by omega)]
          exact ⟨rfl, by omega, by omega, by rw [fitsTo_succ g1, ← g3, s1]; rfl⟩
        · conv => whnf
          refine l01Side.acW _ _ _ _ _ (by omega) (by omega) fun rs2 s2 => ?_
          conv => whnf
          cases rs2
          · conv => whnf
            refine ⟨by kernel_rfl, (N - (d + 1)).toNat, by omega, _, _, ?_, rfl⟩
            rw [wrap_i64 (by omega)]
            exact ⟨rfl, by omega, by omega, by rw [fitsTo_succ g1, ← g3, s1, s2]; rfl⟩
          · conv => whnf
            refine l01Side.acW _ _ _ _ _ (by omega) (by omega) fun rs3 s3 => ?_
            conv => whnf
            cases rs3
            · conv => whnf
              refine ⟨by kernel_rfl, (N - (d + 1)).toNat, by omega, _, _, ?_, rfl⟩
              rw [wrap_i64 (by omega)]
              exact ⟨rfl, by omega, by omega, by rw [fitsTo_succ g1, ← g3, s1, s2, s3]; rfl⟩
            · conv => whnf
              refine ⟨by kernel_rfl, (N - (d + 1)).toNat, by omega, _, _, ?_, rfl⟩
              rw [wrap_i64 (by omega)]
              exact ⟨rfl, by omega, by omega, by rw [fitsTo_succ g1, ← g3, s1, s2, s3]; rfl⟩
  · conv => whnf
    have hs2 : true = true := rfl
    refine cwF_loop (fun n st => ∃ (d : Int) (f : Bool), (n = (N - d).toNat ∧ 0 ≤ d ∧ d ≤ N ∧ f = fitsTo up a b u c d.toNat) ∧
      st = ⟨[.un, iv a, iv b, bv u, .lp (6, 0) 2 0 0, .un, .un, .un, .un, iv c, bv f, iv d] ++ List.replicate 49 .un, mkOb [((6, 0), some (.arr false 2 [latW N up])), ((0, 0), some (upO up))]⟩) N (by kernel_rfl) ⟨_, _, ?_, rfl⟩ ?_
    · exact ⟨by simp, by omega, by omega, by simp [fitsTo, hs, hs2]⟩
    rintro n st ⟨d, f, ⟨rfl, g1, g2, g3⟩, rfl⟩
    conv => whnf
    have next : fitsTo up a b u c N = false → (List.range (c + 1).toNat).find? (fun (c : Nat) => fitsTo up a b u c N) = none := fun h => find_next h1 h3 (by rw [show ((c.toNat : Nat) : Int) = c by omega]; exact h)
    cases hd : decide (d < (N : Int))
    · have e : d = N := by have := of_decide_eq_false hd; omega
      subst e
      rw [Int.toNat_natCast] at g3
      cases f
      · conv => whnf
        refine ⟨by kernel_rfl, (N - (c + 1)).toNat, by omega, _, ?_, rfl⟩
        rw [wrap_i64 (by omega)]
        exact ⟨rfl, by omega, by omega, next g3.symm⟩
      · conv => whnf
        have h5 := find_here (p := fun (c : Nat) => fitsTo up a b u c N) h1 h4 h3 (by rw [show ((c.toNat : Nat) : Int) = c by omega]; exact g3.symm)
        exact hK _ (by simp only [bound, h5]; omega)
    · have hd := of_decide_eq_true hd
      cases f
      · conv => whnf
        refine ⟨by kernel_rfl, (N - (c + 1)).toNat, by omega, _, ?_, rfl⟩
        rw [wrap_i64 (by omega)]
        exact ⟨rfl, by omega, by omega, next (fitsTo_le (by omega) g3.symm)⟩
      · conv => whnf
        refine l01Side.acW _ _ _ _ _ (by omega) (by omega) fun rs1 s1 => ?_
        conv => whnf
        cases rs1
        · conv => whnf
          refine ⟨by kernel_rfl, (N - (d + 1)).toNat, by omega, _, _, ?_, rfl⟩
          rw [wrap_i64 (by omega)]
          exact ⟨rfl, by omega, by omega, by rw [fitsTo_succ g1, ← g3, s1]; rfl⟩
        · conv => whnf
          refine l01Side.acW _ _ _ _ _ (by omega) (by omega) fun rs2 s2 => ?_
          conv => whnf
          cases rs2
          · conv => whnf
            refine ⟨by kernel_rfl, (N - (d + 1)).toNat, by omega, _, _, ?_, rfl⟩
            rw [wrap_i64 (by omega)]
            exact ⟨rfl, by omega, by omega, by rw [fitsTo_succ g1, ← g3, s1, s2]; rfl⟩
          · conv => whnf
            refine l01Side.acW _ _ _ _ _ (by omega) (by omega) fun rs3 s3 => ?_
            conv => whnf
            cases rs3
            · conv => whnf
              refine ⟨by kernel_rfl, (N - (d + 1)).toNat, by omega, _, _, ?_, rfl⟩
              rw [wrap_i64 (by omega)]
              exact ⟨rfl, by omega, by omega, by rw [fitsTo_succ g1, ← g3, s1, s2, s3]; rfl⟩
            · conv => whnf
              refine ⟨by kernel_rfl, (N - (d + 1)).toNat, by omega, _, _, ?_, rfl⟩
              rw [wrap_i64 (by omega)]
              exact ⟨rfl, by omega, by omega, by rw [fitsTo_succ g1, ← g3, s1, s2, s3]; rfl⟩
theorem LatOkS.acW (N : Int) (up : List Int) {K : V → List Obj → List Obj → Prop} (hK : ∀ r, (r = true ↔ LatP N up) → K (bv r) [upO up] []) : AC Try.prog 12 [latW N up] [upO up] K := by
  refine ac_body (ann [(4, [1, 3], [(3, 0), (0, 0)]), (9, [1, 3, 4], [(3, 0), (0, 0)]), (14, [1, 3, 4, 5], [(3, 0), (0, 0)]), (19, [1, 6], [(3, 0), (0, 0)]), (22, [1, 6, 7], [(3, 0), (0, 0)])]) [((3, 0), true), ((0, 0), false)] hm htt Try.func12 rfl (by kernel_rfl) rfl rfl ?_
  have no : ¬ LatP N up → K (bv false) [upO up] [] := fun h => hK _ ⟨fun h1 => (nomatch h1), fun h1 => absurd h1 h⟩
  conv => whnf
  by_cases q1 : N < 1
  · rw [decide_eq_true q1]
    conv => whnf
    exact no fun h => by have := h.1; omega
  rw [decide_eq_false q1]
  conv => whnf
  by_cases q2 : N > 16
  · rw [decide_eq_true q2]
    conv => whnf
    exact no fun h => by have := h.2.1; omega
  rw [decide_eq_false q2]
  conv => whnf
  refine vif_bool (fun q3 => ?_) (fun q3 => ?_)
  · conv => whnf
    exact no fun h => by have := h.2.2.1; simp at q3; omega
  conv => whnf
  simp only [List.length_map, bne_eq_false_iff_eq] at q3
  obtain ⟨M, rfl⟩ : ∃ M : Nat, N = M := ⟨N.toNat, by omega⟩
  have hl : (up.map uv).length = M := by rw [List.length_map]; omega
  refine cwF_loop (fun n st => ∃ a : Int, (n = (M - a).toNat ∧ 0 ≤ a ∧ a ≤ M ∧ ∀ a' : Int, 0 ≤ a' → a' < a → RowA M up a') ∧
    st = ⟨[.un, .lp (3, 0) 2 0 0, .un, iv a] ++ List.replicate 127 .un, mkOb [((3, 0), some (.arr false 2 [latW M up])), ((0, 0), some (upO up))]⟩) M (by kernel_rfl) ⟨_, ?_, rfl⟩ ?_
  · exact ⟨by simp, by omega, by omega, fun a' _ _ => by omega⟩
  rintro n st ⟨a, ⟨rfl, a1, a2, a3⟩, rfl⟩
  conv => whnf
  refine vif_dec (fun a4 => ?_) (fun a4 => ?_)
  · conv => whnf
    refine ⟨⟨rfl, by omega, by omega⟩, ?_⟩
    conv => whnf
    refine ⟨rfl, _, map_get0 (by omega), ?_⟩
    conv => whnf
    refine ⟨by kernel_rfl, ?_⟩
    conv => whnf
    refine l01Bit.ac _ _ fun w1 r1 => ?_
    conv => whnf
    cases w1
    · conv => whnf
      refine ⟨by kernel_rfl, ?_⟩
      conv => whnf
      refine ⟨by kernel_rfl, ?_⟩
      conv => whnf
      exact no fun h => by have := (h.2.2.2.1 a (by omega) (by omega)).1; rw [this] at r1; cases r1
    conv => whnf
    refine ⟨⟨rfl, by omega, by omega⟩, ?_⟩
    conv => whnf
    refine ⟨rfl, _, map_get0 (by omega), ?_⟩
    conv => whnf
    refine ⟨by kernel_rfl, ?_⟩
    conv => whnf
    refine l01Power.ac _ (by omega) ?_
    conv => whnf
    refine ⟨by kernel_rfl, ?_⟩
    conv => whnf
    refine vif_dec (fun r3 => ?_) (fun r3 => ?_)
    · conv => whnf
      exact no fun h => by have := (h.2.2.2.1 a (by omega) (by omega)).2.1; omega
    conv => whnf
    have r3 : up.getD a.toNat default < 2 ^ M := by rw [Int.toNat_natCast] at r3; omega
    refine cwF_loop (fun n st => ∃ b : Int, (n = (M - b).toNat ∧ 0 ≤ b ∧ b ≤ M ∧ ∀ b' : Int, 0 ≤ b' → b' < b → RowB M up a b') ∧
      st = ⟨[.un, .lp (3, 0) 2 0 0, .un, iv a, iv b] ++ List.replicate 126 .un, mkOb [((3, 0), some (.arr false 2 [latW M up])), ((0, 0), some (upO up))]⟩) M (by kernel_rfl) ⟨_, ?_, rfl⟩ ?_
    · exact ⟨by simp, by omega, by omega, fun c' _ _ => by omega⟩
    rintro n st ⟨b, ⟨rfl, b1, b2, b3⟩, rfl⟩
    conv => whnf
    refine vif_dec (fun b4 => ?_) (fun b4 => ?_)
    · conv => whnf
      rcases (Bool.eq_false_or_eq_true (a != b)).symm with hne | hne
      all_goals rw [hne]
      · conv => whnf
        have nb : ¬ (a ≠ b ∧ bit (up.getD a.toNat default) b = true ∧ bit (up.getD b.toNat default) a = true) := fun w => by simp at hne; exact w.1 hne
        refine cwF_loop (fun n st => ∃ c : Int, (n = (M - c).toNat ∧ 0 ≤ c ∧ c ≤ M ∧ ∀ c' : Int, 0 ≤ c' → c' < c → bit (up.getD a.toNat default) b = true → bit (up.getD b.toNat default) c' = true → bit (up.getD a.toNat default) c' = true) ∧
          st = ⟨[.un, .lp (3, 0) 2 0 0, .un, iv a, iv b, iv c] ++ List.replicate 125 .un, mkOb [((3, 0), some (.arr false 2 [latW M up])), ((0, 0), some (upO up))]⟩) M (by kernel_rfl) ⟨_, ?_, rfl⟩ ?_
        · exact ⟨by simp, by omega, by omega, fun c' _ _ => by omega⟩
        rintro n st ⟨c, ⟨rfl, c1, c2, c3⟩, rfl⟩
        conv => whnf
        refine vif_dec (fun c4 => ?_) (fun c4 => ?_)
        · conv => whnf
          refine ⟨⟨rfl, by omega, by omega⟩, ?_⟩
          conv => whnf
          refine ⟨rfl, _, map_get0 (by omega), ?_⟩
          conv => whnf
          refine l01Bit.ac _ _ fun u1 t1 => ?_
          conv => whnf
          cases u1
          · conv => whnf
            refine ⟨by kernel_rfl, (M - (c + 1)).toNat, by omega, _, ?_, rfl⟩
            rw [wrap_i64 (by omega)]
            refine ⟨rfl, by omega, by omega, fun c' k1 k2 => ?_⟩
            rcases (by omega : c' < c ∨ c' = c) with k3 | rfl
            · exact c3 c' k1 k3
            · exact fun w => by rw [w] at t1; cases t1
          · conv => whnf
            refine ⟨⟨rfl, by omega, by omega⟩, ?_⟩
            conv => whnf
            refine ⟨rfl, _, map_get0 (by omega), ?_⟩
            conv => whnf
            refine l01Bit.ac _ _ fun u2 t2 => ?_
            conv => whnf
            cases u2
            · conv => whnf
              refine ⟨by kernel_rfl, (M - (c + 1)).toNat, by omega, _, ?_, rfl⟩
              rw [wrap_i64 (by omega)]
              refine ⟨rfl, by omega, by omega, fun c' k1 k2 => ?_⟩
              rcases (by omega : c' < c ∨ c' = c) with k3 | rfl
              · exact c3 c' k1 k3
              · exact fun _ w => by rw [w] at t2; cases t2
            · conv => whnf
              refine ⟨⟨rfl, by omega, by omega⟩, ?_⟩
              conv => whnf
              refine ⟨rfl, _, map_get0 (by omega), ?_⟩
              conv => whnf
              refine l01Bit.ac _ _ fun u3 t3 => ?_
              conv => whnf
              cases u3
              · conv => whnf
                exact no fun h => by
                  have := ((h.2.2.2.1 a (by omega) (by omega)).2.2 b (by omega) (by omega)).2 c (by omega) (by omega) t1 t2
                  rw [this] at t3; cases t3
              · conv => whnf
                refine ⟨by kernel_rfl, (M - (c + 1)).toNat, by omega, _, ?_, rfl⟩
                rw [wrap_i64 (by omega)]
                refine ⟨rfl, by omega, by omega, fun c' k1 k2 => ?_⟩
                rcases (by omega : c' < c ∨ c' = c) with k3 | rfl
                · exact c3 c' k1 k3
                · exact fun _ _ => t3
        · conv => whnf
          have eC : c = M := by omega
          subst eC
          refine ⟨by kernel_rfl, (M - (b + 1)).toNat, by omega, _, ?_, rfl⟩
          rw [wrap_i64 (by omega)]
          refine ⟨rfl, by omega, by omega, fun b' k1 k2 => ?_⟩
          rcases (by omega : b' < b ∨ b' = b) with k3 | rfl
          · exact b3 b' k1 k3
          · exact ⟨nb, fun c' m1 m2 => c3 c' m1 m2⟩
      · conv => whnf
        refine ⟨⟨rfl, by omega, by omega⟩, ?_⟩
        conv => whnf
        refine ⟨rfl, _, map_get0 (by omega), ?_⟩
        conv => whnf
        refine l01Bit.ac _ _ fun v1 s1 => ?_
        conv => whnf
        cases v1
        · conv => whnf
          have nb : ¬ (a ≠ b ∧ bit (up.getD a.toNat default) b = true ∧ bit (up.getD b.toNat default) a = true) := fun w => by rw [w.2.1] at s1; cases s1
          refine cwF_loop (fun n st => ∃ c : Int, (n = (M - c).toNat ∧ 0 ≤ c ∧ c ≤ M ∧ ∀ c' : Int, 0 ≤ c' → c' < c → bit (up.getD a.toNat default) b = true → bit (up.getD b.toNat default) c' = true → bit (up.getD a.toNat default) c' = true) ∧
            st = ⟨[.un, .lp (3, 0) 2 0 0, .un, iv a, iv b, iv c] ++ List.replicate 125 .un, mkOb [((3, 0), some (.arr false 2 [latW M up])), ((0, 0), some (upO up))]⟩) M (by kernel_rfl) ⟨_, ?_, rfl⟩ ?_
          · exact ⟨by simp, by omega, by omega, fun c' _ _ => by omega⟩
          rintro n st ⟨c, ⟨rfl, c1, c2, c3⟩, rfl⟩
          conv => whnf
          refine vif_dec (fun c4 => ?_) (fun c4 => ?_)
          · conv => whnf
            refine ⟨⟨rfl, by omega, by omega⟩, ?_⟩
            conv => whnf
            refine ⟨rfl, _, map_get0 (by omega), ?_⟩
            conv => whnf
            refine l01Bit.ac _ _ fun u1 t1 => ?_
            conv => whnf
            cases u1
            · conv => whnf
              refine ⟨by kernel_rfl, (M - (c + 1)).toNat, by omega, _, ?_, rfl⟩
              rw [wrap_i64 (by omega)]
              refine ⟨rfl, by omega, by omega, fun c' k1 k2 => ?_⟩
              rcases (by omega : c' < c ∨ c' = c) with k3 | rfl
              · exact c3 c' k1 k3
              · exact fun w => by rw [w] at t1; cases t1
            · conv => whnf
              refine ⟨⟨rfl, by omega, by omega⟩, ?_⟩
              conv => whnf
              refine ⟨rfl, _, map_get0 (by omega), ?_⟩
              conv => whnf
              refine l01Bit.ac _ _ fun u2 t2 => ?_
              conv => whnf
              cases u2
              · conv => whnf
                refine ⟨by kernel_rfl, (M - (c + 1)).toNat, by omega, _, ?_, rfl⟩
                rw [wrap_i64 (by omega)]
                refine ⟨rfl, by omega, by omega, fun c' k1 k2 => ?_⟩
                rcases (by omega : c' < c ∨ c' = c) with k3 | rfl
                · exact c3 c' k1 k3
                · exact fun _ w => by rw [w] at t2; cases t2
              · conv => whnf
                refine ⟨⟨rfl, by omega, by omega⟩, ?_⟩
                conv => whnf
                refine ⟨rfl, _, map_get0 (by omega), ?_⟩
                conv => whnf
                refine l01Bit.ac _ _ fun u3 t3 => ?_
                conv => whnf
                cases u3
                · conv => whnf
                  exact no fun h => by
                    have := ((h.2.2.2.1 a (by omega) (by omega)).2.2 b (by omega) (by omega)).2 c (by omega) (by omega) t1 t2
                    rw [this] at t3; cases t3
                · conv => whnf
                  refine ⟨by kernel_rfl, (M - (c + 1)).toNat, by omega, _, ?_, rfl⟩
                  rw [wrap_i64 (by omega)]
                  refine ⟨rfl, by omega, by omega, fun c' k1 k2 => ?_⟩
                  rcases (by omega : c' < c ∨ c' = c) with k3 | rfl
                  · exact c3 c' k1 k3
                  · exact fun _ _ => t3
          · conv => whnf
            have eC : c = M := by omega
            subst eC
            refine ⟨by kernel_rfl, (M - (b + 1)).toNat, by omega, _, ?_, rfl⟩
            rw [wrap_i64 (by omega)]
            refine ⟨rfl, by omega, by omega, fun b' k1 k2 => ?_⟩
            rcases (by omega : b' < b ∨ b' = b) with k3 | rfl
            · exact b3 b' k1 k3
            · exact ⟨nb, fun c' m1 m2 => c3 c' m1 m2⟩
        · conv => whnf
          refine ⟨⟨rfl, by omega, by omega⟩, ?_⟩
          conv => whnf
          refine ⟨rfl, _, map_get0 (by omega), ?_⟩
          conv => whnf
          refine l01Bit.ac _ _ fun v2 s2 => ?_
          conv => whnf
          cases v2
          · conv => whnf
            have nb : ¬ (a ≠ b ∧ bit (up.getD a.toNat default) b = true ∧ bit (up.getD b.toNat default) a = true) := fun w => by rw [w.2.2] at s2; cases s2
            refine cwF_loop (fun n st => ∃ c : Int, (n = (M - c).toNat ∧ 0 ≤ c ∧ c ≤ M ∧ ∀ c' : Int, 0 ≤ c' → c' < c → bit (up.getD a.toNat default) b = true → bit (up.getD b.toNat default) c' = true → bit (up.getD a.toNat default) c' = true) ∧
              st = ⟨[.un, .lp (3, 0) 2 0 0, .un, iv a, iv b, iv c] ++ List.replicate 125 .un, mkOb [((3, 0), some (.arr false 2 [latW M up])), ((0, 0), some (upO up))]⟩) M (by kernel_rfl) ⟨_, ?_, rfl⟩ ?_
            · exact ⟨by simp, by omega, by omega, fun c' _ _ => by omega⟩
            rintro n st ⟨c, ⟨rfl, c1, c2, c3⟩, rfl⟩
            conv => whnf
            refine vif_dec (fun c4 => ?_) (fun c4 => ?_)
            · conv => whnf
              refine ⟨⟨rfl, by omega, by omega⟩, ?_⟩
              conv => whnf
              refine ⟨rfl, _, map_get0 (by omega), ?_⟩
              conv => whnf
              refine l01Bit.ac _ _ fun u1 t1 => ?_
              conv => whnf
              cases u1
              · conv => whnf
                refine ⟨by kernel_rfl, (M - (c + 1)).toNat, by omega, _, ?_, rfl⟩
                rw [wrap_i64 (by omega)]
                refine ⟨rfl, by omega, by omega, fun c' k1 k2 => ?_⟩
                rcases (by omega : c' < c ∨ c' = c) with k3 | rfl
                · exact c3 c' k1 k3
                · exact fun w => by rw [w] at t1; cases t1
              · conv => whnf
                refine ⟨⟨rfl, by omega, by omega⟩, ?_⟩
                conv => whnf
                refine ⟨rfl, _, map_get0 (by omega), ?_⟩
                conv => whnf
                refine l01Bit.ac _ _ fun u2 t2 => ?_
                conv => whnf
                cases u2
                · conv => whnf
                  refine ⟨by kernel_rfl, (M - (c + 1)).toNat, by omega, _, ?_, rfl⟩
                  rw [wrap_i64 (by omega)]
                  refine ⟨rfl, by omega, by omega, fun c' k1 k2 => ?_⟩
                  rcases (by omega : c' < c ∨ c' = c) with k3 | rfl
                  · exact c3 c' k1 k3
                  · exact fun _ w => by rw [w] at t2; cases t2
                · conv => whnf
                  refine ⟨⟨rfl, by omega, by omega⟩, ?_⟩
                  conv => whnf
                  refine ⟨rfl, _, map_get0 (by omega), ?_⟩
                  conv => whnf
                  refine l01Bit.ac _ _ fun u3 t3 => ?_
                  conv => whnf
                  cases u3
                  · conv => whnf
                    exact no fun h => by
                      have := ((h.2.2.2.1 a (by omega) (by omega)).2.2 b (by omega) (by omega)).2 c (by omega) (by omega) t1 t2
                      rw [this] at t3; cases t3
                  · conv => whnf
                    refine ⟨by kernel_rfl, (M - (c + 1)).toNat, by omega, _, ?_, rfl⟩
                    rw [wrap_i64 (by omega)]
                    refine ⟨rfl, by omega, by omega, fun c' k1 k2 => ?_⟩
                    rcases (by omega : c' < c ∨ c' = c) with k3 | rfl
                    · exact c3 c' k1 k3
                    · exact fun _ _ => t3
            · conv => whnf
              have eC : c = M := by omega
              subst eC
              refine ⟨by kernel_rfl, (M - (b + 1)).toNat, by omega, _, ?_, rfl⟩
              rw [wrap_i64 (by omega)]
              refine ⟨rfl, by omega, by omega, fun b' k1 k2 => ?_⟩
              rcases (by omega : b' < b ∨ b' = b) with k3 | rfl
              · exact b3 b' k1 k3
              · exact ⟨nb, fun c' m1 m2 => c3 c' m1 m2⟩
          · conv => whnf
            exact no fun h => ((h.2.2.2.1 a (by omega) (by omega)).2.2 b (by omega) (by omega)).1 ⟨by simpa using hne, s1, s2⟩
    · conv => whnf
      have eB : b = M := by omega
      subst eB
      refine ⟨by kernel_rfl, (M - (a + 1)).toNat, by omega, _, ?_, rfl⟩
      rw [wrap_i64 (by omega)]
      refine ⟨rfl, by omega, by omega, fun a' k1 k2 => ?_⟩
      rcases (by omega : a' < a ∨ a' = a) with k3 | rfl
      · exact a3 a' k1 k3
      · exact ⟨r1, r3, fun b' m1 m2 => b3 b' m1 m2⟩
  · conv => whnf
    have eA : a = M := by omega
    subst eA
    have rows := a3
    clear a3 a1 a2 a4
    refine cwF_loop (fun n st => ∃ a : Int, (n = (M - a).toNat ∧ 0 ≤ a ∧ a ≤ M ∧ ∀ a' b' : Int, 0 ≤ b' → b' < a' → a' < a → 0 ≤ bound M up a' b' true ∧ 0 ≤ bound M up a' b' false) ∧
      st = ⟨[.un, .lp (3, 0) 2 0 0, .un, .un, .un, .un, iv a] ++ List.replicate 124 .un, mkOb [((3, 0), some (.arr false 2 [latW M up])), ((0, 0), some (upO up))]⟩) M (by kernel_rfl) ⟨_, ?_, rfl⟩ ?_
    · exact ⟨by simp, by omega, by omega, fun c' _ _ => by omega⟩
    rintro n st ⟨a, ⟨rfl, a1, a2, a3⟩, rfl⟩
    conv => whnf
    refine vif_dec (fun a4 => ?_) (fun a4 => ?_)
    · conv => whnf
      refine cwF_loop (fun n st => ∃ b : Int, (n = (a - b).toNat ∧ 0 ≤ b ∧ b ≤ a ∧ ∀ b' : Int, 0 ≤ b' → b' < b → 0 ≤ bound M up a b' true ∧ 0 ≤ bound M up a b' false) ∧
        st = ⟨[.un, .lp (3, 0) 2 0 0, .un, .un, .un, .un, iv a, iv b] ++ List.replicate 123 .un, mkOb [((3, 0), some (.arr false 2 [latW M up])), ((0, 0), some (upO up))]⟩) a.toNat (by kernel_rfl) ⟨_, ?_, rfl⟩ ?_
      · exact ⟨by simp, by omega, by omega, fun c' _ _ => by omega⟩
      rintro n st ⟨b, ⟨rfl, b1, b2, b3⟩, rfl⟩
      conv => whnf
      refine vif_dec (fun b4 => ?_) (fun b4 => ?_)
      · conv => whnf
        refine l01Bound.acW _ _ _ _ _ (by omega) (by omega) (by omega) (by omega) fun r1 s1 => ?_
        conv => whnf
        by_cases p1 : r1 < 0
        · rw [decide_eq_true p1]
          conv => whnf
          exact no fun h => by have := (h.2.2.2.2 a b (by omega) (by omega) (by omega)).1; rw [Int.toNat_natCast, s1] at this; omega
        rw [decide_eq_false p1]
        conv => whnf
        refine l01Bound.acW _ _ _ _ _ (by omega) (by omega) (by omega) (by omega) fun r2 s2 => ?_
        conv => whnf
        refine vif_dec (fun p2 => ?_) (fun p2 => ?_)
        · conv => whnf
          exact no fun h => by have := (h.2.2.2.2 a b (by omega) (by omega) (by omega)).2; rw [Int.toNat_natCast, s2] at this; omega
        conv => whnf
        refine ⟨by kernel_rfl, (a - (b + 1)).toNat, by omega, _, ?_, rfl⟩
        rw [wrap_i64 (by omega)]
        refine ⟨rfl, by omega, by omega, fun b' k1 k2 => ?_⟩
        rcases (by omega : b' < b ∨ b' = b) with k3 | rfl
        · exact b3 b' k1 k3
        · exact ⟨by omega, by omega⟩
      · conv => whnf
        have eB : b = a := by omega
        subst eB
        refine ⟨by kernel_rfl, (M - (b + 1)).toNat, by omega, _, ?_, rfl⟩
        rw [wrap_i64 (by omega)]
        refine ⟨rfl, by omega, by omega, fun a' b' k1 k2 k3 => ?_⟩
        rcases (by omega : a' < b ∨ a' = b) with k4 | rfl
        · exact a3 a' b' k1 k2 k4
        · exact b3 b' k1 k2
    · conv => whnf
      have eA : a = M := by omega
      subst eA
      exact hK true ⟨fun _ => ⟨by omega, by omega, by omega, by rw [Int.toNat_natCast]; exact rows, by rw [Int.toNat_natCast]; exact a3⟩, fun _ => rfl⟩
end Go.Eng.T
