import Derived.Test.YtajekdeommaceaaXL5
namespace Go.Eng.T
open Go.Proofs Go.Eng
set_option maxRecDepth 100000
set_option maxHeartbeats 0

theorem in.ac (n a b : Int) {K : V → List Obj → List Obj → Prop} (hK : ∀ r, (r = true ↔ a ≤ n ∧ n ≤ b) → K (bv r) [] []) : AC Try.prog 50 [iv n, iv a, iv b] [] K := by
  refine ac_body (ann []) [] hm htt Try.func50 rfl (by kernel_rfl) rfl rfl ?_
  conv => whnf
  by_cases h : a ≤ n
  · rw [decide_eq_true h]
    conv => whnf
    exact hK _ (by simp [h])
  · rw [decide_eq_false h]
    conv => whnf
    exact hK _ (by simp [h])

def bitI (x : Int) (i : Int) : Bool := IntKind.u64.wrap ↑((fun x1 x2 => x1 &&& x2) (BitVec.ofInt IntKind.u64.bits (x.fdiv (2 ^ min i.toNat IntKind.u64.bits))) (BitVec.ofInt IntKind.u64.bits 1)).toNat == 1

theorem bitI_bit {x i : Int} (h : 0 ≤ i ∧ i ≤ 100) : bitI x i = bit x i := by
  unfold bitI bit
  rw [wrap_u64 (x := i) (by omega)]

theorem le.ac (N : Int) (up : List Int) (a b : Int) (ha : 0 ≤ a ∧ a < (up.map uv).length) (hb : 0 ≤ b ∧ b ≤ 100) {K : V → List Obj → List Obj → Prop} (hK : ∀ r, bit (up.getD a.toNat default) b = r → K (bv r) [] []) : AC Try.prog 46 [latV N up, iv a, iv b] [] K := by
  refine ac_body (ann []) [((5, 0), true)] hm htt Try.func46 rfl (by kernel_rfl) rfl rfl ?_
  conv => whnf
  refine ⟨⟨rfl, ha⟩, ?_⟩
  conv => whnf
  refine ⟨_, map_get ha, ?_⟩
  conv => whnf
  refine ⟨hb.1, ?_⟩
  conv => whnf
  exact hK _ (bitI_bit hb).symm

theorem has.ac (N : Int) (up : List Int) (a : Int) (hN : -1000 ≤ N ∧ N ≤ 9223372036854775807) {K : V → List Obj → List Obj → Prop} (hK : ∀ r, (r = true ↔ 0 ≤ a ∧ a < N) → K (bv r) [] []) : AC Try.prog 51 [latV N up, iv a] [] K := by
  refine ac_body (ann []) [((4, 0), true)] hm htt Try.func51 rfl (by kernel_rfl) rfl rfl ?_
  conv => whnf
  refine in.ac _ _ _ fun r hr => ?_
  conv => whnf
  rw [wrap_i64 (by omega)] at hr
  exact hK r (by rw [hr]; omega)

theorem once.ac (D : List Int) (k p s n : Int) (hk : k ≤ 1000000) (hc : CurI D k p s) {K : V → List Obj → List Obj → Prop} (hK : ∀ r p' s', CurI D (k + 1) p' s' → K (bv r) [cur D p' s'] []) : AC Try.prog 60 [.lp (0,0) 3 0 0, iv n] [cur D p s] K := by
  refine ac_body (ann []) [((0, 0), true)] hm htt Try.func60 rfl (by kernel_rfl) rfl rfl ?_
  conv => whnf
  refine cpick.ac D k p s n hk hc fun r p' s' hc' h1 h2 => ?_
  conv => whnf
  exact hK _ _ _ hc'

theorem raw.ac (D : List Int) (k p s : Int) (hk : k ≤ 900000) (hc : CurI D k p s) {K : V → List Obj → List Obj → Prop} (hK : ∀ r p' s', CurI D (k + 2) p' s' → -9223372036854775808 ≤ r → r ≤ 9223372036854775807 → K (iv r) [cur D p' s'] []) : AC Try.prog 61 [.lp (0,0) 3 0 0] [cur D p s] K := by
  refine ac_body (ann []) [((0, 0), true), ((14, 0), false)] hm htt Try.func61 rfl (by kernel_rfl) rfl rfl ?_
  conv => whnf
  refine cpick.ac D k p s 8 (by omega) hc fun r p' s' hc' h1 h2 => ?_
  conv => whnf
  have up : ∀ {p s}, CurI D (k + 1 + 1) p s → CurI D (k + 2) p s := fun h => by rw [show k + 2 = k + 1 + 1 by omega]; exact h
  refine vif_bool (fun q => ?_) (fun q => ?_)
  · conv => whnf
    refine cpick.ac D (k + 1) p' s' 256 (by omega) hc' fun r2 p2 s2 hc2 h3 h4 => ?_
    conv => whnf
    exact hK _ _ _ (up hc2) (by rw [wrap_i64 (by omega)]; omega) (by rw [wrap_i64 (by omega)]; omega)
  conv => whnf
  refine vif_bool (fun q => ?_) (fun q => ?_)
  · conv => whnf
    refine cpick.ac D (k + 1) p' s' 8 (by omega) hc' fun r2 p2 s2 hc2 h3 h4 => ?_
    conv => whnf
    refine ⟨⟨rfl, by omega, by omega⟩, ?_⟩
    conv => whnf
    have h5 : r2 = 0 ∨ r2 = 1 ∨ r2 = 2 ∨ r2 = 3 ∨ r2 = 4 ∨ r2 = 5 ∨ r2 = 6 ∨ r2 = 7 := by omega
    rcases h5 with rfl | rfl | rfl | rfl | rfl | rfl | rfl | rfl
    all_goals
      refine ⟨rfl, _, rfl, ?_⟩
      conv => whnf
      exact hK _ _ _ (up hc2) (by decide) (by decide)
  · conv => whnf
    refine cpick.ac D (k + 1) p' s' 14 (by omega) hc' fun r2 p2 s2 hc2 h3 h4 => ?_
    conv => whnf
    exact hK _ _ _ (up hc2) (by rw [wrap_i64 (by omega)]; omega) (by rw [wrap_i64 (by omega)]; omega)
end Go.Eng.T

namespace Go.Eng.T
open Go.Proofs Go.Eng
set_option maxRecDepth 100000
set_option maxHeartbeats 0

def OrdA (N : Nat) (up : List Int) (a : Int) : Prop := bit (up.getD a.toNat default) a = true ∧ ∀ b : Int, 0 ≤ b → b < N → RowB N up a b

theorem isOrder.ac (M : Nat) (up : List Int) (hM : M ≤ 16) (hu : up.length = M) {K : V → List Obj → List Obj → Prop} (hK : ∀ r, (r = true ↔ ∀ a : Int, 0 ≤ a → a < M → OrdA M up a) → K (bv r) [] []) : AC Try.prog 89 [latV M up] [] K := by
  refine ac_body (ann [(2, [1, 7, 8], [(3, 0)]), (7, [1, 3, 7, 8, 17, 18], [(3, 0)]), (12, [1, 3, 4, 7, 8, 17, 18, 37, 38], [(3, 0)])]) [((3, 0), true)] hm htt Try.func89 rfl (by kernel_rfl) rfl rfl ?_
  have no : ¬ (∀ a : Int, 0 ≤ a → a < M → OrdA M up a) → K (bv false) [] [] := fun h => hK _ ⟨fun h1 => (nomatch h1), fun h1 => absurd h1 h⟩
  have hl : (up.map uv).length = M := by rw [List.length_map]; omega
  conv => whnf
  refine cwF_loop (fun n st => ∃ a : Int, (n = (M - a).toNat ∧ 0 ≤ a ∧ a ≤ M ∧ ∀ a' : Int, 0 ≤ a' → a' < a → OrdA M up a') ∧
    st = ⟨[.un, .lp (3, 0) 2 0 0, .un, .un, .un, .un, .un, iv M, iv a] ++ List.replicate 52 .un, mkOb [((3, 0), some (.arr false 2 [latV M up]))]⟩) M (by kernel_rfl) ⟨_, ?_, rfl⟩ ?_
  · exact ⟨by simp, by omega, by omega, fun c' _ _ => by omega⟩
  rintro n st ⟨a, ⟨rfl, a1, a2, a3⟩, rfl⟩
  conv => whnf
  refine vif_dec (fun a4 => ?_) (fun a4 => ?_)
  · conv => whnf
    refine le.ac _ _ a a (by omega) (by omega) fun w1 r1 => ?_
    conv => whnf
    cases w1
    · conv => whnf
      exact no fun h => by have := (h a (by omega) (by omega)).1; rw [this] at r1; cases r1
    conv => whnf
    refine cwF_loop (fun n st => ∃ b : Int, (n = (M - b).toNat ∧ 0 ≤ b ∧ b ≤ M ∧ ∀ b' : Int, 0 ≤ b' → b' < b → RowB M up a b') ∧
      st = ⟨[.un, .lp (3, 0) 2 0 0, .un, iv a, .un, .un, .un, iv M, iv a, .un, .un, .un, .un, .un, .un, .un, .un, iv M, iv b] ++ List.replicate 42 .un, mkOb [((3, 0), some (.arr false 2 [latV M up]))]⟩) M (by kernel_rfl) ⟨_, ?_, rfl⟩ ?_
    · exact ⟨by simp, by omega, by omega, fun c' _ _ => by omega⟩
    rintro n st ⟨b, ⟨rfl, b1, b2, b3⟩, rfl⟩
    conv => whnf
    refine vif_dec (fun b4 => ?_) (fun b4 => ?_)
    · conv => whnf
      rcases (Bool.eq_false_or_eq_true (a != b)).symm with hne | hne
      all_goals rw [hne]
      · conv => whnf
        have nb : ¬ (a ≠ b ∧ bit (up.getD a.toNat default) b = true ∧ bit (up.getD b.toNat default) a = true) := fun w => by simp at hne; exact w.1 hne
        refine cwF_loop (fun n st => ∃ c : Int, (n = (M - c).toNat ∧ 0 ≤ c ∧ c ≤ M ∧ ∀ c' : Int, 0 ≤ c' → c' < c → bit (up.getD a.toNat default) b = true → bit (up.getD b.toNat default) c' = true → bit (up.getD a.toNat default) c' = true) ∧
          st = ⟨[.un, .lp (3, 0) 2 0 0, .un, iv a, iv b, .un, .un, iv M, iv a, .un, .un, .un, .un, .un, .un, .un, .un, iv M, iv b, .un, .un, .un, .un, .un, .un, .un, .un, .un, .un, .un, .un, .un, .un, .un, .un, .un, .un, iv M, iv c] ++ List.replicate 22 .un, mkOb [((3, 0), some (.arr false 2 [latV M up]))]⟩) M (by kernel_rfl) ⟨_, ?_, rfl⟩ ?_
        · exact ⟨by simp, by omega, by omega, fun c' _ _ => by omega⟩
        rintro n st ⟨c, ⟨rfl, c1, c2, c3⟩, rfl⟩
        conv => whnf
        refine vif_dec (fun c4 => ?_) (fun c4 => ?_)
        · conv => whnf
          refine le.ac _ _ a b (by omega) (by omega) fun u1 t1 => ?_
          conv => whnf
          cases u1
          · conv => whnf
            refine ⟨by kernel_rfl, (M - (c + 1)).toNat, by omega, _, ?_, rfl⟩
            rw [wrap_i64 (by omega)]
            refine ⟨rfl, by omega, by omega, fun c' k1 k2 => ?_⟩
            rcases (by omega : c' < c ∨ c' = c) with k3 | rfl
            · exact c3 c' k1 k3
            · exact fun w => by rw [w] at t1; cases t1
          · conv => whnf
            refine le.ac _ _ b c (by omega) (by omega) fun u2 t2 => ?_
            conv => whnf
            cases u2
            · conv => whnf
              refine ⟨by kernel_rfl, (M - (c + 1)).toNat, by omega, _, ?_, rfl⟩
              rw [wrap_i64 (by omega)]
              refine ⟨rfl, by omega, by omega, fun c' k1 k2 => ?_⟩
              rcases (by omega : c' < c ∨ c' = c) with k3 | rfl
              · exact c3 c' k1 k3
              · exact fun _ w => by rw [w] at t2; cases t2
            · conv => whnf
              refine le.ac _ _ a c (by omega) (by omega) fun u3 t3 => ?_
              conv => whnf
              cases u3
              · conv => whnf
                exact no fun h => by
                  have := ((h a (by omega) (by omega)).2 b (by omega) (by omega)).2 c (by omega) (by omega) t1 t2
                  rw [this] at t3; cases t3
              · conv => whnf
                refine ⟨by kernel_rfl, (M - (c + 1)).toNat, by omega, _, ?_, rfl⟩
                rw [wrap_i64 (by omega)]
                refine ⟨rfl, by omega, by omega, fun c' k1 k2 => ?_⟩
                rcases (by omega : c' < c ∨ c' = c) with k3 | rfl
                · exact c3 c' k1 k3
                · exact fun _ _ => t3
        · conv => whnf
          have eC : c = M := by omega
          subst eC
          refine ⟨by kernel_rfl, (M - (b + 1)).toNat, by omega, _, ?_, rfl⟩
          rw [wrap_i64 (by omega)]
          refine ⟨rfl, by omega, by omega, fun b' k1 k2 => ?_⟩
          rcases (by omega : b' < b ∨ b' = b) with k3 | rfl
          · exact b3 b' k1 k3
          · exact ⟨nb, fun c' m1 m2 => c3 c' m1 m2⟩
      · conv => whnf
        refine le.ac _ _ a b (by omega) (by omega) fun v1 s1 => ?_
        conv => whnf
        cases v1
        · conv => whnf
          have nb : ¬ (a ≠ b ∧ bit (up.getD a.toNat default) b = true ∧ bit (up.getD b.toNat default) a = true) := fun w => by rw [w.2.1] at s1; cases s1
          refine cwF_loop (fun n st => ∃ c : Int, (n = (M - c).toNat ∧ 0 ≤ c ∧ c ≤ M ∧ ∀ c' : Int, 0 ≤ c' → c' < c → bit (up.getD a.toNat default) b = true → bit (up.getD b.toNat default) c' = true → bit (up.getD a.toNat default) c' = true) ∧
            st = ⟨[.un, .lp (3, 0) 2 0 0, .un, iv a, iv b, .un, .un, iv M, iv a, .un, .un, .un, .un, .un, .un, .un, .un, iv M, iv b, .un, .un, .un, .un, .un, .un, .un, .un, .un, .un, .un, .un, .un, .un, .un, .un, .un, .un, iv M, iv c] ++ List.replicate 22 .un, mkOb [((3, 0), some (.arr false 2 [latV M up]))]⟩) M (by kernel_rfl) ⟨_, ?_, rfl⟩ ?_
          · exact ⟨by simp, by omega, by omega, fun c' _ _ => by omega⟩
          rintro n st ⟨c, ⟨rfl, c1, c2, c3⟩, rfl⟩
          conv => whnf
          refine vif_dec (fun c4 => ?_) (fun c4 => ?_)
          · conv => whnf
            refine le.ac _ _ a b (by omega) (by omega) fun u1 t1 => ?_
            conv => whnf
            cases u1
            · conv => whnf
              refine ⟨by kernel_rfl, (M - (c + 1)).toNat, by omega, _, ?_, rfl⟩
              rw [wrap_i64 (by omega)]
              refine ⟨rfl, by omega, by omega, fun c' k1 k2 => ?_⟩
              rcases (by omega : c' < c ∨ c' = c) with k3 | rfl
              · exact c3 c' k1 k3
              · exact fun w => by rw [w] at t1; cases t1
            · conv => whnf
              refine le.ac _ _ b c (by omega) (by omega) fun u2 t2 => ?_
              conv => whnf
              cases u2
              · conv => whnf
                refine ⟨by kernel_rfl, (M - (c + 1)).toNat, by omega, _, ?_, rfl⟩
                rw [wrap_i64 (by omega)]
                refine ⟨rfl, by omega, by omega, fun c' k1 k2 => ?_⟩
                rcases (by omega : c' < c ∨ c' = c) with k3 | rfl
                · exact c3 c' k1 k3
                · exact fun _ w => by rw [w] at t2; cases t2
              · conv => whnf
                refine le.ac _ _ a c (by omega) (by omega) fun u3 t3 => ?_
                conv => whnf
                cases u3
                · conv => whnf
                  exact no fun h => by
                    have := ((h a (by omega) (by omega)).2 b (by omega) (by omega)).2 c (by omega) (by omega) t1 t2
                    rw [this] at t3; cases t3
                · conv => whnf
                  refine ⟨by kernel_rfl, (M - (c + 1)).toNat, by omega, _, ?_, rfl⟩
                  rw [wrap_i64 (by omega)]
                  refine ⟨rfl, by omega, by omega, fun c' k1 k2 => ?_⟩
                  rcases (by omega : c' < c ∨ c' = c) with k3 | rfl
                  · exact c3 c' k1 k3
                  · exact fun _ _ => t3
          · conv => whnf
            have eC : c = M := by omega
            subst eC
            refine ⟨by kernel_rfl, (M - (b + 1)).toNat, by omega, _, ?_, rfl⟩
            rw [wrap_i64 (by omega)]
            refine ⟨rfl, by omega, by omega, fun b' k1 k2 => ?_⟩
            rcases (by omega : b' < b ∨ b' = b) with k3 | rfl
            · exact b3 b' k1 k3
            · exact ⟨nb, fun c' m1 m2 => c3 c' m1 m2⟩
        · conv => whnf
          refine le.ac _ _ b a (by omega) (by omega) fun v2 s2 => ?_
          conv => whnf
          cases v2
          · conv => whnf
            have nb : ¬ (a ≠ b ∧ bit (up.getD a.toNat default) b = true ∧ bit (up.getD b.toNat default) a = true) := fun w => by rw [w.2.2] at s2; cases s2
            refine cwF_loop (fun n st => ∃ c : Int, (n = (M - c).toNat ∧ 0 ≤ c ∧ c ≤ M ∧ ∀ c' : Int, 0 ≤ c' → c' < c → bit (up.getD a.toNat default) b = true → bit (up.getD b.toNat default) c' = true → bit (up.getD a.toNat default) c' = true) ∧
              st = ⟨[.un, .lp (3, 0) 2 0 0, .un, iv a, iv b, .un, .un, iv M, iv a, .un, .un, .un, .un, .un, .un, .un, .un, iv M, iv b, .un, .un, .un, .un, .un, .un, .un, .un, .un, .un, .un, .un, .un, .un, .un, .un, .un, .un, iv M, iv c] ++ List.replicate 22 .un, mkOb [((3, 0), some (.arr false 2 [latV M up]))]⟩) M (by kernel_rfl) ⟨_, ?_, rfl⟩ ?_
            · exact ⟨by simp, by omega, by omega, fun c' _ _ => by omega⟩
            rintro n st ⟨c, ⟨rfl, c1, c2, c3⟩, rfl⟩
            conv => whnf
            refine vif_dec (fun c4 => ?_) (fun c4 => ?_)
            · conv => whnf
              refine le.ac _ _ a b (by omega) (by omega) fun u1 t1 => ?_
              conv => whnf
              cases u1
              · conv => whnf
                refine ⟨by kernel_rfl, (M - (c + 1)).toNat, by omega, _, ?_, rfl⟩
                rw [wrap_i64 (by omega)]
                refine ⟨rfl, by omega, by omega, fun c' k1 k2 => ?_⟩
                rcases (by omega : c' < c ∨ c' = c) with k3 | rfl
                · exact c3 c' k1 k3
                · exact fun w => by rw [w] at t1; cases t1
              · conv => whnf
                refine le.ac _ _ b c (by omega) (by omega) fun u2 t2 => ?_
                conv => whnf
                cases u2
                · conv => whnf
                  refine ⟨by kernel_rfl, (M - (c + 1)).toNat, by omega, _, ?_, rfl⟩
                  rw [wrap_i64 (by omega)]
                  refine ⟨rfl, by omega, by omega, fun c' k1 k2 => ?_⟩
                  rcases (by omega : c' < c ∨ c' = c) with k3 | rfl
                  · exact c3 c' k1 k3
                  · exact fun _ w => by rw [w] at t2; cases t2
                · conv => whnf
                  refine le.ac _ _ a c (by omega) (by omega) fun u3 t3 => ?_
                  conv => whnf
                  cases u3
                  · conv => whnf
                    exact no fun h => by
                      have := ((h a (by omega) (by omega)).2 b (by omega) (by omega)).2 c (by omega) (by omega) t1 t2
                      rw [this] at t3; cases t3
                  · conv => whnf
                    refine ⟨by kernel_rfl, (M - (c + 1)).toNat, by omega, _, ?_, rfl⟩
                    rw [wrap_i64 (by omega)]
                    refine ⟨rfl, by omega, by omega, fun c' k1 k2 => ?_⟩
                    rcases (by omega : c' < c ∨ c' = c) with k3 | rfl
                    · exact c3 c' k1 k3
                    · exact fun _ _ => t3
            · conv => whnf
              have eC : c = M := by omega
              subst eC
              refine ⟨by kernel_rfl, (M - (b + 1)).toNat, by omega, _, ?_, rfl⟩
              rw [wrap_i64 (by omega)]
              refine ⟨rfl, by omega, by omega, fun b' k1 k2 => ?_⟩
              rcases (by omega : b' < b ∨ b' = b) with k3 | rfl
              · exact b3 b' k1 k3
              · exact ⟨nb, fun c' m1 m2 => c3 c' m1 m2⟩
          · conv => whnf
            exact no fun h => ((h a (by omega) (by omega)).2 b (by omega) (by omega)).1 ⟨by simpa using hne, s1, s2⟩
    · conv => whnf
      have eB : b = M := by omega
      subst eB
      refine ⟨by kernel_rfl, (M - (a + 1)).toNat, by omega, _, ?_, rfl⟩
      rw [wrap_i64 (by omega)]
      refine ⟨rfl, by omega, by omega, fun a' k1 k2 => ?_⟩
      rcases (by omega : a' < a ∨ a' = a) with k3 | rfl
      · exact a3 a' k1 k3
      · exact ⟨r1, fun b' m1 m2 => b3 b' m1 m2⟩
  · conv => whnf
    have eA : a = M := by omega
    subst eA
    exact hK true ⟨fun _ => a3, fun _ => rfl⟩
end Go.Eng.T

namespace Go.Eng.T
open Go.Proofs Go.Eng
set_option maxRecDepth 100000
set_option maxHeartbeats 0

abbrev bO (u : Bool) : Obj := .arr false 1 [bv u]
abbrev lO (N : Int) (up : List Int) : Obj := .arr false 2 [latV N up]

theorem under.ac (N : Int) (up : List Int) (u : Bool) (x y : Int) (hx : 0 ≤ x ∧ x < (up.map uv).length) (hy : 0 ≤ y ∧ y < (up.map uv).length) (hl : up.length ≤ 100) {K : V → List Obj → List Obj → Prop} (hK : ∀ r, side up x y u = r → K (bv r) [bO u, lO N up] []) : AC Try.prog 91 [iv x, iv y, .lp (0, 0) 1 0 0, .lp (0, 1) 2 0 0] [bO u, lO N up] K := by
  have hm' : (up.map uv).length = up.length := List.length_map ..
  refine ac_body (ann []) [((0, 0), true), ((0, 1), true)] hm htt Try.func91 rfl (by kernel_rfl) rfl rfl ?_
  conv => whnf
  refine vif_bool (fun h => ?_) (fun h => ?_)
  · subst h
    conv => whnf
    refine le.ac _ _ _ _ hx (by omega) fun r hr => ?_
    conv => whnf
    exact hK _ hr
  · subst h
    conv => whnf
    refine le.ac _ _ _ _ hy (by omega) fun r hr => ?_
    conv => whnf
    exact hK _ hr

theorem ibound.ac (N : Nat) (up : List Int) (a b : Int) (u : Bool) (hN : N ≤ 16) (hu : up.length = N) (ha : 0 ≤ a ∧ a < N) (hb : 0 ≤ b ∧ b < N) {K : V → List Obj → List Obj → Prop} (hK : ∀ r, bound N up a b u = r → K (iv r) [] []) : AC Try.prog 55 [latV N up, iv a, iv b, bv u] [] K := by
  have hl : (up.map uv).length = N := by rw [List.length_map, hu]
  refine ac_body (ann [(3, [1, 2, 4, 9, 15, 16], [(6, 0), (9, 0)]), (8, [1, 2, 4, 9, 10, 11, 15, 16, 32, 33], [(6, 0), (9, 0)])]) [((6, 0), true), ((9, 0), true)] hm htt Try.func55 rfl (by kernel_rfl) rfl rfl ?_
  conv => whnf
  refine cwF_loop (fun n st => ∃ c : Int, (n = (N - c).toNat ∧ 0 ≤ c ∧ c ≤ N ∧ (List.range c.toNat).find? (fun (c : Nat) => fitsTo up a b u c N) = none) ∧
    st = ⟨[.un, iv a, iv b, .un, .lp (6, 0) 2 0 0, .un, .un, .un, .un, .fn 91 [.lp (9, 0) 1 0 0, .lp (6, 0) 2 0 0], .un, .un, .un, .un, .un, iv N, iv c] ++ List.replicate 40 .un, mkOb [((6, 0), some (lO N up)), ((9, 0), some (bO u))]⟩) N (by kernel_rfl) ⟨_, ?_, rfl⟩ ?_
  · exact ⟨by simp, by omega, by omega, by simp⟩
  rintro n st ⟨c, ⟨rfl, h1, h2, h3⟩, rfl⟩
  conv => whnf
  refine vif_dec (fun h4 => ?_) (fun h4 => ?_)
  case refine_2.refine_2 =>
    conv => whnf
    have e : c = N := by omega
    subst e
    rw [Int.toNat_natCast] at h3
    exact hK _ (by simp only [bound, h3])
  conv => whnf
  have next : fitsTo up a b u c N = false → (List.range (c + 1).toNat).find? (fun (c : Nat) => fitsTo up a b u c N) = none := fun h => find_next h1 h3 (by rw [show ((c.toNat : Nat) : Int) = c by omega]; exact h)
  refine under.ac _ _ _ _ _ (by omega) (by omega) (by omega) fun rhs hs => ?_
  conv => whnf
  cases rhs
  · conv => whnf
    refine ⟨by kernel_rfl, (N - (c + 1)).toNat, by omega, _, ?_, rfl⟩
    rw [wrap_i64 (by omega)]
    exact ⟨rfl, by omega, by omega, next (by simp [fitsTo, hs])⟩
  conv => whnf
  refine under.ac _ _ _ _ _ (by omega) (by omega) (by omega) fun rhs2 hs2 => ?_
  conv => whnf
  cases rhs2
  · conv => whnf
    refine ⟨by kernel_rfl, (N - (c + 1)).toNat, by omega, _, ?_, rfl⟩
    rw [wrap_i64 (by omega)]
    exact ⟨rfl, by omega, by omega, next (by simp [fitsTo, hs2])⟩
  conv => whnf
  refine cwF_loop (fun n st => ∃ (d : Int) (f : Bool), (n = (N - d).toNat ∧ 0 ≤ d ∧ d ≤ N ∧ f = fitsTo up a b u c d.toNat) ∧
    st = ⟨[.un, iv a, iv b, .un, .lp (6, 0) 2 0 0, .un, .un, .un, .un, .fn 91 [.lp (9, 0) 1 0 0, .lp (6, 0) 2 0 0], iv c, bv f, .un, .un, .un, iv N, iv c, .un, .un, .un, .un, .un, .un, .un, .un, .un, .un, .un, .un, .un, .un, .un, iv N, iv d] ++ List.replicate 23 .un, mkOb [((6, 0), some (lO N up)), ((9, 0), some (bO u))]⟩) N (by kernel_rfl) ⟨_, _, ?_, rfl⟩ ?_
  · exact ⟨by simp, by omega, by omega, by simp [fitsTo, hs, hs2]⟩
  rintro n st ⟨d, f, ⟨rfl, g1, g2, g3⟩, rfl⟩
  conv => whnf
  refine vif_dec (fun hd => ?_) (fun hd => ?_)
  · conv => whnf
    refine under.ac _ _ _ _ _ (by omega) (by omega) (by omega) fun r1 s1 => ?_
    conv => whnf
    cases r1
    · conv => whnf
      refine ⟨by kernel_rfl, (N - (d + 1)).toNat, by omega, _, _, ?_, rfl⟩
      rw [wrap_i64 (by omega)]
      exact ⟨rfl, by omega, by omega, by rw [fitsTo_succ g1, ← g3, s1]; simp⟩
    conv => whnf
    refine under.ac _ _ _ _ _ (by omega) (by omega) (by omega) fun r2 s2 => ?_
    conv => whnf
    cases r2
    · conv => whnf
      refine ⟨by kernel_rfl, (N - (d + 1)).toNat, by omega, _, _, ?_, rfl⟩
      rw [wrap_i64 (by omega)]
      exact ⟨rfl, by omega, by omega, by rw [fitsTo_succ g1, ← g3, s1, s2]; simp⟩
    conv => whnf
    refine under.ac _ _ _ _ _ (by omega) (by omega) (by omega) fun r3 s3 => ?_
    conv => whnf
    cases r3
    · conv => whnf
      refine ⟨by kernel_rfl, (N - (d + 1)).toNat, by omega, _, _, ?_, rfl⟩
      rw [wrap_i64 (by omega)]
      exact ⟨rfl, by omega, by omega, by rw [fitsTo_succ g1, ← g3, s1, s2, s3]; simp⟩
    · conv => whnf
      refine ⟨by kernel_rfl, (N - (d + 1)).toNat, by omega, _, _, ?_, rfl⟩
      rw [wrap_i64 (by omega)]
      exact ⟨rfl, by omega, by omega, by rw [fitsTo_succ g1, ← g3, s1, s2, s3]; simp⟩
  · conv => whnf
    have e : d = N := by omega
    subst e
    rw [Int.toNat_natCast] at g3
    refine vif_bool (fun hf => ?_) (fun hf => ?_)
    · conv => whnf
      subst hf
      have h5 := find_here (p := fun (c : Nat) => fitsTo up a b u c N) h1 h4 h3 (by rw [show ((c.toNat : Nat) : Int) = c by omega]; exact g3.symm)
      exact hK _ (by simp only [bound, h5]; omega)
    · conv => whnf
      subst hf
      refine ⟨by kernel_rfl, (N - (c + 1)).toNat, by omega, _, ?_, rfl⟩
      rw [wrap_i64 (by omega)]
      exact ⟨rfl, by omega, by omega, next g3.symm⟩
end Go.Eng.T

namespace Go.Eng.T
open Go.Proofs Go.Eng
set_option maxRecDepth 100000
set_option maxHeartbeats 0

def LatI (N : Int) (up : List Int) : Prop :=
  1 ≤ N ∧ N ≤ 16 ∧ (up.length : Int) = N ∧ (∀ a : Int, 0 ≤ a → a < N → (up.getD a.toNat default).fdiv (2 ^ min N.toNat IntKind.u64.bits) = 0) ∧
  (∀ a : Int, 0 ≤ a → a < N → OrdA N.toNat up a) ∧ ∀ a b : Int, 0 ≤ a → a < N → 0 ≤ b → b < N → 0 ≤ bound N.toNat up a b true ∧ 0 ≤ bound N.toNat up a b false

theorem isLat.ac (N : Int) (up : List Int) {K : V → List Obj → List Obj → Prop} (hK : ∀ r, (r = true ↔ LatI N up) → K (bv r) [] []) : AC Try.prog 45 [latV N up] [] K := by
  refine ac_body (ann [(4, [1, 20, 21, 22], [(3, 0)]), (12, [1, 36, 37], [(3, 0)]), (15, [1, 5, 36, 37, 41, 42], [(3, 0)])]) [((3, 0), true)] hm htt Try.func45 rfl (by kernel_rfl) rfl rfl ?_
  have no : ¬ LatI N up → K (bv false) [] [] := fun h => hK _ ⟨fun h1 => (nomatch h1), fun h1 => absurd h1 h⟩
  conv => whnf
  refine in.ac _ _ _ fun r hr => ?_
  conv => whnf
  cases r
  · conv => whnf
    exact no fun h => by have := hr.2 ⟨h.1, h.2.1⟩; cases this
  conv => whnf
  obtain ⟨q1, q2⟩ := hr.1 rfl
  refine vif_bool (fun q3 => ?_) (fun q3 => ?_)
  · conv => whnf
    exact no fun h => by have := h.2.2.1; simp at q3; omega
  conv => whnf
  simp only [List.length_map, bne_eq_false_iff_eq] at q3
  obtain ⟨M, rfl⟩ : ∃ M : Nat, N = M := ⟨N.toNat, by omega⟩
  have hl : (up.map uv).length = M := by rw [List.length_map]; omega
  refine cwF_loop (fun n st => ∃ a : Int, (n = (M - a).toNat ∧ 0 ≤ a ∧ a ≤ M ∧ ∀ a' : Int, 0 ≤ a' → a' < a → (up.getD a'.toNat default).fdiv (2 ^ min (M : Int).toNat IntKind.u64.bits) = 0) ∧
    st = ⟨[.un, .lp (3, 0) 2 0 0] ++ List.replicate 18 .un ++ [.is 1 (up.map uv), iv (up.map uv).length, iv a] ++ List.replicate 36 .un, mkOb [((3, 0), some (.arr false 2 [latV M up]))]⟩) M (by kernel_rfl) ⟨_, ?_, rfl⟩ ?_
  · exact ⟨by simp, by omega, by omega, fun a' _ _ => by omega⟩
  rintro n st ⟨a, ⟨rfl, a1, a2, a3⟩, rfl⟩
  conv => whnf
  refine vif_dec (fun a4 => ?_) (fun a4 => ?_)
  · conv => whnf
    refine ⟨⟨rfl, by omega, by omega⟩, ?_⟩
    conv => whnf
    refine ⟨_, map_get (by omega), ?_⟩
    conv => whnf
    refine ⟨by omega, ?_⟩
    conv => whnf
    refine vif_bool (fun q => ?_) (fun q => ?_)
    · conv => whnf
      exact no fun h => by have := h.2.2.2.1 a (by omega) (by omega); simp only [bne_iff_ne, ne_eq] at q; exact q this
    · conv => whnf
      refine ⟨by kernel_rfl, (M - (a + 1)).toNat, by omega, _, ?_, rfl⟩
      rw [wrap_i64 (by omega)]
      refine ⟨rfl, by omega, by omega, fun a' k1 k2 => ?_⟩
      rcases (by omega : a' < a ∨ a' = a) with k3 | rfl
      · exact a3 a' k1 k3
      · simpa using q
  conv => whnf
  have eA : a = M := by omega
  subst eA
  have sh := a3
  clear a3 a1 a2 a4
  refine isOrder.ac _ _ (by omega) (by omega) fun r hr => ?_
  conv => whnf
  cases r
  · conv => whnf
    exact no fun h => by have := hr.2 (by have := h.2.2.2.2.1; rwa [Int.toNat_natCast] at this); cases this
  conv => whnf
  have ord := hr.1 rfl
  refine cwF_loop (fun n st => ∃ a : Int, (n = (M - a).toNat ∧ 0 ≤ a ∧ a ≤ M ∧ ∀ a' b' : Int, 0 ≤ a' → a' < a → 0 ≤ b' → b' < M → 0 ≤ bound M up a' b' true ∧ 0 ≤ bound M up a' b' false) ∧
    st = ⟨[.un, .lp (3, 0) 2 0 0] ++ List.replicate 34 .un ++ [iv M, iv a] ++ List.replicate 21 .un, mkOb [((3, 0), some (.arr false 2 [latV M up]))]⟩) M (by kernel_rfl) ⟨_, ?_, rfl⟩ ?_
  · exact ⟨by simp, by omega, by omega, fun a' _ _ => by omega⟩
  rintro n st ⟨a, ⟨rfl, a1, a2, a3⟩, rfl⟩
  conv => whnf
  refine vif_dec (fun a4 => ?_) (fun a4 => ?_)
  · conv => whnf
    refine cwF_loop (fun n st => ∃ b : Int, (n = (M - b).toNat ∧ 0 ≤ b ∧ b ≤ M ∧ ∀ b' : Int, 0 ≤ b' → b' < b → 0 ≤ bound M up a b' true ∧ 0 ≤ bound M up a b' false) ∧
      st = ⟨[.un, .lp (3, 0) 2 0 0, .un, .un, .un, iv a] ++ List.replicate 30 .un ++ [iv M, iv a, .un, .un, .un, iv M, iv b] ++ List.replicate 16 .un, mkOb [((3, 0), some (.arr false 2 [latV M up]))]⟩) M (by kernel_rfl) ⟨_, ?_, rfl⟩ ?_
    · exact ⟨by simp, by omega, by omega, fun a' _ _ => by omega⟩
    rintro n st ⟨b, ⟨rfl, b1, b2, b3⟩, rfl⟩
    conv => whnf
    refine vif_dec (fun b4 => ?_) (fun b4 => ?_)
    · conv => whnf
      refine ibound.ac _ _ _ _ _ (by omega) (by omega) (by omega) (by omega) fun r1 s1 => ?_
      conv => whnf
      by_cases p1 : r1 < 0
      · rw [decide_eq_true p1]
        conv => whnf
        exact no fun h => by have := (h.2.2.2.2.2 a b (by omega) (by omega) (by omega) (by omega)).1; rw [Int.toNat_natCast, s1] at this; omega
      rw [decide_eq_false p1]
      conv => whnf
      refine ibound.ac _ _ _ _ _ (by omega) (by omega) (by omega) (by omega) fun r2 s2 => ?_
      conv => whnf
      refine vif_dec (fun p2 => ?_) (fun p2 => ?_)
      · conv => whnf
        exact no fun h => by have := (h.2.2.2.2.2 a b (by omega) (by omega) (by omega) (by omega)).2; rw [Int.toNat_natCast, s2] at this; omega
      conv => whnf
      refine ⟨by kernel_rfl, (M - (b + 1)).toNat, by omega, _, ?_, rfl⟩
      rw [wrap_i64 (by omega)]
      refine ⟨rfl, by omega, by omega, fun b' k1 k2 => ?_⟩
      rcases (by omega : b' < b ∨ b' = b) with k3 | rfl
      · exact b3 b' k1 k3
      · exact ⟨by omega, by omega⟩
    · conv => whnf
      have eB : b = M := by omega
      subst eB
      refine ⟨by kernel_rfl, (M - (a + 1)).toNat, by omega, _, ?_, rfl⟩
      rw [wrap_i64 (by omega)]
      refine ⟨rfl, by omega, by omega, fun a' b' k1 k2 k3 k4 => ?_⟩
      rcases (by omega : a' < a ∨ a' = a) with k5 | rfl
      · exact a3 a' b' k1 k5 k3 k4
      · exact b3 b' k3 k4
  · conv => whnf
    have eA : a = M := by omega
    subst eA
    exact hK true ⟨fun _ => ⟨by omega, by omega, by omega, fun x y z => sh x y (by omega), by rw [Int.toNat_natCast]; exact ord, fun x y k1 k2 k3 k4 => by rw [Int.toNat_natCast]; exact a3 x y k1 k2 k3 k4⟩, fun _ => rfl⟩
end Go.Eng.T

namespace Go.Eng.T
open Go.Proofs Go.Eng
set_option maxRecDepth 100000
set_option maxHeartbeats 0

theorem areLabels.ac (N : Int) (up ls : List Int) (hs : ls.length ≤ 1000000) {K : V → List Obj → List Obj → Prop} (hK : ∀ r, (r = true ↔ LatI N up ∧ ∀ x ∈ ls, 0 ≤ x ∧ x < N) → K (bv r) [] []) : AC Try.prog 53 [latV N up, .is 1 (ls.map iv)] [] K := by
  have hl : (ls.map iv).length = ls.length := List.length_map ..
  refine ac_body (ann [(4, [2, 10, 11, 12], [(4, 0)])]) [((4, 0), true)] hm htt Try.func53 rfl (by kernel_rfl) rfl rfl ?_
  have no : ¬ (LatI N up ∧ ∀ x ∈ ls, 0 ≤ x ∧ x < N) → K (bv false) [] [] := fun h => hK _ ⟨fun h1 => (nomatch h1), fun h1 => absurd h1 h⟩
  conv => whnf
  refine isLat.ac _ _ fun r hr => ?_
  conv => whnf
  cases r
  · conv => whnf
    exact no fun h => by have := hr.2 h.1; cases this
  conv => whnf
  have hL := hr.1 rfl
  refine cwF_loop (fun n st => ∃ a : Int, (n = (ls.length - a).toNat ∧ 0 ≤ a ∧ a ≤ ls.length ∧ ∀ i : Nat, i < a.toNat → 0 ≤ ls.getD i default ∧ ls.getD i default < N) ∧
    st = ⟨[.un, .un, .lp (4, 0) 2 0 0, .un, .un, .un, .un, .un, .un, .un, .is 1 (ls.map iv), iv (ls.map iv).length, iv a] ++ List.replicate 8 .un, mkOb [((4, 0), some (.arr false 2 [latV N up]))]⟩) ls.length (by kernel_rfl) ⟨_, ?_, rfl⟩ ?_
  · exact ⟨by simp, by omega, by omega, fun a' h => by simp at h⟩
  rintro n st ⟨a, ⟨rfl, a1, a2, a3⟩, rfl⟩
  conv => whnf
  refine vif_dec (fun a4 => ?_) (fun a4 => ?_)
  · conv => whnf
    refine ⟨⟨rfl, by omega, by omega⟩, ?_⟩
    conv => whnf
    refine ⟨_, map_get (by omega), ?_⟩
    conv => whnf
    refine has.ac _ _ _ ⟨by have := hL.1; omega, by have := hL.2.1; omega⟩ fun r hr => ?_
    conv => whnf
    cases r
    · conv => whnf
      refine no fun h => ?_
      have hi : a.toNat < ls.length := by omega
      have hm : ls.getD a.toNat default ∈ ls := by
        rw [List.getD_eq_getElem?_getD, List.getElem?_eq_getElem hi]; exact List.getElem_mem hi
      have := hr.2 (h.2 _ hm)
      cases this
    · conv => whnf
      refine ⟨by kernel_rfl, (ls.length - (a + 1)).toNat, by omega, _, ?_, rfl⟩
      rw [wrap_i64 (by omega)]
      refine ⟨rfl, by omega, by omega, fun i hi => ?_⟩
      rcases (by omega : i < a.toNat ∨ i = a.toNat) with k3 | rfl
      · exact a3 i k3
      · exact hr.1 rfl
  · conv => whnf
    refine hK true ⟨fun _ => ⟨hL, fun x hx => ?_⟩, fun _ => rfl⟩
    obtain ⟨i, hi, rfl⟩ := List.getElem_of_mem hx
    have := a3 i (by omega)
    rwa [List.getD_eq_getElem?_getD, List.getElem?_eq_getElem hi] at this
end Go.Eng.T

namespace Go.Eng.T
open Go.Proofs Go.Eng
set_option maxRecDepth 100000
set_option maxHeartbeats 0

abbrev annI (i : List (Nat × List Nat)) (l : List (Nat × List Nat × List Key)) : Ann := { imm := immL i, keep := keepL l }

theorem join.ac (N : Nat) (up : List Int) (a b : Int) (hN : N ≤ 16) (hu : up.length = N) (ha : 0 ≤ a ∧ a < N) (hb : 0 ≤ b ∧ b < N) {K : V → List Obj → List Obj → Prop} (hK : ∀ r, bound N up a b true = r → K (iv r) [] []) : AC Try.prog 54 [latV N up, iv a, iv b] [] K := by
  refine ac_body (ann []) [((5, 0), true)] hm htt Try.func54 rfl (by kernel_rfl) rfl rfl ?_
  conv => whnf
  refine ibound.ac _ _ _ _ _ hN hu ha hb fun r hr => ?_
  conv => whnf
  exact hK _ hr

/-- What LatJoin and LatMeet give. -/
def JoinP (N : Int) (up : List Int) (a b : Int) (u : Bool) (r : Int) : Prop :=
  (LatI N up ∧ (0 ≤ a ∧ a < N) ∧ (0 ≤ b ∧ b < N) → r = bound N.toNat up a b u) ∧ (¬ (LatI N up ∧ (0 ≤ a ∧ a < N) ∧ (0 ≤ b ∧ b < N)) → r = -1)

theorem LatJoinI.ac (N : Int) (up : List Int) (a b : Int) {K : V → List Obj → List Obj → Prop} (hK : ∀ r, JoinP N up a b true r → K (iv r) [] []) : AC Try.prog 17 [latV N up, iv a, iv b] [] K := by
  refine ac_body (annI [(53, [1])] []) [((5, 0), true), ((12, 0), true)] hm htt Try.func17 rfl (by kernel_rfl) rfl rfl ?_
  conv => whnf
  refine areLabels.ac _ _ [a, b] (by simp) fun r hr => ?_
  conv => whnf
  have e : (LatI N up ∧ ∀ x ∈ [a, b], 0 ≤ x ∧ x < N) ↔ (LatI N up ∧ (0 ≤ a ∧ a < N) ∧ (0 ≤ b ∧ b < N)) := by simp
  rw [e] at hr
  cases r
  · conv => whnf
    exact hK _ ⟨fun h => (by have := hr.2 h; cases this), fun _ => rfl⟩
  conv => whnf
  have hL := hr.1 rfl
  obtain ⟨M, rfl⟩ : ∃ M : Nat, N = M := ⟨N.toNat, by have := hL.1.1; omega⟩
  refine join.ac _ _ _ _ (by have := hL.1.2.1; omega) (by have := hL.1.2.2.1; omega) hL.2.1 hL.2.2 fun r hr2 => ?_
  conv => whnf
  exact hK _ ⟨fun _ => by rw [Int.toNat_natCast]; exact hr2.symm, fun h => absurd hL h⟩

theorem LatMeetI.ac (N : Int) (up : List Int) (a b : Int) {K : V → List Obj → List Obj → Prop} (hK : ∀ r, JoinP N up a b false r → K (iv r) [] []) : AC Try.prog 18 [latV N up, iv a, iv b] [] K := by
  refine ac_body (annI [(53, [1])] []) [((5, 0), true), ((12, 0), true)] hm htt Try.func18 rfl (by kernel_rfl) rfl rfl ?_
  conv => whnf
  refine areLabels.ac _ _ [a, b] (by simp) fun r hr => ?_
  conv => whnf
  have e : (LatI N up ∧ ∀ x ∈ [a, b], 0 ≤ x ∧ x < N) ↔ (LatI N up ∧ (0 ≤ a ∧ a < N) ∧ (0 ≤ b ∧ b < N)) := by simp
  rw [e] at hr
  cases r
  · conv => whnf
    exact hK _ ⟨fun h => (by have := hr.2 h; cases this), fun _ => rfl⟩
  conv => whnf
  have hL := hr.1 rfl
  obtain ⟨M, rfl⟩ : ∃ M : Nat, N = M := ⟨N.toNat, by have := hL.1.1; omega⟩
  refine ibound.ac _ _ _ _ _ (by have := hL.1.2.1; omega) (by have := hL.1.2.2.1; omega) hL.2.1 hL.2.2 fun r hr2 => ?_
  conv => whnf
  exact hK _ ⟨fun _ => by rw [Int.toNat_natCast]; exact hr2.symm, fun h => absurd hL h⟩

end Go.Eng.T

namespace Go.Eng.T
open Go.Proofs Go.Eng
set_option maxRecDepth 100000
set_option maxHeartbeats 0

theorem l01Label.ac (N : Int) (up : List Int) (a : Int) {K : V → List Obj → List Obj → Prop} (hK : ∀ r, (r = true ↔ LatP N up ∧ 0 ≤ a ∧ a < N) → K (bv r) [] []) : AC Try.prog 56 [latV N up, iv a] [] K := by
  refine ac_body (ann []) [((4, 0), true)] hm htt Try.func56 rfl (by kernel_rfl) rfl rfl ?_
  conv => whnf
  refine LatOkS.ac _ _ fun r hr => ?_
  conv => whnf
  cases r
  · conv => whnf
    exact hK _ ⟨fun h => (nomatch h), fun h => hr.2 h.1⟩
  conv => whnf
  have hL := hr.1 rfl
  by_cases q : a ≥ 0
  · rw [decide_eq_true q]
    conv => whnf
    exact hK _ ⟨fun h => ⟨hL, q, of_decide_eq_true h⟩, fun h => decide_eq_true h.2.2⟩
  · rw [decide_eq_false q]
    conv => whnf
    exact hK _ ⟨fun h => (nomatch h), fun h => absurd h.2.1 q⟩

def JoinS (N : Int) (up : List Int) (a b : Int) (u : Bool) (r : Int) : Prop :=
  (LatP N up ∧ (0 ≤ a ∧ a < N) ∧ (0 ≤ b ∧ b < N) → r = bound N.toNat up a b u) ∧ (¬ (LatP N up ∧ (0 ≤ a ∧ a < N) ∧ (0 ≤ b ∧ b < N)) → r = -1)

theorem LatJoinS.ac (N : Int) (up : List Int) (a b : Int) {K : V → List Obj → List Obj → Prop} (hK : ∀ r, JoinS N up a b true r → K (iv r) [] []) : AC Try.prog 19 [latV N up, iv a, iv b] [] K := by
  refine ac_body (ann []) [((5, 0), true)] hm htt Try.func19 rfl (by kernel_rfl) rfl rfl ?_
  conv => whnf
  refine l01Label.ac _ _ _ fun r hr => ?_
  conv => whnf
  cases r
  · conv => whnf
    exact hK _ ⟨fun h => (by have := hr.2 ⟨h.1, h.2.1.1, h.2.1.2⟩; cases this), fun _ => rfl⟩
  conv => whnf
  refine l01Label.ac _ _ _ fun r2 hr2 => ?_
  conv => whnf
  cases r2
  · conv => whnf
    exact hK _ ⟨fun h => (by have := hr2.2 ⟨h.1, h.2.2.1, h.2.2.2⟩; cases this), fun _ => rfl⟩
  conv => whnf
  obtain ⟨hL, ha⟩ := hr.1 rfl
  obtain ⟨_, hb⟩ := hr2.1 rfl
  obtain ⟨M, rfl⟩ : ∃ M : Nat, N = M := ⟨N.toNat, by have := hL.1; omega⟩
  refine l01Bound.ac _ _ _ _ _ (by have := hL.2.1; omega) (by have := hL.2.2.1; omega) ha hb fun r hr3 => ?_
  conv => whnf
  exact hK _ ⟨fun _ => by rw [Int.toNat_natCast]; exact hr3.symm, fun h => absurd ⟨hL, ha, hb⟩ h⟩

theorem LatMeetS.ac (N : Int) (up : List Int) (a b : Int) {K : V → List Obj → List Obj → Prop} (hK : ∀ r, JoinS N up a b false r → K (iv r) [] []) : AC Try.prog 20 [latV N up, iv a, iv b] [] K := by
  refine ac_body (ann []) [((5, 0), true)] hm htt Try.func20 rfl (by kernel_rfl) rfl rfl ?_
  conv => whnf
  refine l01Label.ac _ _ _ fun r hr => ?_
  conv => whnf
  cases r
  · conv => whnf
    exact hK _ ⟨fun h => (by have := hr.2 ⟨h.1, h.2.1.1, h.2.1.2⟩; cases this), fun _ => rfl⟩
  conv => whnf
  refine l01Label.ac _ _ _ fun r2 hr2 => ?_
  conv => whnf
  cases r2
  · conv => whnf
    exact hK _ ⟨fun h => (by have := hr2.2 ⟨h.1, h.2.2.1, h.2.2.2⟩; cases this), fun _ => rfl⟩
  conv => whnf
  obtain ⟨hL, ha⟩ := hr.1 rfl
  obtain ⟨_, hb⟩ := hr2.1 rfl
  obtain ⟨M, rfl⟩ : ∃ M : Nat, N = M := ⟨N.toNat, by have := hL.1; omega⟩
  refine l01Bound.ac _ _ _ _ _ (by have := hL.2.1; omega) (by have := hL.2.2.1; omega) ha hb fun r hr3 => ?_
  conv => whnf
  exact hK _ ⟨fun _ => by rw [Int.toNat_natCast]; exact hr3.symm, fun h => absurd ⟨hL, ha, hb⟩ h⟩

theorem LatLeI.ac (N : Int) (up : List Int) (a b : Int) {K : V → List Obj → List Obj → Prop} (hK : ∀ r, (r = true ↔ (LatI N up ∧ (0 ≤ a ∧ a < N) ∧ (0 ≤ b ∧ b < N)) ∧ bit (up.getD a.toNat default) b = true) → K (bv r) [] []) : AC Try.prog 23 [latV N up, iv a, iv b] [] K := by
  refine ac_body (annI [(53, [1])] []) [((5, 0), true), ((12, 0), true)] hm htt Try.func23 rfl (by kernel_rfl) rfl rfl ?_
  conv => whnf
  refine areLabels.ac _ _ [a, b] (by simp) fun r hr => ?_
  conv => whnf
  have e : (LatI N up ∧ ∀ x ∈ [a, b], 0 ≤ x ∧ x < N) ↔ (LatI N up ∧ (0 ≤ a ∧ a < N) ∧ (0 ≤ b ∧ b < N)) := by simp
  rw [e] at hr
  cases r
  · conv => whnf
    exact hK _ ⟨fun h => (nomatch h), fun h => hr.2 h.1⟩
  conv => whnf
  have hL := hr.1 rfl
  have hl : (up.map uv).length = up.length := List.length_map ..
  refine le.ac _ _ _ _ (by have := hL.1.2.2.1; omega) (by have := hL.1.2.1; omega) fun r hr2 => ?_
  conv => whnf
  exact hK _ ⟨fun h => ⟨hL, by rw [hr2, h]⟩, fun h => by rw [← hr2]; exact h.2⟩
end Go.Eng.T

namespace Go.Eng.T
open Go.Proofs Go.Eng
set_option maxRecDepth 100000
set_option maxHeartbeats 0

def endTo (N : Nat) (up : List Int) (u : Bool) : Nat → Int
  | 0 => 0
  | k + 1 => bound N up (endTo N up u k) k u

theorem bound_lt {N : Nat} {up : List Int} {a b : Int} {u : Bool} (h : 0 < N) : bound N up a b u < N := by
  unfold bound
  split
  · rename_i c hc
    have := List.mem_range.1 (List.mem_of_find?_eq_some hc)
    omega
  · omega

theorem endTo_ok {N : Nat} {up : List Int} {u : Bool} (h : LatI N up) : ∀ k : Nat, k ≤ N → 0 ≤ endTo N up u k ∧ endTo N up u k < N
  | 0, _ => ⟨by simp [endTo], by have := h.1; simp only [endTo]; omega⟩
  | k + 1, hk => by
    have ih := endTo_ok (u := u) h k (by omega)
    have := h.1
    have hb := h.2.2.2.2.2 (endTo N up u k) k ih.1 ih.2 (by omega) (by omega)
    rw [Int.toNat_natCast] at hb
    simp only [endTo]
    refine ⟨?_, bound_lt (by omega)⟩
    cases u
    · exact hb.2
    · exact hb.1

theorem ends.ac (M : Nat) (up : List Int) (hL : LatI M up) {K : V → List Obj → List Obj → Prop} (hK : ∀ x y, x = endTo M up false M → y = endTo M up true M → K (.tup [iv x, iv y]) [] []) : AC Try.prog 57 [latV M up] [] K := by
  have hM := hL.2.1
  have hu := hL.2.2.1
  refine ac_body (ann [(3, [1, 4, 5, 8, 9], [(3, 0)])]) [((3, 0), true)] hm htt Try.func57 rfl (by kernel_rfl) rfl rfl ?_
  conv => whnf
  refine cwF_loop (fun n st => ∃ a x y : Int, (n = (M - a).toNat ∧ 0 ≤ a ∧ a ≤ M ∧ x = endTo M up false a.toNat ∧ y = endTo M up true a.toNat) ∧
    st = ⟨[.un, .lp (3, 0) 2 0 0, .un, .un, iv x, iv y, .un, .un, iv M, iv a] ++ List.replicate 13 .un, mkOb [((3, 0), some (.arr false 2 [latV M up]))]⟩) M (by kernel_rfl) ⟨_, _, _, ?_, rfl⟩ ?_
  · exact ⟨by simp, by omega, by omega, by simp [endTo], by simp [endTo]⟩
  rintro n st ⟨a, x, y, ⟨rfl, a1, a2, ex, ey⟩, rfl⟩
  have hx := endTo_ok (u := false) hL a.toNat (by omega)
  have hy := endTo_ok (u := true) hL a.toNat (by omega)
  rw [← ex] at hx
  rw [← ey] at hy
  conv => whnf
  refine vif_dec (fun a4 => ?_) (fun a4 => ?_)
  · conv => whnf
    refine ⟨by kernel_rfl, ?_⟩
    conv => whnf
    refine ibound.ac _ _ _ _ _ (by omega) (by omega) hx (by omega) fun r1 s1 => ?_
    conv => whnf
    refine ⟨by kernel_rfl, ?_⟩
    conv => whnf
    refine join.ac _ _ _ _ (by omega) (by omega) hy (by omega) fun r2 s2 => ?_
    conv => whnf
    refine ⟨by kernel_rfl, ?_⟩
    conv => whnf
    refine ⟨by kernel_rfl, (M - (a + 1)).toNat, by omega, _, _, _, ?_, rfl⟩
    rw [wrap_i64 (by omega)]
    have e : (a + 1).toNat = a.toNat + 1 := by omega
    have e2 : ((a.toNat : Nat) : Int) = a := by omega
    exact ⟨rfl, by omega, by omega, by rw [e, endTo, e2, ← ex]; exact s1.symm, by rw [e, endTo, e2, ← ey]; exact s2.symm⟩
  · conv => whnf
    have e : a = M := by omega
    subst e
    rw [Int.toNat_natCast] at ex ey
    exact hK _ _ ex ey
end Go.Eng.T

namespace Go.Eng.T
open Go.Proofs Go.Eng
set_option maxRecDepth 100000
set_option maxHeartbeats 0

theorem LatEndsI.ac (N : Int) (up : List Int) {K : V → List Obj → List Obj → Prop} (hK : ∀ x y, (LatI N up → x = endTo N.toNat up false N.toNat ∧ y = endTo N.toNat up true N.toNat) → K (.tup [iv x, iv y]) [] []) : AC Try.prog 22 [latV N up] [] K := by
  refine ac_body (ann []) [((3, 0), true)] hm htt Try.func22 rfl (by kernel_rfl) rfl rfl ?_
  conv => whnf
  refine isLat.ac _ _ fun r hr => ?_
  conv => whnf
  cases r
  · conv => whnf
    exact hK _ _ fun h => by have := hr.2 h; cases this
  conv => whnf
  have hL := hr.1 rfl
  obtain ⟨M, rfl⟩ : ∃ M : Nat, N = M := ⟨N.toNat, by have := hL.1; omega⟩
  refine ends.ac _ _ hL fun x y hx hy => ?_
  conv => whnf
  exact hK _ _ fun _ => by rw [Int.toNat_natCast]; exact ⟨hx, hy⟩

theorem lpick.ac (D : List Int) (hd : Bytes D) (hl : D.length ≤ 1048576) (at' n : Int) (ha : 0 ≤ at' ∧ at' ≤ 1000) {K : V → List Obj → List Obj → Prop} (hK : ∀ r, 0 ≤ r → (r < n ∨ r = 0) → K (iv r) [] []) : AC Try.prog 21 [.is 1 (D.map encB), iv at', iv n] [] K := by
  have hm' : (D.map encB).length = D.length := List.length_map ..
  refine ac_body (ann [(5, [0, 1, 2, 7, 8], [])]) [] hm htt Try.func21 rfl (by kernel_rfl) rfl rfl ?_
  conv => whnf
  rcases (Bool.eq_false_or_eq_true (((D.map encB).length : Int) == 0)).symm with q | q
  all_goals rw [q]
  rotate_left
  · conv => whnf
    exact hK _ (by omega) (.inr rfl)
  conv => whnf
  have q0 : ((D.map encB).length : Int) ≠ 0 := by simpa using q
  refine vif_dec (fun q2 => ?_) (fun q2 => ?_)
  · conv => whnf
    exact hK _ (by omega) (.inr rfl)
  conv => whnf
  refine cwF_loop (fun n' st => ∃ k x : Int, (n' = (3 - k).toNat ∧ 0 ≤ k ∧ k ≤ 3 ∧ 0 ≤ x ∧ x ≤ 1000000 ∧ (k = 0 → x = 0) ∧ (k = 1 → x ≤ 255) ∧ (k = 2 → x ≤ 8160)) ∧
    st = ⟨[.is 1 (D.map encB), iv at', iv n, .un, .un, .un, .un, iv x, iv k] ++ List.replicate 29 .un, mkOb []⟩) 3 (by kernel_rfl) ⟨_, _, ?_, rfl⟩ ?_
  · exact ⟨by simp, by omega, by omega, by omega, by omega, by omega, by omega, by omega⟩
  rintro n' st ⟨k, x, ⟨rfl, k1, k2, x1, x2, x3, x4, x5⟩, rfl⟩
  conv => whnf
  refine vif_dec (fun k4 => ?_) (fun k4 => ?_)
  · conv => whnf
    refine ⟨⟨rfl, q0⟩, ?_⟩
    conv => whnf
    have e1 := wrap_i64 (x := at' + k) (by omega)
    have hx := tmod_nn (x := at' + k) (y := ((D.map encB).length : Int)) (by omega) (by omega)
    rw [e1]
    refine ⟨⟨rfl, hx.1, hx.2⟩, ?_⟩
    conv => whnf
    refine ⟨_, map_get hx, ?_⟩
    conv => whnf
    have hb := hd.get ((at' + k).tmod ((D.map encB).length : Int)).toNat
    refine ⟨by kernel_rfl, (3 - (k + 1)).toNat, by omega, _, _, ?_, rfl⟩
    rw [wrap_i64 (x := k + 1) (by omega), wrap_i64 (x := 31 * x) (by omega), wrap_i64 (x := List.getD _ _ _) (by omega), wrap_i64 (x := 31 * x + _) (by omega)]
    exact ⟨rfl, by omega, by omega, by omega, by omega, by omega, by omega, by omega⟩
  · conv => whnf
    refine ⟨⟨rfl, by omega⟩, ?_⟩
    conv => whnf
    rw [wrap_i64 (x := x + at') (by omega)]
    have hr := tmod_nn (x := x + at') (y := n) (by omega) (by omega)
    exact hK _ hr.1 (.inl hr.2)
end Go.Eng.T

namespace Go.Eng.T
open Go.Proofs Go.Eng
set_option maxRecDepth 100000
set_option maxHeartbeats 0

abbrev latO (N : Int) (up : List Int) : V := .agg [iv N, .ls (1, 0) 1 0 up.length]
def Words (up : List Int) : Prop := ∀ x ∈ up, 0 ≤ x ∧ x ≤ 18446744073709551615

/-- What is asked of lat. -/
def LatDraws : Prop := ∀ (D : List Int) (k p s : Int), k ≤ 900000 → CurI D k p s → ∀ {K : V → List Obj → List Obj → Prop},
  (∀ N up p' s', 1 ≤ N → N ≤ 8 → (up.length : Int) = N → Words up → CurI D (k + 1) p' s' → K (latO N up) [cur D p' s'] [upO up]) → AC Try.prog 83 [.lp (0,0) 3 0 0] [cur D p s] K

theorem badLat.ac (hlat : LatDraws) (D : List Int) (k p s : Int) (hk : k ≤ 800000) (hc : CurI D k p s) {K : V → List Obj → List Obj → Prop}
    (hK : ∀ N up p' s', -9223372036854775808 ≤ N → N ≤ 9223372036854775807 → 1 ≤ up.length → up.length ≤ 9 → Words up → CurI D (k + 9) p' s' → K (latO N up) [cur D p' s'] [upO up]) : AC Try.prog 44 [.lp (0,0) 3 0 0] [cur D p s] K := by
  refine ac_body (ann []) [((0, 0), true), ((4, 0), true), ((5, 0), true), ((7, 0), false), ((44, 0), false), ((20, 0), false), ((43, 0), true)] hm htt Try.func44 rfl (by kernel_rfl) rfl rfl ?_
  conv => whnf
  refine hlat D k p s (by omega) hc fun N up p1 s1 hN hN2 hu hw hc1 => ?_
  conv => whnf
  refine cpick.ac D (k + 1) p1 s1 12 (by omega) hc1 fun r p2 s2 hc2 h1 h2 => ?_
  conv => whnf
  have up9 : ∀ {j p s}, j ≤ k + 9 → CurI D j p s → CurI D (k + 9) p s := fun h c => ⟨c.d, c.l, c.p0, by have := c.pk; omega, c.s0, c.s1⟩
  refine vif_bool (fun q => ?_) (fun q => ?_)
  · conv => whnf
    refine ⟨by kernel_rfl, ?_⟩
    conv => whnf
    refine raw.ac D (k + 1 + 1) p2 s2 (by omega) hc2 fun r3 p3 s3 hc3 h3 h4 => ?_
    conv => whnf
    refine ⟨by kernel_rfl, ?_⟩
    conv => whnf
    refine cpick.ac D (k + 1 + 1 + 2) p3 s3 3 (by omega) hc3 fun r4 p4 s4 hc4 h5 h6 => ?_
    conv => whnf
    refine ⟨⟨rfl, by omega, by omega⟩, ?_⟩
    conv => whnf
    have h7 : r4 = 0 ∨ r4 = 1 ∨ r4 = 2 := by omega
    rcases h7 with rfl | rfl | rfl
    all_goals
      refine ⟨rfl, _, rfl, ?_⟩
      conv => whnf
      refine ⟨by kernel_rfl, ?_⟩
      conv => whnf
      exact hK _ _ _ _ (by first | omega | (rw [wrap_i64 (by omega)]; omega)) (by first | omega | (rw [wrap_i64 (by omega)]; omega)) (by omega) (by omega) hw (up9 (by omega) hc4)
  conv => whnf
  refine vif_bool (fun q => ?_) (fun q => ?_)
  · conv => whnf
    refine ⟨by kernel_rfl, ?_⟩
    conv => whnf
    refine cpick.ac D (k + 1 + 1) p2 s2 _ (by omega) hc2 fun r3 p3 s3 hc3 h3 h4 => ?_
    conv => whnf
    refine ⟨by kernel_rfl, ?_⟩
    conv => whnf
    refine cpick.ac D (k + 1 + 1 + 1) p3 s3 256 (by omega) hc3 fun r4 p4 s4 hc4 h5 h6 => ?_
    conv => whnf
    refine ⟨⟨rfl, by omega, by omega⟩, ?_⟩
    conv => whnf
    refine ⟨⟨rfl, rfl, List.not_mem_nil⟩, _, map_get0 ⟨h3, by rw [List.length_map]; omega⟩, fun es' he => ?_⟩
    obtain rfl : es' = (up.set r3.toNat (IntKind.u64.wrap r4)).map uv := by rw [he, Nat.zero_add, List.map_set]
    conv => whnf
    refine ⟨by kernel_rfl, ?_⟩
    conv => whnf
    have := hK N (up.set r3.toNat (IntKind.u64.wrap r4)) p4 s4 (by omega) (by omega) (by rw [List.length_set]; omega) (by rw [List.length_set]; omega) (fun x hx => by
      rcases List.mem_or_eq_of_mem_set hx with h | rfl
      · exact hw _ h
      · rw [wrap_u64 (by omega)]; omega) (up9 (by omega) hc4)
    rw [latO, List.length_set] at this
    exact this
  conv => whnf
  refine vif_bool (fun q => ?_) (fun q => ?_)
  · conv => whnf
    skip
    refine ⟨⟨by decide, rfl, rfl, by rw [List.length_map]; omega, ⟨by show (_ + 1) * 8 ≤ _; omega, by show _ + 1 ≤ _; omega⟩, rfl, by decide⟩, fun l' es' hl he => ?_⟩
    obtain rfl : es' = (up ++ [1]).map uv := by rw [he, List.drop_zero, List.take_of_length_le (by simp), List.map_append]; rfl
    obtain rfl : l' = (up ++ [1]).length := by rw [hl]; simp
    conv => whnf
    exact hK N (up ++ [1]) p2 s2 (by omega) (by omega) (by simp) (by simp; omega) (fun x hx => by
      rcases List.mem_append.1 hx with h | h
      · exact hw _ h
      · simp at h; omega) (up9 (by omega) hc2)
  · conv => whnf
    exact hK _ _ _ _ (by omega) (by omega) (by omega) (by omega) hw (up9 (by omega) hc2)
end Go.Eng.T
