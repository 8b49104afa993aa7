import Derived.Test.YtajekdeommaceaaXL6
namespace Go.Eng.T
open Go.Proofs Go.Eng
set_option maxRecDepth 100000
set_option maxHeartbeats 0
theorem lt3 {k : Nat} (h : k < 3) : k = 0 ∨ k = 1 ∨ k = 2 := by omega
theorem rows3 {a : Nat} (h : a < 3) (r0 r1 r2 : List Bool) : mkOb [((6, 0), some (.arr false 2 [.agg [iv 0, nilV]])), ((32, 0), some (.arr false 1 [.ls (41, 1) 1 0 3, .ls (41, 2) 1 0 3, .ls (41, 3) 1 0 3])), ((15, 0), none), ((161, 1), none), ((41, 0), none), ((41, 1), some (.arr true 1 (r0.map bv))), ((41, 2), some (.arr true 1 (r1.map bv))), ((41, 3), some (.arr true 1 (r2.map bv))), ((41, 4), none), ((41, 5), none), ((41, 6), none), ((41, 7), none), ((41, 8), none), ((41, 9), none)] (41, a + 1) = some (.arr true 1 (([r0, r1, r2].getD a []).map bv)) := by
  obtain rfl | rfl | rfl := lt3 h <;> rfl
theorem lens3 {a : Nat} (h : a < 3) {r0 r1 r2 : List Bool} (hl : r0.length = 3 ∧ r1.length = 3 ∧ r2.length = 3) : ([r0, r1, r2].getD a []).length = 3 := by
  obtain ⟨l0, l1, l2⟩ := hl
  obtain rfl | rfl | rfl := lt3 h <;> assumption
theorem LatOfS.ac3 {K : V → List Obj → List Obj → Prop} (hK : K (.tup [.agg [iv 3, .ls (1, 0) 1 0 3], bv true]) [] [upO [7, 6, 4]]) : AC Try.prog 102 [iv 3, .is 2 (List.map encE [(0, 1), (1, 2)])] [] K := by
  refine ac_body annLatOf fkLatOf hm htt Try.func102 rfl (by kernel_rfl) rfl rfl ?_
  conv => whnf
  refine cwF_loop (fun m st => (m = 3 ∧ st = ⟨[iv 3, .is 2 (List.map encE [(0, 1), (1, 2)]), .un, .un, .lp (6, 0) 2 0 0, bv false, .ls (32, 0) 1 0 3, iv 0] ++ List.replicate 158 .un, mkOb [((6, 0), some (.arr false 2 [.agg [iv 0, nilV]])), ((32, 0), some (.arr false 1 [nilV, nilV, nilV])), ((15, 0), none), ((161, 1), none), ((41, 0), none), ((41, 1), none), ((41, 2), none), ((41, 3), none), ((41, 4), none), ((41, 5), none), ((41, 6), none), ((41, 7), none), ((41, 8), none), ((41, 9), none)]⟩) ∨ (m = 2 ∧ st = ⟨[iv 3, .is 2 (List.map encE [(0, 1), (1, 2)]), .un, .un, .lp (6, 0) 2 0 0, bv false, .ls (32, 0) 1 0 3, iv 1] ++ List.replicate 158 .un, mkOb [((6, 0), some (.arr false 2 [.agg [iv 0, nilV]])), ((32, 0), some (.arr false 1 [.ls (41, 1) 1 0 3, nilV, nilV])), ((15, 0), none), ((161, 1), none), ((41, 0), none), ((41, 1), some (.arr true 1 ([true, false, false].map bv))), ((41, 2), none), ((41, 3), none), ((41, 4), none), ((41, 5), none), ((41, 6), none), ((41, 7), none), ((41, 8), none), ((41, 9), none)]⟩) ∨ (m = 1 ∧ st = ⟨[iv 3, .is 2 (List.map encE [(0, 1), (1, 2)]), .un, .un, .lp (6, 0) 2 0 0, bv false, .ls (32, 0) 1 0 3, iv 2] ++ List.replicate 158 .un, mkOb [((6, 0), some (.arr false 2 [.agg [iv 0, nilV]])), ((32, 0), some (.arr false 1 [.ls (41, 1) 1 0 3, .ls (41, 2) 1 0 3, nilV])), ((15, 0), none), ((161, 1), none), ((41, 0), none), ((41, 1), some (.arr true 1 ([true, false, false].map bv))), ((41, 2), some (.arr true 1 ([false, true, false].map bv))), ((41, 3), none), ((41, 4), none), ((41, 5), none), ((41, 6), none), ((41, 7), none), ((41, 8), none), ((41, 9), none)]⟩) ∨ (m = 0 ∧ st = ⟨[iv 3, .is 2 (List.map encE [(0, 1), (1, 2)]), .un, .un, .lp (6, 0) 2 0 0, bv false, .ls (32, 0) 1 0 3, iv 3] ++ List.replicate 158 .un, mkOb [((6, 0), some (.arr false 2 [.agg [iv 0, nilV]])), ((32, 0), some (.arr false 1 [.ls (41, 1) 1 0 3, .ls (41, 2) 1 0 3, .ls (41, 3) 1 0 3])), ((15, 0), none), ((161, 1), none), ((41, 0), none), ((41, 1), some (.arr true 1 ([true, false, false].map bv))), ((41, 2), some (.arr true 1 ([false, true, false].map bv))), ((41, 3), some (.arr true 1 ([false, false, true].map bv))), ((41, 4), none), ((41, 5), none), ((41, 6), none), ((41, 7), none), ((41, 8), none), ((41, 9), none)]⟩)) 3 (by kernel_rfl) (.inl ⟨rfl, rfl⟩) ?_
  rintro m st (⟨rfl, rfl⟩ | ⟨rfl, rfl⟩ | ⟨rfl, rfl⟩ | ⟨rfl, rfl⟩)
  · conv => whnf
    refine ⟨⟨by decide, rfl, by decide, by decide, by decide, by decide⟩, ?_⟩
    conv => whnf
    refine ⟨⟨rfl, by decide, by decide⟩, ?_⟩
    conv => whnf
    refine ⟨⟨rfl, by decide, by decide⟩, ?_⟩
    conv => whnf
    refine ⟨⟨rfl, by decide, by decide⟩, ?_⟩
    conv => whnf
    refine ⟨_, rfl, ⟨rfl, List.not_mem_nil⟩, _, rfl, ?_⟩
    conv => whnf
    exact ⟨by kernel_rfl, 2, by decide, .inr (.inl ⟨rfl, rfl⟩)⟩
  · conv => whnf
    refine ⟨⟨by decide, rfl, by decide, by decide, by decide, by decide⟩, ?_⟩
    conv => whnf
    refine ⟨⟨rfl, by decide, by decide⟩, ?_⟩
    conv => whnf
    refine ⟨⟨rfl, by decide, by decide⟩, ?_⟩
    conv => whnf
    refine ⟨⟨rfl, by decide, by decide⟩, ?_⟩
    conv => whnf
    refine ⟨_, rfl, ⟨rfl, List.not_mem_nil⟩, _, rfl, ?_⟩
    conv => whnf
    exact ⟨by kernel_rfl, 1, by decide, .inr (.inr (.inl ⟨rfl, rfl⟩))⟩
  · conv => whnf
    refine ⟨⟨by decide, rfl, by decide, by decide, by decide, by decide⟩, ?_⟩
    conv => whnf
    refine ⟨⟨rfl, by decide, by decide⟩, ?_⟩
    conv => whnf
    refine ⟨⟨rfl, by decide, by decide⟩, ?_⟩
    conv => whnf
    refine ⟨⟨rfl, by decide, by decide⟩, ?_⟩
    conv => whnf
    refine ⟨_, rfl, ⟨rfl, List.not_mem_nil⟩, _, rfl, ?_⟩
    conv => whnf
    exact ⟨by kernel_rfl, 0, by decide, .inr (.inr (.inr (⟨rfl, rfl⟩)))⟩
  conv => whnf
  refine cwF_loop (fun m st => (m = 2 ∧ st = ⟨[iv 3, .is 2 (List.map encE [(0, 1), (1, 2)]), .un, .un, .lp (6, 0) 2 0 0, bv false, .ls (32, 0) 1 0 3, .un, iv 0] ++ List.replicate 157 .un, mkOb [((6, 0), some (.arr false 2 [.agg [iv 0, nilV]])), ((32, 0), some (.arr false 1 [.ls (41, 1) 1 0 3, .ls (41, 2) 1 0 3, .ls (41, 3) 1 0 3])), ((15, 0), none), ((161, 1), none), ((41, 0), none), ((41, 1), some (.arr true 1 ([true, false, false].map bv))), ((41, 2), some (.arr true 1 ([false, true, false].map bv))), ((41, 3), some (.arr true 1 ([false, false, true].map bv))), ((41, 4), none), ((41, 5), none), ((41, 6), none), ((41, 7), none), ((41, 8), none), ((41, 9), none)]⟩) ∨ (m = 1 ∧ st = ⟨[iv 3, .is 2 (List.map encE [(0, 1), (1, 2)]), .un, .un, .lp (6, 0) 2 0 0, bv false, .ls (32, 0) 1 0 3, .un, iv 1] ++ List.replicate 157 .un, mkOb [((6, 0), some (.arr false 2 [.agg [iv 0, nilV]])), ((32, 0), some (.arr false 1 [.ls (41, 1) 1 0 3, .ls (41, 2) 1 0 3, .ls (41, 3) 1 0 3])), ((15, 0), none), ((161, 1), none), ((41, 0), none), ((41, 1), some (.arr true 1 ([true, true, false].map bv))), ((41, 2), some (.arr true 1 ([false, true, false].map bv))), ((41, 3), some (.arr true 1 ([false, false, true].map bv))), ((41, 4), none), ((41, 5), none), ((41, 6), none), ((41, 7), none), ((41, 8), none), ((41, 9), none)]⟩) ∨ (m = 0 ∧ st = ⟨[iv 3, .is 2 (List.map encE [(0, 1), (1, 2)]), .un, .un, .lp (6, 0) 2 0 0, bv false, .ls (32, 0) 1 0 3, .un, iv 2] ++ List.replicate 157 .un, mkOb [((6, 0), some (.arr false 2 [.agg [iv 0, nilV]])), ((32, 0), some (.arr false 1 [.ls (41, 1) 1 0 3, .ls (41, 2) 1 0 3, .ls (41, 3) 1 0 3])), ((15, 0), none), ((161, 1), none), ((41, 0), none), ((41, 1), some (.arr true 1 ([true, true, false].map bv))), ((41, 2), some (.arr true 1 ([false, true, true].map bv))), ((41, 3), some (.arr true 1 ([false, false, true].map bv))), ((41, 4), none), ((41, 5), none), ((41, 6), none), ((41, 7), none), ((41, 8), none), ((41, 9), none)]⟩)) 2 (by kernel_rfl) (.inl ⟨rfl, rfl⟩) ?_
  rintro m st (⟨rfl, rfl⟩ | ⟨rfl, rfl⟩ | ⟨rfl, rfl⟩)
  · conv => whnf
    refine ⟨⟨rfl, by decide, by decide⟩, ?_⟩
    conv => whnf
    refine ⟨_, rfl, ?_⟩
    conv => whnf
    refine ⟨⟨rfl, by decide, by decide⟩, ?_⟩
    conv => whnf
    refine ⟨⟨rfl, by decide, by decide⟩, ?_⟩
    conv => whnf
    refine ⟨_, rfl, ⟨rfl, List.not_mem_nil⟩, _, rfl, ?_⟩
    conv => whnf
    refine ⟨by kernel_rfl, ?_⟩
    conv => whnf
    exact ⟨by kernel_rfl, 1, by decide, .inr (.inl ⟨rfl, rfl⟩)⟩
  · conv => whnf
    refine ⟨⟨rfl, by decide, by decide⟩, ?_⟩
    conv => whnf
    refine ⟨_, rfl, ?_⟩
    conv => whnf
    refine ⟨⟨rfl, by decide, by decide⟩, ?_⟩
    conv => whnf
    refine ⟨⟨rfl, by decide, by decide⟩, ?_⟩
    conv => whnf
    refine ⟨_, rfl, ⟨rfl, List.not_mem_nil⟩, _, rfl, ?_⟩
    conv => whnf
    refine ⟨by kernel_rfl, ?_⟩
    conv => whnf
    exact ⟨by kernel_rfl, 0, by decide, .inr (.inr (⟨rfl, rfl⟩))⟩
  conv => whnf
  refine cwF_loop (fun m st => ∃ (z : Int) (e0 e1 e2 : List V), (∃ (k : Nat) (r0 r1 r2 : List Bool), m = 3 - k ∧ k ≤ 3 ∧ z = (k : Nat) ∧ [r0, r1, r2] = fwK 3 [[true, true, false], [false, true, true], [false, false, true]] k ∧ (r0.length = 3 ∧ r1.length = 3 ∧ r2.length = 3) ∧ e0 = r0.map bv ∧ e1 = r1.map bv ∧ e2 = r2.map bv) ∧ st = ⟨[iv 3, .un, .un, .un, .lp (6, 0) 2 0 0, bv false, .ls (32, 0) 1 0 3, .un, .un, .un, iv z] ++ List.replicate 155 .un, mkOb [((6, 0), some (.arr false 2 [.agg [iv 0, nilV]])), ((32, 0), some (.arr false 1 [.ls (41, 1) 1 0 3, .ls (41, 2) 1 0 3, .ls (41, 3) 1 0 3])), ((15, 0), none), ((161, 1), none), ((41, 0), none), ((41, 1), some (.arr true 1 e0)), ((41, 2), some (.arr true 1 e1)), ((41, 3), some (.arr true 1 e2)), ((41, 4), none), ((41, 5), none), ((41, 6), none), ((41, 7), none), ((41, 8), none), ((41, 9), none)]⟩) 3 (by kernel_rfl) ⟨_, _, _, _, ⟨0, [true, true, false], [false, true, true], [false, false, true], rfl, by decide, rfl, fwK_zero.symm, ⟨rfl, rfl, rfl⟩, rfl, rfl, rfl⟩, rfl⟩ ?_
  rintro m st ⟨z, e0, e1, e2, ⟨k, r0, r1, r2, rfl, hk, rfl, hM1, hl1, rfl, rfl, rfl⟩, rfl⟩
  conv => whnf
  refine vif_dec (fun h1 => ?_) (fun h1 => ?_)
  · conv => whnf
    refine cwF_loop (fun m st => ∃ (z : Int) (e0 e1 e2 : List V), (∃ (a : Nat) (r0 r1 r2 : List Bool), m = 3 - a ∧ a ≤ 3 ∧ z = (a : Nat) ∧ [r0, r1, r2] = fwA 3 (fwK 3 [[true, true, false], [false, true, true], [false, false, true]] k) k a ∧ (r0.length = 3 ∧ r1.length = 3 ∧ r2.length = 3) ∧ e0 = r0.map bv ∧ e1 = r1.map bv ∧ e2 = r2.map bv) ∧ st = ⟨[iv 3, .un, .un, .un, .lp (6, 0) 2 0 0, bv false, .ls (32, 0) 1 0 3, .un, .un, .un, iv (k : Nat), iv z] ++ List.replicate 154 .un, mkOb [((6, 0), some (.arr false 2 [.agg [iv 0, nilV]])), ((32, 0), some (.arr false 1 [.ls (41, 1) 1 0 3, .ls (41, 2) 1 0 3, .ls (41, 3) 1 0 3])), ((15, 0), none), ((161, 1), none), ((41, 0), none), ((41, 1), some (.arr true 1 e0)), ((41, 2), some (.arr true 1 e1)), ((41, 3), some (.arr true 1 e2)), ((41, 4), none), ((41, 5), none), ((41, 6), none), ((41, 7), none), ((41, 8), none), ((41, 9), none)]⟩) 3 (by kernel_rfl) ⟨_, _, _, _, ⟨0, r0, r1, r2, rfl, by decide, rfl, hM1.trans fwA_zero.symm, hl1, rfl, rfl, rfl⟩, rfl⟩ ?_
    clear hM1 hl1
    rintro m st ⟨z, e0, e1, e2, ⟨a, r0, r1, r2, rfl, ha, rfl, hM2, hl2, rfl, rfl, rfl⟩, rfl⟩
    conv => whnf
    refine vif_dec (fun h2 => ?_) (fun h2 => ?_)
    · conv => whnf
      refine cwF_loop (fun m st => ∃ (z : Int) (e0 e1 e2 : List V), (∃ (b : Nat) (r0 r1 r2 : List Bool), m = 3 - b ∧ b ≤ 3 ∧ z = (b : Nat) ∧ [r0, r1, r2] = fwR (fwA 3 (fwK 3 [[true, true, false], [false, true, true], [false, false, true]] k) k a) k a b ∧ (r0.length = 3 ∧ r1.length = 3 ∧ r2.length = 3) ∧ e0 = r0.map bv ∧ e1 = r1.map bv ∧ e2 = r2.map bv) ∧ st = ⟨[iv 3, .un, .un, .un, .lp (6, 0) 2 0 0, bv false, .ls (32, 0) 1 0 3, .un, .un, .un, iv (k : Nat), iv (a : Nat), iv z] ++ List.replicate 153 .un, mkOb [((6, 0), some (.arr false 2 [.agg [iv 0, nilV]])), ((32, 0), some (.arr false 1 [.ls (41, 1) 1 0 3, .ls (41, 2) 1 0 3, .ls (41, 3) 1 0 3])), ((15, 0), none), ((161, 1), none), ((41, 0), none), ((41, 1), some (.arr true 1 e0)), ((41, 2), some (.arr true 1 e1)), ((41, 3), some (.arr true 1 e2)), ((41, 4), none), ((41, 5), none), ((41, 6), none), ((41, 7), none), ((41, 8), none), ((41, 9), none)]⟩) 3 (by kernel_rfl) ⟨_, _, _, _, ⟨0, r0, r1, r2, rfl, by decide, rfl, hM2.trans fwR_zero.symm, hl2, rfl, rfl, rfl⟩, rfl⟩ ?_
      clear hM2 hl2
      rintro m st ⟨z, e0, e1, e2, ⟨b, r0, r1, r2, rfl, hb, rfl, hM3, hl3, rfl, rfl, rfl⟩, rfl⟩
      have la := lens3 (a := a) (by omega) hl3
      have lk := lens3 (a := k) (by omega) hl3
      conv => whnf
      refine vif_dec (fun h3 => ?_) (fun h3 => ?_)
      · conv => whnf
        refine ⟨⟨rfl, by omega, by omega⟩, ?_⟩
        conv => whnf
        refine ob_eq (v := (.ls (41, a + 1) 1 0 3, [])) (by obtain rfl | rfl | rfl := lt3 (by omega : a < 3) <;> rfl) ?_
        conv => whnf
        refine ⟨⟨rfl, by omega, by omega⟩, ?_⟩
        conv => whnf
        refine ob_eq (v := (.ls (41, a + 1) 1 0 3, [])) (by obtain rfl | rfl | rfl := lt3 (by omega : a < 3) <;> rfl) ?_
        conv => whnf
        refine ⟨⟨rfl, by omega, by omega⟩, ?_⟩
        conv => whnf
        refine ⟨_, rows3 (by omega) r0 r1 r2, ask_row (by omega) fun x hx => ?_⟩
        cases x
        · conv => whnf
          refine ⟨⟨rfl, by omega, by omega⟩, ?_⟩
          conv => whnf
          refine ob_eq (v := (.ls (41, a + 1) 1 0 3, [])) (by obtain rfl | rfl | rfl := lt3 (by omega : a < 3) <;> rfl) ?_
          conv => whnf
          refine ⟨⟨rfl, by omega, by omega⟩, ?_⟩
          conv => whnf
          refine ⟨_, rows3 (by omega) r0 r1 r2, ask_row (by omega) fun y hy => ?_⟩
          cases y
          · conv => whnf
            refine ⟨⟨rfl, by omega, by omega⟩, ?_⟩
            conv => whnf
            refine ⟨_, rows3 (by omega) r0 r1 r2, ⟨rfl, List.not_mem_nil⟩, _, row_get (by omega) hx, ?_⟩
            conv => whnf
            refine ⟨by kernel_rfl, ?_⟩
            conv => whnf
            have hN : fwR (fwA 3 (fwK 3 [[true, true, false], [false, true, true], [false, false, true]] k) k a) k a (b + 1) = [r0, r1, r2].set a (([r0, r1, r2].getD a []).set b false) := by rw [fwR_succ, ← hM3, fwB, hx, hy]; rfl
            clear hM3 hx la lk
            obtain ⟨l0, l1, l2⟩ := hl3
            obtain rfl | rfl | rfl := lt3 (by omega : a < 3)
            · exact ⟨by kernel_rfl, 3 - (b + 1), by omega, _, _, _, _, ⟨b + 1, r0.set b false, r1, r2, rfl, by omega, wrap_i64 (by omega), hN.symm, ⟨by rw [List.length_set]; exact l0, l1, l2⟩, row_set, rfl, rfl⟩, rfl⟩
            · exact ⟨by kernel_rfl, 3 - (b + 1), by omega, _, _, _, _, ⟨b + 1, r0, r1.set b false, r2, rfl, by omega, wrap_i64 (by omega), hN.symm, ⟨l0, by rw [List.length_set]; exact l1, l2⟩, rfl, row_set, rfl⟩, rfl⟩
            · exact ⟨by kernel_rfl, 3 - (b + 1), by omega, _, _, _, _, ⟨b + 1, r0, r1, r2.set b false, rfl, by omega, wrap_i64 (by omega), hN.symm, ⟨l0, l1, by rw [List.length_set]; exact l2⟩, rfl, rfl, row_set⟩, rfl⟩
          · conv => whnf
            refine ⟨⟨rfl, by omega, by omega⟩, ?_⟩
            conv => whnf
            refine ob_eq (v := (.ls (41, k + 1) 1 0 3, [])) (by obtain rfl | rfl | rfl := lt3 (by omega : k < 3) <;> rfl) ?_
            conv => whnf
            refine ⟨⟨rfl, by omega, by omega⟩, ?_⟩
            conv => whnf
            refine ⟨_, rows3 (by omega) r0 r1 r2, ask_row (by omega) fun z hz => ?_⟩
            conv => whnf
            refine ⟨⟨rfl, by omega, by omega⟩, ?_⟩
            conv => whnf
            refine ⟨_, rows3 (by omega) r0 r1 r2, ⟨rfl, List.not_mem_nil⟩, _, row_get (by omega) hx, ?_⟩
            conv => whnf
            refine ⟨by kernel_rfl, ?_⟩
            conv => whnf
            have hN : fwR (fwA 3 (fwK 3 [[true, true, false], [false, true, true], [false, false, true]] k) k a) k a (b + 1) = [r0, r1, r2].set a (([r0, r1, r2].getD a []).set b z) := by rw [fwR_succ, ← hM3, fwB, hx, hy, hz]; rfl
            clear hM3 hx la lk
            obtain ⟨l0, l1, l2⟩ := hl3
            obtain rfl | rfl | rfl := lt3 (by omega : a < 3)
            · exact ⟨by kernel_rfl, 3 - (b + 1), by omega, _, _, _, _, ⟨b + 1, r0.set b z, r1, r2, rfl, by omega, wrap_i64 (by omega), hN.symm, ⟨by rw [List.length_set]; exact l0, l1, l2⟩, row_set, rfl, rfl⟩, rfl⟩
            · exact ⟨by kernel_rfl, 3 - (b + 1), by omega, _, _, _, _, ⟨b + 1, r0, r1.set b z, r2, rfl, by omega, wrap_i64 (by omega), hN.symm, ⟨l0, by rw [List.length_set]; exact l1, l2⟩, rfl, row_set, rfl⟩, rfl⟩
            · exact ⟨by kernel_rfl, 3 - (b + 1), by omega, _, _, _, _, ⟨b + 1, r0, r1, r2.set b z, rfl, by omega, wrap_i64 (by omega), hN.symm, ⟨l0, l1, by rw [List.length_set]; exact l2⟩, rfl, rfl, row_set⟩, rfl⟩
        · conv => whnf
          refine ⟨⟨rfl, by omega, by omega⟩, ?_⟩
          conv => whnf
          refine ⟨_, rows3 (by omega) r0 r1 r2, ⟨rfl, List.not_mem_nil⟩, _, row_get (by omega) hx, ?_⟩
          conv => whnf
          refine ⟨by kernel_rfl, ?_⟩
          conv => whnf
          have hN : fwR (fwA 3 (fwK 3 [[true, true, false], [false, true, true], [false, false, true]] k) k a) k a (b + 1) = [r0, r1, r2].set a (([r0, r1, r2].getD a []).set b true) := by rw [fwR_succ, ← hM3, fwB, hx]; rfl
          clear hM3 hx la lk
          obtain ⟨l0, l1, l2⟩ := hl3
          obtain rfl | rfl | rfl := lt3 (by omega : a < 3)
          · exact ⟨by kernel_rfl, 3 - (b + 1), by omega, _, _, _, _, ⟨b + 1, r0.set b true, r1, r2, rfl, by omega, wrap_i64 (by omega), hN.symm, ⟨by rw [List.length_set]; exact l0, l1, l2⟩, row_set, rfl, rfl⟩, rfl⟩
          · exact ⟨by kernel_rfl, 3 - (b + 1), by omega, _, _, _, _, ⟨b + 1, r0, r1.set b true, r2, rfl, by omega, wrap_i64 (by omega), hN.symm, ⟨l0, by rw [List.length_set]; exact l1, l2⟩, rfl, row_set, rfl⟩, rfl⟩
          · exact ⟨by kernel_rfl, 3 - (b + 1), by omega, _, _, _, _, ⟨b + 1, r0, r1, r2.set b true, rfl, by omega, wrap_i64 (by omega), hN.symm, ⟨l0, l1, by rw [List.length_set]; exact l2⟩, rfl, rfl, row_set⟩, rfl⟩
      · conv => whnf
        obtain rfl : b = 3 := by omega
        exact ⟨by kernel_rfl, 3 - (a + 1), by omega, _, _, _, _, ⟨a + 1, r0, r1, r2, rfl, by omega, wrap_i64 (by omega), by rw [fwA_succ]; exact hM3, hl3, rfl, rfl, rfl⟩, rfl⟩
    · conv => whnf
      obtain rfl : a = 3 := by omega
      exact ⟨by kernel_rfl, 3 - (k + 1), by omega, _, _, _, _, ⟨k + 1, r0, r1, r2, rfl, by omega, wrap_i64 (by omega), by rw [fwK_succ]; exact hM2, hl2, rfl, rfl, rfl⟩, rfl⟩
  obtain rfl : k = 3 := by omega
  have hE : fwK 3 [[true, true, false], [false, true, true], [false, false, true]] 3 = [[true, true, true], [false, true, true], [false, false, true]] := by kernel_rfl
  rw [hE] at hM1
  clear hE hl1
  simp only [List.cons.injEq, and_true] at hM1
  obtain ⟨rfl, rfl, rfl⟩ := hM1
  conv => whnf
  refine cwF_loop (fun m st => (m = 3 ∧ st = ⟨[iv 3, .un, .un, .un, .lp (6, 0) 2 0 0, bv false, .ls (32, 0) 1 0 3] ++ List.replicate 6 .un ++ [.lp (15, 0) 2 0 0, iv 0] ++ List.replicate 151 .un, mkOb [((6, 0), some (.arr false 2 [.agg [iv 0, nilV]])), ((32, 0), some (.arr false 1 [.ls (41, 1) 1 0 3, .ls (41, 2) 1 0 3, .ls (41, 3) 1 0 3])), ((15, 0), some (.arr false 2 [.agg [iv 3, nilV]])), ((161, 1), none), ((41, 0), none), ((41, 1), some (.arr true 1 ([true, true, true].map bv))), ((41, 2), some (.arr true 1 ([false, true, true].map bv))), ((41, 3), some (.arr true 1 ([false, false, true].map bv))), ((41, 4), none), ((41, 5), none), ((41, 6), none), ((41, 7), none), ((41, 8), none), ((41, 9), none)]⟩) ∨ (m = 2 ∧ st = ⟨[iv 3, .un, .un, .un, .lp (6, 0) 2 0 0, bv false, .ls (32, 0) 1 0 3] ++ List.replicate 6 .un ++ [.lp (15, 0) 2 0 0, iv 1] ++ List.replicate 151 .un, mkOb [((6, 0), some (.arr false 2 [.agg [iv 0, nilV]])), ((32, 0), some (.arr false 1 [.ls (41, 1) 1 0 3, .ls (41, 2) 1 0 3, .ls (41, 3) 1 0 3])), ((15, 0), some (.arr false 2 [.agg [iv 3, .ls (161, 1) 1 0 1]])), ((161, 1), some (.arr true 1 [uv 7])), ((41, 0), none), ((41, 1), some (.arr true 1 ([true, true, true].map bv))), ((41, 2), some (.arr true 1 ([false, true, true].map bv))), ((41, 3), some (.arr true 1 ([false, false, true].map bv))), ((41, 4), none), ((41, 5), none), ((41, 6), none), ((41, 7), none), ((41, 8), none), ((41, 9), none)]⟩) ∨ (m = 1 ∧ st = ⟨[iv 3, .un, .un, .un, .lp (6, 0) 2 0 0, bv false, .ls (32, 0) 1 0 3] ++ List.replicate 6 .un ++ [.lp (15, 0) 2 0 0, iv 2] ++ List.replicate 151 .un, mkOb [((6, 0), some (.arr false 2 [.agg [iv 0, nilV]])), ((32, 0), some (.arr false 1 [.ls (41, 1) 1 0 3, .ls (41, 2) 1 0 3, .ls (41, 3) 1 0 3])), ((15, 0), some (.arr false 2 [.agg [iv 3, .ls (161, 1) 1 0 2]])), ((161, 1), some (.arr true 1 [uv 7, uv 6])), ((41, 0), none), ((41, 1), some (.arr true 1 ([true, true, true].map bv))), ((41, 2), some (.arr true 1 ([false, true, true].map bv))), ((41, 3), some (.arr true 1 ([false, false, true].map bv))), ((41, 4), none), ((41, 5), none), ((41, 6), none), ((41, 7), none), ((41, 8), none), ((41, 9), none)]⟩) ∨ (m = 0 ∧ st = ⟨[iv 3, .un, .un, .un, .lp (6, 0) 2 0 0, bv false, .ls (32, 0) 1 0 3] ++ List.replicate 6 .un ++ [.lp (15, 0) 2 0 0, iv 3] ++ List.replicate 151 .un, mkOb [((6, 0), some (.arr false 2 [.agg [iv 0, nilV]])), ((32, 0), some (.arr false 1 [.ls (41, 1) 1 0 3, .ls (41, 2) 1 0 3, .ls (41, 3) 1 0 3])), ((15, 0), some (.arr false 2 [.agg [iv 3, .ls (161, 1) 1 0 3]])), ((161, 1), some (.arr true 1 [uv 7, uv 6, uv 4])), ((41, 0), none), ((41, 1), some (.arr true 1 ([true, true, true].map bv))), ((41, 2), some (.arr true 1 ([false, true, true].map bv))), ((41, 3), some (.arr true 1 ([false, false, true].map bv))), ((41, 4), none), ((41, 5), none), ((41, 6), none), ((41, 7), none), ((41, 8), none), ((41, 9), none)]⟩)) 3 (by kernel_rfl) (.inl ⟨rfl, rfl⟩) ?_
  rintro m st (⟨rfl, rfl⟩ | ⟨rfl, rfl⟩ | ⟨rfl, rfl⟩ | ⟨rfl, rfl⟩)
  · conv => whnf
    refine cwF_loop (fun m st => ∃ z x : Int, (∃ b : Nat, m = 3 - b ∧ b ≤ 3 ∧ z = (b : Nat) ∧ x = wp [true, true, true] b) ∧ st = ⟨[iv 3, .un, .un, .un, .lp (6, 0) 2 0 0, bv false, .ls (32, 0) 1 0 3] ++ List.replicate 6 .un ++ [.lp (15, 0) 2 0 0, iv 0, uv x, iv z] ++ List.replicate 149 .un, mkOb [((6, 0), some (.arr false 2 [.agg [iv 0, nilV]])), ((32, 0), some (.arr false 1 [.ls (41, 1) 1 0 3, .ls (41, 2) 1 0 3, .ls (41, 3) 1 0 3])), ((15, 0), some (.arr false 2 [.agg [iv 3, nilV]])), ((161, 1), none), ((41, 0), none), ((41, 1), some (.arr true 1 ([true, true, true].map bv))), ((41, 2), some (.arr true 1 ([false, true, true].map bv))), ((41, 3), some (.arr true 1 ([false, false, true].map bv))), ((41, 4), none), ((41, 5), none), ((41, 6), none), ((41, 7), none), ((41, 8), none), ((41, 9), none)]⟩) 3 (by kernel_rfl) ⟨_, _, ⟨0, rfl, by decide, rfl, rfl⟩, rfl⟩ ?_
    rintro m st ⟨z, x, ⟨b, rfl, hb, rfl, rfl⟩, rfl⟩
    skip
    conv => whnf
    refine vif_dec (fun h1 => ?_) (fun h1 => ?_)
    · conv => whnf
      refine ⟨⟨rfl, by decide, by decide⟩, ?_⟩
      conv => whnf
      refine ⟨⟨rfl, by omega, by omega⟩, ?_⟩
      conv => whnf
      refine ⟨_, rfl, ask_row (r := [true, true, true]) (b := b) (by simp; omega) fun y hy => ?_⟩
      cases y
      · conv => whnf
        exact ⟨by kernel_rfl, 3 - (b + 1), by omega, _, _, ⟨b + 1, rfl, by omega, wrap_i64 (by omega), by rw [wp_succ, hy]; rfl⟩, rfl⟩
      · conv => whnf
        refine l01Power.ac _ (by omega) ?_
        conv => whnf
        exact ⟨by kernel_rfl, 3 - (b + 1), by omega, _, _, ⟨b + 1, rfl, by omega, wrap_i64 (by omega), by rw [wp_succ, hy]; exact wrap_u64 (wp_add (by omega)) ⟩, rfl⟩
    · conv => whnf
      obtain rfl : b = 3 := by omega
      refine ⟨⟨by decide, by decide, rfl⟩, ?_⟩
      conv => whnf
      exact ⟨by kernel_rfl, 2, by decide, .inr (.inl ⟨rfl, rfl⟩)⟩
  · conv => whnf
    refine cwF_loop (fun m st => ∃ z x : Int, (∃ b : Nat, m = 3 - b ∧ b ≤ 3 ∧ z = (b : Nat) ∧ x = wp [false, true, true] b) ∧ st = ⟨[iv 3, .un, .un, .un, .lp (6, 0) 2 0 0, bv false, .ls (32, 0) 1 0 3] ++ List.replicate 6 .un ++ [.lp (15, 0) 2 0 0, iv 1, uv x, iv z] ++ List.replicate 149 .un, mkOb [((6, 0), some (.arr false 2 [.agg [iv 0, nilV]])), ((32, 0), some (.arr false 1 [.ls (41, 1) 1 0 3, .ls (41, 2) 1 0 3, .ls (41, 3) 1 0 3])), ((15, 0), some (.arr false 2 [.agg [iv 3, .ls (161, 1) 1 0 1]])), ((161, 1), some (.arr true 1 [uv 7])), ((41, 0), none), ((41, 1), some (.arr true 1 ([true, true, true].map bv))), ((41, 2), some (.arr true 1 ([false, true, true].map bv))), ((41, 3), some (.arr true 1 ([false, false, true].map bv))), ((41, 4), none), ((41, 5), none), ((41, 6), none), ((41, 7), none), ((41, 8), none), ((41, 9), none)]⟩) 3 (by kernel_rfl) ⟨_, _, ⟨0, rfl, by decide, rfl, rfl⟩, rfl⟩ ?_
    rintro m st ⟨z, x, ⟨b, rfl, hb, rfl, rfl⟩, rfl⟩
    skip
    conv => whnf
    refine vif_dec (fun h1 => ?_) (fun h1 => ?_)
    · conv => whnf
      refine ⟨⟨rfl, by decide, by decide⟩, ?_⟩
      conv => whnf
      refine ⟨⟨rfl, by omega, by omega⟩, ?_⟩
      conv => whnf
      refine ⟨_, rfl, ask_row (r := [false, true, true]) (b := b) (by simp; omega) fun y hy => ?_⟩
      cases y
      · conv => whnf
        exact ⟨by kernel_rfl, 3 - (b + 1), by omega, _, _, ⟨b + 1, rfl, by omega, wrap_i64 (by omega), by rw [wp_succ, hy]; rfl⟩, rfl⟩
      · conv => whnf
        refine l01Power.ac _ (by omega) ?_
        conv => whnf
        exact ⟨by kernel_rfl, 3 - (b + 1), by omega, _, _, ⟨b + 1, rfl, by omega, wrap_i64 (by omega), by rw [wp_succ, hy]; exact wrap_u64 (wp_add (by omega)) ⟩, rfl⟩
    · conv => whnf
      obtain rfl : b = 3 := by omega
      exact ⟨by kernel_rfl, 1, by decide, .inr (.inr (.inl ⟨rfl, rfl⟩))⟩
  · conv => whnf
    refine cwF_loop (fun m st => ∃ z x : Int, (∃ b : Nat, m = 3 - b ∧ b ≤ 3 ∧ z = (b : Nat) ∧ x = wp [false, false, true] b) ∧ st = ⟨[iv 3, .un, .un, .un, .lp (6, 0) 2 0 0, bv false, .ls (32, 0) 1 0 3] ++ List.replicate 6 .un ++ [.lp (15, 0) 2 0 0, iv 2, uv x, iv z] ++ List.replicate 149 .un, mkOb [((6, 0), some (.arr false 2 [.agg [iv 0, nilV]])), ((32, 0), some (.arr false 1 [.ls (41, 1) 1 0 3, .ls (41, 2) 1 0 3, .ls (41, 3) 1 0 3])), ((15, 0), some (.arr false 2 [.agg [iv 3, .ls (161, 1) 1 0 2]])), ((161, 1), some (.arr true 1 [uv 7, uv 6])), ((41, 0), none), ((41, 1), some (.arr true 1 ([true, true, true].map bv))), ((41, 2), some (.arr true 1 ([false, true, true].map bv))), ((41, 3), some (.arr true 1 ([false, false, true].map bv))), ((41, 4), none), ((41, 5), none), ((41, 6), none), ((41, 7), none), ((41, 8), none), ((41, 9), none)]⟩) 3 (by kernel_rfl) ⟨_, _, ⟨0, rfl, by decide, rfl, rfl⟩, rfl⟩ ?_
    rintro m st ⟨z, x, ⟨b, rfl, hb, rfl, rfl⟩, rfl⟩
    skip
    conv => whnf
    refine vif_dec (fun h1 => ?_) (fun h1 => ?_)
    · conv => whnf
      refine ⟨⟨rfl, by decide, by decide⟩, ?_⟩
      conv => whnf
      refine ⟨⟨rfl, by omega, by omega⟩, ?_⟩
      conv => whnf
      refine ⟨_, rfl, ask_row (r := [false, false, true]) (b := b) (by simp; omega) fun y hy => ?_⟩
      cases y
      · conv => whnf
        exact ⟨by kernel_rfl, 3 - (b + 1), by omega, _, _, ⟨b + 1, rfl, by omega, wrap_i64 (by omega), by rw [wp_succ, hy]; rfl⟩, rfl⟩
      · conv => whnf
        refine l01Power.ac _ (by omega) ?_
        conv => whnf
        exact ⟨by kernel_rfl, 3 - (b + 1), by omega, _, _, ⟨b + 1, rfl, by omega, wrap_i64 (by omega), by rw [wp_succ, hy]; exact wrap_u64 (wp_add (by omega)) ⟩, rfl⟩
    · conv => whnf
      obtain rfl : b = 3 := by omega
      exact ⟨by kernel_rfl, 0, by decide, .inr (.inr (.inr (⟨rfl, rfl⟩)))⟩
  conv => whnf
  refine LatOkS.acW 3 [7, 6, 4] fun r hr => ?_
  obtain rfl : r = true := hr.2 (latB_P (by kernel_rfl))
  conv => whnf
  exact hK
end Go.Eng.T
