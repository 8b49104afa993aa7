import Derived.Test.YtajekdeommaceaaXL6
namespace Go.Eng.T
open Go.Proofs Go.Eng
set_option maxRecDepth 100000
set_option maxHeartbeats 0
theorem lt2 {k : Nat} (h : k < 2) : k = 0 ∨ k = 1 := by omega
theorem rows2 {a : Nat} (h : a < 2) (r0 r1 : List Bool) : mkOb [((6, 0), some (.arr false 2 [.agg [iv 0, nilV]])), ((32, 0), some (.arr false 1 [.ls (41, 1) 1 0 2, .ls (41, 2) 1 0 2])), ((15, 0), none), ((161, 1), none), ((41, 0), none), ((41, 1), some (.arr true 1 (r0.map bv))), ((41, 2), some (.arr true 1 (r1.map bv))), ((41, 3), none), ((41, 4), none), ((41, 5), none), ((41, 6), none), ((41, 7), none), ((41, 8), none), ((41, 9), none)] (41, a + 1) = some (.arr true 1 (([r0, r1].getD a []).map bv)) := by
  obtain rfl | rfl := lt2 h <;> rfl
theorem lens2 {a : Nat} (h : a < 2) {r0 r1 : List Bool} (hl : r0.length = 2 ∧ r1.length = 2) : ([r0, r1].getD a []).length = 2 := by
  obtain ⟨l0, l1⟩ := hl
  obtain rfl | rfl := lt2 h <;> assumption
theorem LatOfS.ac2 {K : V → List Obj → List Obj → Prop} (hK : K (.tup [.agg [iv 2, .ls (1, 0) 1 0 2], bv true]) [] [upO [3, 2]]) : AC Try.prog 102 [iv 2, .is 2 (List.map encE [(0, 1)])] [] K := by
  refine ac_body annLatOf fkLatOf hm htt Try.func102 rfl (by kernel_rfl) rfl rfl ?_
  conv => whnf
  refine cwF_loop (fun m st => (m = 2 ∧ st = ⟨[iv 2, .is 2 (List.map encE [(0, 1)]), .un, .un, .lp (6, 0) 2 0 0, bv false, .ls (32, 0) 1 0 2, iv 0] ++ List.replicate 158 .un, mkOb [((6, 0), some (.arr false 2 [.agg [iv 0, nilV]])), ((32, 0), some (.arr false 1 [nilV, nilV])), ((15, 0), none), ((161, 1), none), ((41, 0), none), ((41, 1), none), ((41, 2), none), ((41, 3), none), ((41, 4), none), ((41, 5), none), ((41, 6), none), ((41, 7), none), ((41, 8), none), ((41, 9), none)]⟩) ∨ (m = 1 ∧ st = ⟨[iv 2, .is 2 (List.map encE [(0, 1)]), .un, .un, .lp (6, 0) 2 0 0, bv false, .ls (32, 0) 1 0 2, iv 1] ++ List.replicate 158 .un, mkOb [((6, 0), some (.arr false 2 [.agg [iv 0, nilV]])), ((32, 0), some (.arr false 1 [.ls (41, 1) 1 0 2, nilV])), ((15, 0), none), ((161, 1), none), ((41, 0), none), ((41, 1), some (.arr true 1 ([true, false].map bv))), ((41, 2), none), ((41, 3), none), ((41, 4), none), ((41, 5), none), ((41, 6), none), ((41, 7), none), ((41, 8), none), ((41, 9), none)]⟩) ∨ (m = 0 ∧ st = ⟨[iv 2, .is 2 (List.map encE [(0, 1)]), .un, .un, .lp (6, 0) 2 0 0, bv false, .ls (32, 0) 1 0 2, iv 2] ++ List.replicate 158 .un, mkOb [((6, 0), some (.arr false 2 [.agg [iv 0, nilV]])), ((32, 0), some (.arr false 1 [.ls (41, 1) 1 0 2, .ls (41, 2) 1 0 2])), ((15, 0), none), ((161, 1), none), ((41, 0), none), ((41, 1), some (.arr true 1 ([true, false].map bv))), ((41, 2), some (.arr true 1 ([false, true].map bv))), ((41, 3), none), ((41, 4), none), ((41, 5), none), ((41, 6), none), ((41, 7), none), ((41, 8), none), ((41, 9), none)]⟩)) 2 (by kernel_rfl) (.inl ⟨rfl, rfl⟩) ?_
  rintro m st (⟨rfl, rfl⟩ | ⟨rfl, rfl⟩ | ⟨rfl, rfl⟩)
  · conv => whnf
    refine ⟨⟨by decide, rfl, by decide, by decide, by decide, by decide⟩, ?_⟩
    conv => whnf
    refine ⟨⟨rfl, by decide, by decide⟩, ?_⟩
    conv => whnf
    refine ⟨⟨rfl, by decide, by decide⟩, ?_⟩
    conv => whnf
    refine ⟨⟨rfl, by decide, by decide⟩, ?_⟩
    conv => whnf
    refine ⟨_, rfl, ⟨rfl, List.not_mem_nil⟩, _, rfl, ?_⟩
    conv => whnf
    exact ⟨by kernel_rfl, 1, by decide, .inr (.inl ⟨rfl, rfl⟩)⟩
  · conv => whnf
    refine ⟨⟨by decide, rfl, by decide, by decide, by decide, by decide⟩, ?_⟩
    conv => whnf
    refine ⟨⟨rfl, by decide, by decide⟩, ?_⟩
    conv => whnf
    refine ⟨⟨rfl, by decide, by decide⟩, ?_⟩
    conv => whnf
    refine ⟨⟨rfl, by decide, by decide⟩, ?_⟩
    conv => whnf
    refine ⟨_, rfl, ⟨rfl, List.not_mem_nil⟩, _, rfl, ?_⟩
    conv => whnf
    exact ⟨by kernel_rfl, 0, by decide, .inr (.inr (⟨rfl, rfl⟩))⟩
  conv => whnf
  refine cwF_loop (fun m st => (m = 1 ∧ st = ⟨[iv 2, .is 2 (List.map encE [(0, 1)]), .un, .un, .lp (6, 0) 2 0 0, bv false, .ls (32, 0) 1 0 2, .un, iv 0] ++ List.replicate 157 .un, mkOb [((6, 0), some (.arr false 2 [.agg [iv 0, nilV]])), ((32, 0), some (.arr false 1 [.ls (41, 1) 1 0 2, .ls (41, 2) 1 0 2])), ((15, 0), none), ((161, 1), none), ((41, 0), none), ((41, 1), some (.arr true 1 ([true, false].map bv))), ((41, 2), some (.arr true 1 ([false, true].map bv))), ((41, 3), none), ((41, 4), none), ((41, 5), none), ((41, 6), none), ((41, 7), none), ((41, 8), none), ((41, 9), none)]⟩) ∨ (m = 0 ∧ st = ⟨[iv 2, .is 2 (List.map encE [(0, 1)]), .un, .un, .lp (6, 0) 2 0 0, bv false, .ls (32, 0) 1 0 2, .un, iv 1] ++ List.replicate 157 .un, mkOb [((6, 0), some (.arr false 2 [.agg [iv 0, nilV]])), ((32, 0), some (.arr false 1 [.ls (41, 1) 1 0 2, .ls (41, 2) 1 0 2])), ((15, 0), none), ((161, 1), none), ((41, 0), none), ((41, 1), some (.arr true 1 ([true, true].map bv))), ((41, 2), some (.arr true 1 ([false, true].map bv))), ((41, 3), none), ((41, 4), none), ((41, 5), none), ((41, 6), none), ((41, 7), none), ((41, 8), none), ((41, 9), none)]⟩)) 1 (by kernel_rfl) (.inl ⟨rfl, rfl⟩) ?_
  rintro m st (⟨rfl, rfl⟩ | ⟨rfl, rfl⟩)
  · conv => whnf
    refine ⟨⟨rfl, by decide, by decide⟩, ?_⟩
    conv => whnf
    refine ⟨_, rfl, ?_⟩
    conv => whnf
    refine ⟨⟨rfl, by decide, by decide⟩, ?_⟩
    conv => whnf
    refine ⟨⟨rfl, by decide, by decide⟩, ?_⟩
    conv => whnf
    refine ⟨_, rfl, ⟨rfl, List.not_mem_nil⟩, _, rfl, ?_⟩
    conv => whnf
    refine ⟨by kernel_rfl, ?_⟩
    conv => whnf
    exact ⟨by kernel_rfl, 0, by decide, .inr (⟨rfl, rfl⟩)⟩
  conv => whnf
  refine cwF_loop (fun m st => ∃ (z : Int) (e0 e1 : List V), (∃ (k : Nat) (r0 r1 : List Bool), m = 2 - k ∧ k ≤ 2 ∧ z = (k : Nat) ∧ [r0, r1] = fwK 2 [[true, true], [false, true]] k ∧ (r0.length = 2 ∧ r1.length = 2) ∧ e0 = r0.map bv ∧ e1 = r1.map bv) ∧ st = ⟨[iv 2, .un, .un, .un, .lp (6, 0) 2 0 0, bv false, .ls (32, 0) 1 0 2, .un, .un, .un, iv z] ++ List.replicate 155 .un, mkOb [((6, 0), some (.arr false 2 [.agg [iv 0, nilV]])), ((32, 0), some (.arr false 1 [.ls (41, 1) 1 0 2, .ls (41, 2) 1 0 2])), ((15, 0), none), ((161, 1), none), ((41, 0), none), ((41, 1), some (.arr true 1 e0)), ((41, 2), some (.arr true 1 e1)), ((41, 3), none), ((41, 4), none), ((41, 5), none), ((41, 6), none), ((41, 7), none), ((41, 8), none), ((41, 9), none)]⟩) 2 (by kernel_rfl) ⟨_, _, _, ⟨0, [true, true], [false, true], rfl, by decide, rfl, fwK_zero.symm, ⟨rfl, rfl⟩, rfl, rfl⟩, rfl⟩ ?_
  rintro m st ⟨z, e0, e1, ⟨k, r0, r1, rfl, hk, rfl, hM1, hl1, rfl, rfl⟩, rfl⟩
  conv => whnf
  refine vif_dec (fun h1 => ?_) (fun h1 => ?_)
  · conv => whnf
    refine cwF_loop (fun m st => ∃ (z : Int) (e0 e1 : List V), (∃ (a : Nat) (r0 r1 : List Bool), m = 2 - a ∧ a ≤ 2 ∧ z = (a : Nat) ∧ [r0, r1] = fwA 2 (fwK 2 [[true, true], [false, true]] k) k a ∧ (r0.length = 2 ∧ r1.length = 2) ∧ e0 = r0.map bv ∧ e1 = r1.map bv) ∧ st = ⟨[iv 2, .un, .un, .un, .lp (6, 0) 2 0 0, bv false, .ls (32, 0) 1 0 2, .un, .un, .un, iv (k : Nat), iv z] ++ List.replicate 154 .un, mkOb [((6, 0), some (.arr false 2 [.agg [iv 0, nilV]])), ((32, 0), some (.arr false 1 [.ls (41, 1) 1 0 2, .ls (41, 2) 1 0 2])), ((15, 0), none), ((161, 1), none), ((41, 0), none), ((41, 1), some (.arr true 1 e0)), ((41, 2), some (.arr true 1 e1)), ((41, 3), none), ((41, 4), none), ((41, 5), none), ((41, 6), none), ((41, 7), none), ((41, 8), none), ((41, 9), none)]⟩) 2 (by kernel_rfl) ⟨_, _, _, ⟨0, r0, r1, rfl, by decide, rfl, hM1.trans fwA_zero.symm, hl1, rfl, rfl⟩, rfl⟩ ?_
    clear hM1 hl1
    rintro m st ⟨z, e0, e1, ⟨a, r0, r1, rfl, ha, rfl, hM2, hl2, rfl, rfl⟩, rfl⟩
    conv => whnf
    refine vif_dec (fun h2 => ?_) (fun h2 => ?_)
    · conv => whnf
      refine cwF_loop (fun m st => ∃ (z : Int) (e0 e1 : List V), (∃ (b : Nat) (r0 r1 : List Bool), m = 2 - b ∧ b ≤ 2 ∧ z = (b : Nat) ∧ [r0, r1] = fwR (fwA 2 (fwK 2 [[true, true], [false, true]] k) k a) k a b ∧ (r0.length = 2 ∧ r1.length = 2) ∧ e0 = r0.map bv ∧ e1 = r1.map bv) ∧ st = ⟨[iv 2, .un, .un, .un, .lp (6, 0) 2 0 0, bv false, .ls (32, 0) 1 0 2, .un, .un, .un, iv (k : Nat), iv (a : Nat), iv z] ++ List.replicate 153 .un, mkOb [((6, 0), some (.arr false 2 [.agg [iv 0, nilV]])), ((32, 0), some (.arr false 1 [.ls (41, 1) 1 0 2, .ls (41, 2) 1 0 2])), ((15, 0), none), ((161, 1), none), ((41, 0), none), ((41, 1), some (.arr true 1 e0)), ((41, 2), some (.arr true 1 e1)), ((41, 3), none), ((41, 4), none), ((41, 5), none), ((41, 6), none), ((41, 7), none), ((41, 8), none), ((41, 9), none)]⟩) 2 (by kernel_rfl) ⟨_, _, _, ⟨0, r0, r1, rfl, by decide, rfl, hM2.trans fwR_zero.symm, hl2, rfl, rfl⟩, rfl⟩ ?_
      clear hM2 hl2
      rintro m st ⟨z, e0, e1, ⟨b, r0, r1, rfl, hb, rfl, hM3, hl3, rfl, rfl⟩, rfl⟩
      have la := lens2 (a := a) (by omega) hl3
      have lk := lens2 (a := k) (by omega) hl3
      conv => whnf
      refine vif_dec (fun h3 => ?_) (fun h3 => ?_)
      · conv => whnf
        refine ⟨⟨rfl, by omega, by omega⟩, ?_⟩
        conv => whnf
        refine ob_eq (v := (.ls (41, a + 1) 1 0 2, [])) (by obtain rfl | rfl := lt2 (by omega : a < 2) <;> rfl) ?_
        conv => whnf
        refine ⟨⟨rfl, by omega, by omega⟩, ?_⟩
        conv => whnf
        refine ob_eq (v := (.ls (41, a + 1) 1 0 2, [])) (by obtain rfl | rfl := lt2 (by omega : a < 2) <;> rfl) ?_
        conv => whnf
        refine ⟨⟨rfl, by omega, by omega⟩, ?_⟩
        conv => whnf
        refine ⟨_, rows2 (by omega) r0 r1, ask_row (by omega) fun x hx => ?_⟩
        cases x
        · conv => whnf
          refine ⟨⟨rfl, by omega, by omega⟩, ?_⟩
          conv => whnf
          refine ob_eq (v := (.ls (41, a + 1) 1 0 2, [])) (by obtain rfl | rfl := lt2 (by omega : a < 2) <;> rfl) ?_
          conv => whnf
          refine ⟨⟨rfl, by omega, by omega⟩, ?_⟩
          conv => whnf
          refine ⟨_, rows2 (by omega) r0 r1, ask_row (by omega) fun y hy => ?_⟩
          cases y
          · conv => whnf
            refine ⟨⟨rfl, by omega, by omega⟩, ?_⟩
            conv => whnf
            refine ⟨_, rows2 (by omega) r0 r1, ⟨rfl, List.not_mem_nil⟩, _, row_get (by omega) hx, ?_⟩
            conv => whnf
            refine ⟨by kernel_rfl, ?_⟩
            conv => whnf
            have hN : fwR (fwA 2 (fwK 2 [[true, true], [false, true]] k) k a) k a (b + 1) = [r0, r1].set a (([r0, r1].getD a []).set b false) := by rw [fwR_succ, ← hM3, fwB, hx, hy]; rfl
            clear hM3 hx la lk
            obtain ⟨l0, l1⟩ := hl3
            obtain rfl | rfl := lt2 (by omega : a < 2)
            · exact ⟨by kernel_rfl, 2 - (b + 1), by omega, _, _, _, ⟨b + 1, r0.set b false, r1, rfl, by omega, wrap_i64 (by omega), hN.symm, ⟨by rw [List.length_set]; exact l0, l1⟩, row_set, rfl⟩, rfl⟩
            · exact ⟨by kernel_rfl, 2 - (b + 1), by omega, _, _, _, ⟨b + 1, r0, r1.set b false, rfl, by omega, wrap_i64 (by omega), hN.symm, ⟨l0, by rw [List.length_set]; exact l1⟩, rfl, row_set⟩, rfl⟩
          · conv => whnf
            refine ⟨⟨rfl, by omega, by omega⟩, ?_⟩
            conv => whnf
            refine ob_eq (v := (.ls (41, k + 1) 1 0 2, [])) (by obtain rfl | rfl := lt2 (by omega : k < 2) <;> rfl) ?_
            conv => whnf
            refine ⟨⟨rfl, by omega, by omega⟩, ?_⟩
            conv => whnf
            refine ⟨_, rows2 (by omega) r0 r1, ask_row (by omega) fun z hz => ?_⟩
            conv => whnf
            refine ⟨⟨rfl, by omega, by omega⟩, ?_⟩
            conv => whnf
            refine ⟨_, rows2 (by omega) r0 r1, ⟨rfl, List.not_mem_nil⟩, _, row_get (by omega) hx, ?_⟩
            conv => whnf
            refine ⟨by kernel_rfl, ?_⟩
            conv => whnf
            have hN : fwR (fwA 2 (fwK 2 [[true, true], [false, true]] k) k a) k a (b + 1) = [r0, r1].set a (([r0, r1].getD a []).set b z) := by rw [fwR_succ, ← hM3, fwB, hx, hy, hz]; rfl
            clear hM3 hx la lk
            obtain ⟨l0, l1⟩ := hl3
            obtain rfl | rfl := lt2 (by omega : a < 2)
            · exact ⟨by kernel_rfl, 2 - (b + 1), by omega, _, _, _, ⟨b + 1, r0.set b z, r1, rfl, by omega, wrap_i64 (by omega), hN.symm, ⟨by rw [List.length_set]; exact l0, l1⟩, row_set, rfl⟩, rfl⟩
            · exact ⟨by kernel_rfl, 2 - (b + 1), by omega, _, _, _, ⟨b + 1, r0, r1.set b z, rfl, by omega, wrap_i64 (by omega), hN.symm, ⟨l0, by rw [List.length_set]; exact l1⟩, rfl, row_set⟩, rfl⟩
        · conv => whnf
          refine ⟨⟨rfl, by omega, by omega⟩, ?_⟩
          conv => whnf
          refine ⟨_, rows2 (by omega) r0 r1, ⟨rfl, List.not_mem_nil⟩, _, row_get (by omega) hx, ?_⟩
          conv => whnf
          refine ⟨by kernel_rfl, ?_⟩
          conv => whnf
          have hN : fwR (fwA 2 (fwK 2 [[true, true], [false, true]] k) k a) k a (b + 1) = [r0, r1].set a (([r0, r1].getD a []).set b true) := by rw [fwR_succ, ← hM3, fwB, hx]; rfl
          clear hM3 hx la lk
          obtain ⟨l0, l1⟩ := hl3
          obtain rfl | rfl := lt2 (by omega : a < 2)
          · exact ⟨by kernel_rfl, 2 - (b + 1), by omega, _, _, _, ⟨b + 1, r0.set b true, r1, rfl, by omega, wrap_i64 (by omega), hN.symm, ⟨by rw [List.length_set]; exact l0, l1⟩, row_set, rfl⟩, rfl⟩
          · exact ⟨by kernel_rfl, 2 - (b + 1), by omega, _, _, _, ⟨b + 1, r0, r1.set b true, rfl, by omega, wrap_i64 (by omega), hN.symm, ⟨l0, by rw [List.length_set]; exact l1⟩, rfl, row_set⟩, rfl⟩
      · conv => whnf
        obtain rfl : b = 2 := by omega
        exact ⟨by kernel_rfl, 2 - (a + 1), by omega, _, _, _, ⟨a + 1, r0, r1, rfl, by omega, wrap_i64 (by omega), by rw [fwA_succ]; exact hM3, hl3, rfl, rfl⟩, rfl⟩
    · conv => whnf
      obtain rfl : a = 2 := by omega
      exact ⟨by kernel_rfl, 2 - (k + 1), by omega, _, _, _, ⟨k + 1, r0, r1, rfl, by omega, wrap_i64 (by omega), by rw [fwK_succ]; exact hM2, hl2, rfl, rfl⟩, rfl⟩
  obtain rfl : k = 2 := by omega
  have hE : fwK 2 [[true, true], [false, true]] 2 = [[true, true], [false, true]] := by kernel_rfl
  rw [hE] at hM1
  clear hE hl1
  simp only [List.cons.injEq, and_true] at hM1
  obtain ⟨rfl, rfl⟩ := hM1
  conv => whnf
  refine cwF_loop (fun m st => (m = 2 ∧ st = ⟨[iv 2, .un, .un, .un, .lp (6, 0) 2 0 0, bv false, .ls (32, 0) 1 0 2] ++ List.replicate 6 .un ++ [.lp (15, 0) 2 0 0, iv 0] ++ List.replicate 151 .un, mkOb [((6, 0), some (.arr false 2 [.agg [iv 0, nilV]])), ((32, 0), some (.arr false 1 [.ls (41, 1) 1 0 2, .ls (41, 2) 1 0 2])), ((15, 0), some (.arr false 2 [.agg [iv 2, nilV]])), ((161, 1), none), ((41, 0), none), ((41, 1), some (.arr true 1 ([true, true].map bv))), ((41, 2), some (.arr true 1 ([false, true].map bv))), ((41, 3), none), ((41, 4), none), ((41, 5), none), ((41, 6), none), ((41, 7), none), ((41, 8), none), ((41, 9), none)]⟩) ∨ (m = 1 ∧ st = ⟨[iv 2, .un, .un, .un, .lp (6, 0) 2 0 0, bv false, .ls (32, 0) 1 0 2] ++ List.replicate 6 .un ++ [.lp (15, 0) 2 0 0, iv 1] ++ List.replicate 151 .un, mkOb [((6, 0), some (.arr false 2 [.agg [iv 0, nilV]])), ((32, 0), some (.arr false 1 [.ls (41, 1) 1 0 2, .ls (41, 2) 1 0 2])), ((15, 0), some (.arr false 2 [.agg [iv 2, .ls (161, 1) 1 0 1]])), ((161, 1), some (.arr true 1 [uv 3])), ((41, 0), none), ((41, 1), some (.arr true 1 ([true, true].map bv))), ((41, 2), some (.arr true 1 ([false, true].map bv))), ((41, 3), none), ((41, 4), none), ((41, 5), none), ((41, 6), none), ((41, 7), none), ((41, 8), none), ((41, 9), none)]⟩) ∨ (m = 0 ∧ st = ⟨[iv 2, .un, .un, .un, .lp (6, 0) 2 0 0, bv false, .ls (32, 0) 1 0 2] ++ List.replicate 6 .un ++ [.lp (15, 0) 2 0 0, iv 2] ++ List.replicate 151 .un, mkOb [((6, 0), some (.arr false 2 [.agg [iv 0, nilV]])), ((32, 0), some (.arr false 1 [.ls (41, 1) 1 0 2, .ls (41, 2) 1 0 2])), ((15, 0), some (.arr false 2 [.agg [iv 2, .ls (161, 1) 1 0 2]])), ((161, 1), some (.arr true 1 [uv 3, uv 2])), ((41, 0), none), ((41, 1), some (.arr true 1 ([true, true].map bv))), ((41, 2), some (.arr true 1 ([false, true].map bv))), ((41, 3), none), ((41, 4), none), ((41, 5), none), ((41, 6), none), ((41, 7), none), ((41, 8), none), ((41, 9), none)]⟩)) 2 (by kernel_rfl) (.inl ⟨rfl, rfl⟩) ?_
  rintro m st (⟨rfl, rfl⟩ | ⟨rfl, rfl⟩ | ⟨rfl, rfl⟩)
  · conv => whnf
    refine cwF_loop (fun m st => ∃ z x : Int, (∃ b : Nat, m = 2 - b ∧ b ≤ 2 ∧ z = (b : Nat) ∧ x = wp [true, true] b) ∧ st = ⟨[iv 2, .un, .un, .un, .lp (6, 0) 2 0 0, bv false, .ls (32, 0) 1 0 2] ++ List.replicate 6 .un ++ [.lp (15, 0) 2 0 0, iv 0, uv x, iv z] ++ List.replicate 149 .un, mkOb [((6, 0), some (.arr false 2 [.agg [iv 0, nilV]])), ((32, 0), some (.arr false 1 [.ls (41, 1) 1 0 2, .ls (41, 2) 1 0 2])), ((15, 0), some (.arr false 2 [.agg [iv 2, nilV]])), ((161, 1), none), ((41, 0), none), ((41, 1), some (.arr true 1 ([true, true].map bv))), ((41, 2), some (.arr true 1 ([false, true].map bv))), ((41, 3), none), ((41, 4), none), ((41, 5), none), ((41, 6), none), ((41, 7), none), ((41, 8), none), ((41, 9), none)]⟩) 2 (by kernel_rfl) ⟨_, _, ⟨0, rfl, by decide, rfl, rfl⟩, rfl⟩ ?_
    rintro m st ⟨z, x, ⟨b, rfl, hb, rfl, rfl⟩, rfl⟩
    skip
    conv => whnf
    refine vif_dec (fun h1 => ?_) (fun h1 => ?_)
    · conv => whnf
      refine ⟨⟨rfl, by decide, by decide⟩, ?_⟩
      conv => whnf
      refine ⟨⟨rfl, by omega, by omega⟩, ?_⟩
      conv => whnf
      refine ⟨_, rfl, ask_row (r := [true, true]) (b := b) (by simp; omega) fun y hy => ?_⟩
      cases y
      · conv => whnf
        exact ⟨by kernel_rfl, 2 - (b + 1), by omega, _, _, ⟨b + 1, rfl, by omega, wrap_i64 (by omega), by rw [wp_succ, hy]; rfl⟩, rfl⟩
      · conv => whnf
        refine l01Power.ac _ (by omega) ?_
        conv => whnf
        exact ⟨by kernel_rfl, 2 - (b + 1), by omega, _, _, ⟨b + 1, rfl, by omega, wrap_i64 (by omega), by rw [wp_succ, hy]; exact wrap_u64 (wp_add (by omega)) ⟩, rfl⟩
    · conv => whnf
      obtain rfl : b = 2 := by omega
      refine ⟨⟨by decide, by decide, rfl⟩, ?_⟩
      conv => whnf
      exact ⟨by kernel_rfl, 1, by decide, .inr (.inl ⟨rfl, rfl⟩)⟩
  · conv => whnf
    refine cwF_loop (fun m st => ∃ z x : Int, (∃ b : Nat, m = 2 - b ∧ b ≤ 2 ∧ z = (b : Nat) ∧ x = wp [false, true] b) ∧ st = ⟨[iv 2, .un, .un, .un, .lp (6, 0) 2 0 0, bv false, .ls (32, 0) 1 0 2] ++ List.replicate 6 .un ++ [.lp (15, 0) 2 0 0, iv 1, uv x, iv z] ++ List.replicate 149 .un, mkOb [((6, 0), some (.arr false 2 [.agg [iv 0, nilV]])), ((32, 0), some (.arr false 1 [.ls (41, 1) 1 0 2, .ls (41, 2) 1 0 2])), ((15, 0), some (.arr false 2 [.agg [iv 2, .ls (161, 1) 1 0 1]])), ((161, 1), some (.arr true 1 [uv 3])), ((41, 0), none), ((41, 1), some (.arr true 1 ([true, true].map bv))), ((41, 2), some (.arr true 1 ([false, true].map bv))), ((41, 3), none), ((41, 4), none), ((41, 5), none), ((41, 6), none), ((41, 7), none), ((41, 8), none), ((41, 9), none)]⟩) 2 (by kernel_rfl) ⟨_, _, ⟨0, rfl, by decide, rfl, rfl⟩, rfl⟩ ?_
    rintro m st ⟨z, x, ⟨b, rfl, hb, rfl, rfl⟩, rfl⟩
    skip
    conv => whnf
    refine vif_dec (fun h1 => ?_) (fun h1 => ?_)
    · conv => whnf
      refine ⟨⟨rfl, by decide, by decide⟩, ?_⟩
      conv => whnf
      refine ⟨⟨rfl, by omega, by omega⟩, ?_⟩
      conv => whnf
      refine ⟨_, rfl, ask_row (r := [false, true]) (b := b) (by simp; omega) fun y hy => ?_⟩
      cases y
      · conv => whnf
        exact ⟨by kernel_rfl, 2 - (b + 1), by omega, _, _, ⟨b + 1, rfl, by omega, wrap_i64 (by omega), by rw [wp_succ, hy]; rfl⟩, rfl⟩
      · conv => whnf
        refine l01Power.ac _ (by omega) ?_
        conv => whnf
        exact ⟨by kernel_rfl, 2 - (b + 1), by omega, _, _, ⟨b + 1, rfl, by omega, wrap_i64 (by omega), by rw [wp_succ, hy]; exact wrap_u64 (wp_add (by omega)) ⟩, rfl⟩
    · conv => whnf
      obtain rfl : b = 2 := by omega
      exact ⟨by kernel_rfl, 0, by decide, .inr (.inr (⟨rfl, rfl⟩))⟩
  conv => whnf
  refine LatOkS.acW 2 [3, 2] fun r hr => ?_
  obtain rfl : r = true := hr.2 (latB_P (by kernel_rfl))
  conv => whnf
  exact hK
end Go.Eng.T
