import Derived.Test.YtajekdeommaceaaXL6
namespace Go.Eng.T
open Go.Proofs Go.Eng
set_option maxRecDepth 100000
set_option maxHeartbeats 0
theorem lt5 {k : Nat} (h : k < 5) : k = 0 ∨ k = 1 ∨ k = 2 ∨ k = 3 ∨ k = 4 := by omega
theorem rows5 {a : Nat} (h : a < 5) (r0 r1 r2 r3 r4 : List Bool) : mkOb [((6, 0), some (.arr false 2 [.agg [iv 0, nilV]])), ((32, 0), some (.arr false 1 [.ls (41, 1) 1 0 5, .ls (41, 2) 1 0 5, .ls (41, 3) 1 0 5, .ls (41, 4) 1 0 5, .ls (41, 5) 1 0 5])), ((15, 0), none), ((161, 1), none), ((41, 0), none), ((41, 1), some (.arr true 1 (r0.map bv))), ((41, 2), some (.arr true 1 (r1.map bv))), ((41, 3), some (.arr true 1 (r2.map bv))), ((41, 4), some (.arr true 1 (r3.map bv))), ((41, 5), some (.arr true 1 (r4.map bv))), ((41, 6), none), ((41, 7), none), ((41, 8), none), ((41, 9), none)] (41, a + 1) = some (.arr true 1 (([r0, r1, r2, r3, r4].getD a []).map bv)) := by
  obtain rfl | rfl | rfl | rfl | rfl := lt5 h <;> rfl
theorem lens5 {a : Nat} (h : a < 5) {r0 r1 r2 r3 r4 : List Bool} (hl : r0.length = 5 ∧ r1.length = 5 ∧ r2.length = 5 ∧ r3.length = 5 ∧ r4.length = 5) : ([r0, r1, r2, r3, r4].getD a []).length = 5 := by
  obtain ⟨l0, l1, l2, l3, l4⟩ := hl
  obtain rfl | rfl | rfl | rfl | rfl := lt5 h <;> assumption
theorem LatOfS.ac5 {K : V → List Obj → List Obj → Prop} (hK : K (.tup [.agg [iv 5, .ls (1, 0) 1 0 5], bv true]) [] [upO [9, 10, 12, 8, 31]]) : AC Try.prog 102 [iv 5, .is 2 (List.map encE [(4, 0), (4, 1), (4, 2), (0, 3), (1, 3), (2, 3)])] [] K := by
  refine ac_body annLatOf fkLatOf hm htt Try.func102 rfl (by kernel_rfl) rfl rfl ?_
  conv => whnf
  refine cwF_loop (fun m st => (m = 5 ∧ st = ⟨[iv 5, .is 2 (List.map encE [(4, 0), (4, 1), (4, 2), (0, 3), (1, 3), (2, 3)]), .un, .un, .lp (6, 0) 2 0 0, bv false, .ls (32, 0) 1 0 5, iv 0] ++ List.replicate 158 .un, mkOb [((6, 0), some (.arr false 2 [.agg [iv 0, nilV]])), ((32, 0), some (.arr false 1 [nilV, nilV, nilV, nilV, nilV])), ((15, 0), none), ((161, 1), none), ((41, 0), none), ((41, 1), none), ((41, 2), none), ((41, 3), none), ((41, 4), none), ((41, 5), none), ((41, 6), none), ((41, 7), none), ((41, 8), none), ((41, 9), none)]⟩) ∨ (m = 4 ∧ st = ⟨[iv 5, .is 2 (List.map encE [(4, 0), (4, 1), (4, 2), (0, 3), (1, 3), (2, 3)]), .un, .un, .lp (6, 0) 2 0 0, bv false, .ls (32, 0) 1 0 5, iv 1] ++ List.replicate 158 .un, mkOb [((6, 0), some (.arr false 2 [.agg [iv 0, nilV]])), ((32, 0), some (.arr false 1 [.ls (41, 1) 1 0 5, nilV, nilV, nilV, nilV])), ((15, 0), none), ((161, 1), none), ((41, 0), none), ((41, 1), some (.arr true 1 ([true, false, false, false, false].map bv))), ((41, 2), none), ((41, 3), none), ((41, 4), none), ((41, 5), none), ((41, 6), none), ((41, 7), none), ((41, 8), none), ((41, 9), none)]⟩) ∨ (m = 3 ∧ st = ⟨[iv 5, .is 2 (List.map encE [(4, 0), (4, 1), (4, 2), (0, 3), (1, 3), (2, 3)]), .un, .un, .lp (6, 0) 2 0 0, bv false, .ls (32, 0) 1 0 5, iv 2] ++ List.replicate 158 .un, mkOb [((6, 0), some (.arr false 2 [.agg [iv 0, nilV]])), ((32, 0), some (.arr false 1 [.ls (41, 1) 1 0 5, .ls (41, 2) 1 0 5, nilV, nilV, nilV])), ((15, 0), none), ((161, 1), none), ((41, 0), none), ((41, 1), some (.arr true 1 ([true, false, false, false, false].map bv))), ((41, 2), some (.arr true 1 ([false, true, false, false, false].map bv))), ((41, 3), none), ((41, 4), none), ((41, 5), none), ((41, 6), none), ((41, 7), none), ((41, 8), none), ((41, 9), none)]⟩) ∨ (m = 2 ∧ st = ⟨[iv 5, .is 2 (List.map encE [(4, 0), (4, 1), (4, 2), (0, 3), (1, 3), (2, 3)]), .un, .un, .lp (6, 0) 2 0 0, bv false, .ls (32, 0) 1 0 5, iv 3] ++ List.replicate 158 .un, mkOb [((6, 0), some (.arr false 2 [.agg [iv 0, nilV]])), ((32, 0), some (.arr false 1 [.ls (41, 1) 1 0 5, .ls (41, 2) 1 0 5, .ls (41, 3) 1 0 5, nilV, nilV])), ((15, 0), none), ((161, 1), none), ((41, 0), none), ((41, 1), some (.arr true 1 ([true, false, false, false, false].map bv))), ((41, 2), some (.arr true 1 ([false, true, false, false, false].map bv))), ((41, 3), some (.arr true 1 ([false, false, true, false, false].map bv))), ((41, 4), none), ((41, 5), none), ((41, 6), none), ((41, 7), none), ((41, 8), none), ((41, 9), none)]⟩) ∨ (m = 1 ∧ st = ⟨[iv 5, .is 2 (List.map encE [(4, 0), (4, 1), (4, 2), (0, 3), (1, 3), (2, 3)]), .un, .un, .lp (6, 0) 2 0 0, bv false, .ls (32, 0) 1 0 5, iv 4] ++ List.replicate 158 .un, mkOb [((6, 0), some (.arr false 2 [.agg [iv 0, nilV]])), ((32, 0), some (.arr false 1 [.ls (41, 1) 1 0 5, .ls (41, 2) 1 0 5, .ls (41, 3) 1 0 5, .ls (41, 4) 1 0 5, nilV])), ((15, 0), none), ((161, 1), none), ((41, 0), none), ((41, 1), some (.arr true 1 ([true, false, false, false, false].map bv))), ((41, 2), some (.arr true 1 ([false, true, false, false, false].map bv))), ((41, 3), some (.arr true 1 ([false, false, true, false, false].map bv))), ((41, 4), some (.arr true 1 ([false, false, false, true, false].map bv))), ((41, 5), none), ((41, 6), none), ((41, 7), none), ((41, 8), none), ((41, 9), none)]⟩) ∨ (m = 0 ∧ st = ⟨[iv 5, .is 2 (List.map encE [(4, 0), (4, 1), (4, 2), (0, 3), (1, 3), (2, 3)]), .un, .un, .lp (6, 0) 2 0 0, bv false, .ls (32, 0) 1 0 5, iv 5] ++ List.replicate 158 .un, mkOb [((6, 0), some (.arr false 2 [.agg [iv 0, nilV]])), ((32, 0), some (.arr false 1 [.ls (41, 1) 1 0 5, .ls (41, 2) 1 0 5, .ls (41, 3) 1 0 5, .ls (41, 4) 1 0 5, .ls (41, 5) 1 0 5])), ((15, 0), none), ((161, 1), none), ((41, 0), none), ((41, 1), some (.arr true 1 ([true, false, false, false, false].map bv))), ((41, 2), some (.arr true 1 ([false, true, false, false, false].map bv))), ((41, 3), some (.arr true 1 ([false, false, true, false, false].map bv))), ((41, 4), some (.arr true 1 ([false, false, false, true, false].map bv))), ((41, 5), some (.arr true 1 ([false, false, false, false, true].map bv))), ((41, 6), none), ((41, 7), none), ((41, 8), none), ((41, 9), none)]⟩)) 5 (by kernel_rfl) (.inl ⟨rfl, rfl⟩) ?_
  rintro m st (⟨rfl, rfl⟩ | ⟨rfl, rfl⟩ | ⟨rfl, rfl⟩ | ⟨rfl, rfl⟩ | ⟨rfl, rfl⟩ | ⟨rfl, rfl⟩)
  · conv => whnf
    refine ⟨⟨by decide, rfl, by decide, by decide, by decide, by decide⟩, ?_⟩
    conv => whnf
    refine ⟨⟨rfl, by decide, by decide⟩, ?_⟩
    conv => whnf
    refine ⟨⟨rfl, by decide, by decide⟩, ?_⟩
    conv => whnf
    refine ⟨⟨rfl, by decide, by decide⟩, ?_⟩
    conv => whnf
    refine ⟨_, rfl, ⟨rfl, List.not_mem_nil⟩, _, rfl, ?_⟩
    conv => whnf
    exact ⟨by kernel_rfl, 4, by decide, .inr (.inl ⟨rfl, rfl⟩)⟩
  · conv => whnf
    refine ⟨⟨by decide, rfl, by decide, by decide, by decide, by decide⟩, ?_⟩
    conv => whnf
    refine ⟨⟨rfl, by decide, by decide⟩, ?_⟩
    conv => whnf
    refine ⟨⟨rfl, by decide, by decide⟩, ?_⟩
    conv => whnf
    refine ⟨⟨rfl, by decide, by decide⟩, ?_⟩
    conv => whnf
    refine ⟨_, rfl, ⟨rfl, List.not_mem_nil⟩, _, rfl, ?_⟩
    conv => whnf
    exact ⟨by kernel_rfl, 3, by decide, .inr (.inr (.inl ⟨rfl, rfl⟩))⟩
  · conv => whnf
    refine ⟨⟨by decide, rfl, by decide, by decide, by decide, by decide⟩, ?_⟩
    conv => whnf
    refine ⟨⟨rfl, by decide, by decide⟩, ?_⟩
    conv => whnf
    refine ⟨⟨rfl, by decide, by decide⟩, ?_⟩
    conv => whnf
    refine ⟨⟨rfl, by decide, by decide⟩, ?_⟩
    conv => whnf
    refine ⟨_, rfl, ⟨rfl, List.not_mem_nil⟩, _, rfl, ?_⟩
    conv => whnf
    exact ⟨by kernel_rfl, 2, by decide, .inr (.inr (.inr (.inl ⟨rfl, rfl⟩)))⟩
  · conv => whnf
    refine ⟨⟨by decide, rfl, by decide, by decide, by decide, by decide⟩, ?_⟩
    conv => whnf
    refine ⟨⟨rfl, by decide, by decide⟩, ?_⟩
    conv => whnf
    refine ⟨⟨rfl, by decide, by decide⟩, ?_⟩
    conv => whnf
    refine ⟨⟨rfl, by decide, by decide⟩, ?_⟩
    conv => whnf
    refine ⟨_, rfl, ⟨rfl, List.not_mem_nil⟩, _, rfl, ?_⟩
    conv => whnf
    exact ⟨by kernel_rfl, 1, by decide, .inr (.inr (.inr (.inr (.inl ⟨rfl, rfl⟩))))⟩
  · conv => whnf
    refine ⟨⟨by decide, rfl, by decide, by decide, by decide, by decide⟩, ?_⟩
    conv => whnf
    refine ⟨⟨rfl, by decide, by decide⟩, ?_⟩
    conv => whnf
    refine ⟨⟨rfl, by decide, by decide⟩, ?_⟩
    conv => whnf
    refine ⟨⟨rfl, by decide, by decide⟩, ?_⟩
    conv => whnf
    refine ⟨_, rfl, ⟨rfl, List.not_mem_nil⟩, _, rfl, ?_⟩
    conv => whnf
    exact ⟨by kernel_rfl, 0, by decide, .inr (.inr (.inr (.inr (.inr (⟨rfl, rfl⟩)))))⟩
  conv => whnf
  refine cwF_loop (fun m st => (m = 6 ∧ st = ⟨[iv 5, .is 2 (List.map encE [(4, 0), (4, 1), (4, 2), (0, 3), (1, 3), (2, 3)]), .un, .un, .lp (6, 0) 2 0 0, bv false, .ls (32, 0) 1 0 5, .un, iv 0] ++ List.replicate 157 .un, mkOb [((6, 0), some (.arr false 2 [.agg [iv 0, nilV]])), ((32, 0), some (.arr false 1 [.ls (41, 1) 1 0 5, .ls (41, 2) 1 0 5, .ls (41, 3) 1 0 5, .ls (41, 4) 1 0 5, .ls (41, 5) 1 0 5])), ((15, 0), none), ((161, 1), none), ((41, 0), none), ((41, 1), some (.arr true 1 ([true, false, false, false, false].map bv))), ((41, 2), some (.arr true 1 ([false, true, false, false, false].map bv))), ((41, 3), some (.arr true 1 ([false, false, true, false, false].map bv))), ((41, 4), some (.arr true 1 ([false, false, false, true, false].map bv))), ((41, 5), some (.arr true 1 ([false, false, false, false, true].map bv))), ((41, 6), none), ((41, 7), none), ((41, 8), none), ((41, 9), none)]⟩) ∨ (m = 5 ∧ st = ⟨[iv 5, .is 2 (List.map encE [(4, 0), (4, 1), (4, 2), (0, 3), (1, 3), (2, 3)]), .un, .un, .lp (6, 0) 2 0 0, bv false, .ls (32, 0) 1 0 5, .un, iv 1] ++ List.replicate 157 .un, mkOb [((6, 0), some (.arr false 2 [.agg [iv 0, nilV]])), ((32, 0), some (.arr false 1 [.ls (41, 1) 1 0 5, .ls (41, 2) 1 0 5, .ls (41, 3) 1 0 5, .ls (41, 4) 1 0 5, .ls (41, 5) 1 0 5])), ((15, 0), none), ((161, 1), none), ((41, 0), none), ((41, 1), some (.arr true 1 ([true, false, false, false, false].map bv))), ((41, 2), some (.arr true 1 ([false, true, false, false, false].map bv))), ((41, 3), some (.arr true 1 ([false, false, true, false, false].map bv))), ((41, 4), some (.arr true 1 ([false, false, false, true, false].map bv))), ((41, 5), some (.arr true 1 ([true, false, false, false, true].map bv))), ((41, 6), none), ((41, 7), none), ((41, 8), none), ((41, 9), none)]⟩) ∨ (m = 4 ∧ st = ⟨[iv 5, .is 2 (List.map encE [(4, 0), (4, 1), (4, 2), (0, 3), (1, 3), (2, 3)]), .un, .un, .lp (6, 0) 2 0 0, bv false, .ls (32, 0) 1 0 5, .un, iv 2] ++ List.replicate 157 .un, mkOb [((6, 0), some (.arr false 2 [.agg [iv 0, nilV]])), ((32, 0), some (.arr false 1 [.ls (41, 1) 1 0 5, .ls (41, 2) 1 0 5, .ls (41, 3) 1 0 5, .ls (41, 4) 1 0 5, .ls (41, 5) 1 0 5])), ((15, 0), none), ((161, 1), none), ((41, 0), none), ((41, 1), some (.arr true 1 ([true, false, false, false, false].map bv))), ((41, 2), some (.arr true 1 ([false, true, false, false, false].map bv))), ((41, 3), some (.arr true 1 ([false, false, true, false, false].map bv))), ((41, 4), some (.arr true 1 ([false, false, false, true, false].map bv))), ((41, 5), some (.arr true 1 ([true, true, false, false, true].map bv))), ((41, 6), none), ((41, 7), none), ((41, 8), none), ((41, 9), none)]⟩) ∨ (m = 3 ∧ st = ⟨[iv 5, .is 2 (List.map encE [(4, 0), (4, 1), (4, 2), (0, 3), (1, 3), (2, 3)]), .un, .un, .lp (6, 0) 2 0 0, bv false, .ls (32, 0) 1 0 5, .un, iv 3] ++ List.replicate 157 .un, mkOb [((6, 0), some (.arr false 2 [.agg [iv 0, nilV]])), ((32, 0), some (.arr false 1 [.ls (41, 1) 1 0 5, .ls (41, 2) 1 0 5, .ls (41, 3) 1 0 5, .ls (41, 4) 1 0 5, .ls (41, 5) 1 0 5])), ((15, 0), none), ((161, 1), none), ((41, 0), none), ((41, 1), some (.arr true 1 ([true, false, false, false, false].map bv))), ((41, 2), some (.arr true 1 ([false, true, false, false, false].map bv))), ((41, 3), some (.arr true 1 ([false, false, true, false, false].map bv))), ((41, 4), some (.arr true 1 ([false, false, false, true, false].map bv))), ((41, 5), some (.arr true 1 ([true, true, true, false, true].map bv))), ((41, 6), none), ((41, 7), none), ((41, 8), none), ((41, 9), none)]⟩) ∨ (m = 2 ∧ st = ⟨[iv 5, .is 2 (List.map encE [(4, 0), (4, 1), (4, 2), (0, 3), (1, 3), (2, 3)]), .un, .un, .lp (6, 0) 2 0 0, bv false, .ls (32, 0) 1 0 5, .un, iv 4] ++ List.replicate 157 .un, mkOb [((6, 0), some (.arr false 2 [.agg [iv 0, nilV]])), ((32, 0), some (.arr false 1 [.ls (41, 1) 1 0 5, .ls (41, 2) 1 0 5, .ls (41, 3) 1 0 5, .ls (41, 4) 1 0 5, .ls (41, 5) 1 0 5])), ((15, 0), none), ((161, 1), none), ((41, 0), none), ((41, 1), some (.arr true 1 ([true, false, false, true, false].map bv))), ((41, 2), some (.arr true 1 ([false, true, false, false, false].map bv))), ((41, 3), some (.arr true 1 ([false, false, true, false, false].map bv))), ((41, 4), some (.arr true 1 ([false, false, false, true, false].map bv))), ((41, 5), some (.arr true 1 ([true, true, true, false, true].map bv))), ((41, 6), none), ((41, 7), none), ((41, 8), none), ((41, 9), none)]⟩) ∨ (m = 1 ∧ st = ⟨[iv 5, .is 2 (List.map encE [(4, 0), (4, 1), (4, 2), (0, 3), (1, 3), (2, 3)]), .un, .un, .lp (6, 0) 2 0 0, bv false, .ls (32, 0) 1 0 5, .un, iv 5] ++ List.replicate 157 .un, mkOb [((6, 0), some (.arr false 2 [.agg [iv 0, nilV]])), ((32, 0), some (.arr false 1 [.ls (41, 1) 1 0 5, .ls (41, 2) 1 0 5, .ls (41, 3) 1 0 5, .ls (41, 4) 1 0 5, .ls (41, 5) 1 0 5])), ((15, 0), none), ((161, 1), none), ((41, 0), none), ((41, 1), some (.arr true 1 ([true, false, false, true, false].map bv))), ((41, 2), some (.arr true 1 ([false, true, false, true, false].map bv))), ((41, 3), some (.arr true 1 ([false, false, true, false, false].map bv))), ((41, 4), some (.arr true 1 ([false, false, false, true, false].map bv))), ((41, 5), some (.arr true 1 ([true, true, true, false, true].map bv))), ((41, 6), none), ((41, 7), none), ((41, 8), none), ((41, 9), none)]⟩) ∨ (m = 0 ∧ st = ⟨[iv 5, .is 2 (List.map encE [(4, 0), (4, 1), (4, 2), (0, 3), (1, 3), (2, 3)]), .un, .un, .lp (6, 0) 2 0 0, bv false, .ls (32, 0) 1 0 5, .un, iv 6] ++ List.replicate 157 .un, mkOb [((6, 0), some (.arr false 2 [.agg [iv 0, nilV]])), ((32, 0), some (.arr false 1 [.ls (41, 1) 1 0 5, .ls (41, 2) 1 0 5, .ls (41, 3) 1 0 5, .ls (41, 4) 1 0 5, .ls (41, 5) 1 0 5])), ((15, 0), none), ((161, 1), none), ((41, 0), none), ((41, 1), some (.arr true 1 ([true, false, false, true, false].map bv))), ((41, 2), some (.arr true 1 ([false, true, false, true, false].map bv))), ((41, 3), some (.arr true 1 ([false, false, true, true, false].map bv))), ((41, 4), some (.arr true 1 ([false, false, false, true, false].map bv))), ((41, 5), some (.arr true 1 ([true, true, true, false, true].map bv))), ((41, 6), none), ((41, 7), none), ((41, 8), none), ((41, 9), none)]⟩)) 6 (by kernel_rfl) (.inl ⟨rfl, rfl⟩) ?_
  rintro m st (⟨rfl, rfl⟩ | ⟨rfl, rfl⟩ | ⟨rfl, rfl⟩ | ⟨rfl, rfl⟩ | ⟨rfl, rfl⟩ | ⟨rfl, rfl⟩ | ⟨rfl, rfl⟩)
  · conv => whnf
    refine ⟨⟨rfl, by decide, by decide⟩, ?_⟩
    conv => whnf
    refine ⟨_, rfl, ?_⟩
    conv => whnf
    refine ⟨⟨rfl, by decide, by decide⟩, ?_⟩
    conv => whnf
    refine ⟨⟨rfl, by decide, by decide⟩, ?_⟩
    conv => whnf
    refine ⟨_, rfl, ⟨rfl, List.not_mem_nil⟩, _, rfl, ?_⟩
    conv => whnf
    refine ⟨by kernel_rfl, ?_⟩
    conv => whnf
    exact ⟨by kernel_rfl, 5, by decide, .inr (.inl ⟨rfl, rfl⟩)⟩
  · conv => whnf
    refine ⟨⟨rfl, by decide, by decide⟩, ?_⟩
    conv => whnf
    refine ⟨_, rfl, ?_⟩
    conv => whnf
    refine ⟨⟨rfl, by decide, by decide⟩, ?_⟩
    conv => whnf
    refine ⟨⟨rfl, by decide, by decide⟩, ?_⟩
    conv => whnf
    refine ⟨_, rfl, ⟨rfl, List.not_mem_nil⟩, _, rfl, ?_⟩
    conv => whnf
    refine ⟨by kernel_rfl, ?_⟩
    conv => whnf
    exact ⟨by kernel_rfl, 4, by decide, .inr (.inr (.inl ⟨rfl, rfl⟩))⟩
  · conv => whnf
    refine ⟨⟨rfl, by decide, by decide⟩, ?_⟩
    conv => whnf
    refine ⟨_, rfl, ?_⟩
    conv => whnf
    refine ⟨⟨rfl, by decide, by decide⟩, ?_⟩
    conv => whnf
    refine ⟨⟨rfl, by decide, by decide⟩, ?_⟩
    conv => whnf
    refine ⟨_, rfl, ⟨rfl, List.not_mem_nil⟩, _, rfl, ?_⟩
    conv => whnf
    refine ⟨by kernel_rfl, ?_⟩
    conv => whnf
    exact ⟨by kernel_rfl, 3, by decide, .inr (.inr (.inr (.inl ⟨rfl, rfl⟩)))⟩
  · conv => whnf
    refine ⟨⟨rfl, by decide, by decide⟩, ?_⟩
    conv => whnf
    refine ⟨_, rfl, ?_⟩
    conv => whnf
    refine ⟨⟨rfl, by decide, by decide⟩, ?_⟩
    conv => whnf
    refine ⟨⟨rfl, by decide, by decide⟩, ?_⟩
    conv => whnf
    refine ⟨_, rfl, ⟨rfl, List.not_mem_nil⟩, _, rfl, ?_⟩
    conv => whnf
    refine ⟨by kernel_rfl, ?_⟩
    conv => whnf
    exact ⟨by kernel_rfl, 2, by decide, .inr (.inr (.inr (.inr (.inl ⟨rfl, rfl⟩))))⟩
  · conv => whnf
    refine ⟨⟨rfl, by decide, by decide⟩, ?_⟩
    conv => whnf
    refine ⟨_, rfl, ?_⟩
    conv => whnf
    refine ⟨⟨rfl, by decide, by decide⟩, ?_⟩
    conv => whnf
    refine ⟨⟨rfl, by decide, by decide⟩, ?_⟩
    conv => whnf
    refine ⟨_, rfl, ⟨rfl, List.not_mem_nil⟩, _, rfl, ?_⟩
    conv => whnf
    refine ⟨by kernel_rfl, ?_⟩
    conv => whnf
    exact ⟨by kernel_rfl, 1, by decide, .inr (.inr (.inr (.inr (.inr (.inl ⟨rfl, rfl⟩)))))⟩
  · conv => whnf
    refine ⟨⟨rfl, by decide, by decide⟩, ?_⟩
    conv => whnf
    refine ⟨_, rfl, ?_⟩
    conv => whnf
    refine ⟨⟨rfl, by decide, by decide⟩, ?_⟩
    conv => whnf
    refine ⟨⟨rfl, by decide, by decide⟩, ?_⟩
    conv => whnf
    refine ⟨_, rfl, ⟨rfl, List.not_mem_nil⟩, _, rfl, ?_⟩
    conv => whnf
    refine ⟨by kernel_rfl, ?_⟩
    conv => whnf
    exact ⟨by kernel_rfl, 0, by decide, .inr (.inr (.inr (.inr (.inr (.inr (⟨rfl, rfl⟩))))))⟩
  conv => whnf
  refine cwF_loop (fun m st => ∃ (z : Int) (e0 e1 e2 e3 e4 : List V), (∃ (k : Nat) (r0 r1 r2 r3 r4 : List Bool), m = 5 - k ∧ k ≤ 5 ∧ z = (k : Nat) ∧ [r0, r1, r2, r3, r4] = fwK 5 [[true, false, false, true, false], [false, true, false, true, false], [false, false, true, true, false], [false, false, false, true, false], [true, true, true, false, true]] k ∧ (r0.length = 5 ∧ r1.length = 5 ∧ r2.length = 5 ∧ r3.length = 5 ∧ r4.length = 5) ∧ e0 = r0.map bv ∧ e1 = r1.map bv ∧ e2 = r2.map bv ∧ e3 = r3.map bv ∧ e4 = r4.map bv) ∧ st = ⟨[iv 5, .un, .un, .un, .lp (6, 0) 2 0 0, bv false, .ls (32, 0) 1 0 5, .un, .un, .un, iv z] ++ List.replicate 155 .un, mkOb [((6, 0), some (.arr false 2 [.agg [iv 0, nilV]])), ((32, 0), some (.arr false 1 [.ls (41, 1) 1 0 5, .ls (41, 2) 1 0 5, .ls (41, 3) 1 0 5, .ls (41, 4) 1 0 5, .ls (41, 5) 1 0 5])), ((15, 0), none), ((161, 1), none), ((41, 0), none), ((41, 1), some (.arr true 1 e0)), ((41, 2), some (.arr true 1 e1)), ((41, 3), some (.arr true 1 e2)), ((41, 4), some (.arr true 1 e3)), ((41, 5), some (.arr true 1 e4)), ((41, 6), none), ((41, 7), none), ((41, 8), none), ((41, 9), none)]⟩) 5 (by kernel_rfl) ⟨_, _, _, _, _, _, ⟨0, [true, false, false, true, false], [false, true, false, true, false], [false, false, true, true, false], [false, false, false, true, false], [true, true, true, false, true], rfl, by decide, rfl, fwK_zero.symm, ⟨rfl, rfl, rfl, rfl, rfl⟩, rfl, rfl, rfl, rfl, rfl⟩, rfl⟩ ?_
  rintro m st ⟨z, e0, e1, e2, e3, e4, ⟨k, r0, r1, r2, r3, r4, rfl, hk, rfl, hM1, hl1, rfl, rfl, rfl, rfl, rfl⟩, rfl⟩
  conv => whnf
  refine vif_dec (fun h1 => ?_) (fun h1 => ?_)
  · conv => whnf
    refine cwF_loop (fun m st => ∃ (z : Int) (e0 e1 e2 e3 e4 : List V), (∃ (a : Nat) (r0 r1 r2 r3 r4 : List Bool), m = 5 - a ∧ a ≤ 5 ∧ z = (a : Nat) ∧ [r0, r1, r2, r3, r4] = fwA 5 (fwK 5 [[true, false, false, true, false], [false, true, false, true, false], [false, false, true, true, false], [false, false, false, true, false], [true, true, true, false, true]] k) k a ∧ (r0.length = 5 ∧ r1.length = 5 ∧ r2.length = 5 ∧ r3.length = 5 ∧ r4.length = 5) ∧ e0 = r0.map bv ∧ e1 = r1.map bv ∧ e2 = r2.map bv ∧ e3 = r3.map bv ∧ e4 = r4.map bv) ∧ st = ⟨[iv 5, .un, .un, .un, .lp (6, 0) 2 0 0, bv false, .ls (32, 0) 1 0 5, .un, .un, .un, iv (k : Nat), iv z] ++ List.replicate 154 .un, mkOb [((6, 0), some (.arr false 2 [.agg [iv 0, nilV]])), ((32, 0), some (.arr false 1 [.ls (41, 1) 1 0 5, .ls (41, 2) 1 0 5, .ls (41, 3) 1 0 5, .ls (41, 4) 1 0 5, .ls (41, 5) 1 0 5])), ((15, 0), none), ((161, 1), none), ((41, 0), none), ((41, 1), some (.arr true 1 e0)), ((41, 2), some (.arr true 1 e1)), ((41, 3), some (.arr true 1 e2)), ((41, 4), some (.arr true 1 e3)), ((41, 5), some (.arr true 1 e4)), ((41, 6), none), ((41, 7), none), ((41, 8), none), ((41, 9), none)]⟩) 5 (by kernel_rfl) ⟨_, _, _, _, _, _, ⟨0, r0, r1, r2, r3, r4, rfl, by decide, rfl, hM1.trans fwA_zero.symm, hl1, rfl, rfl, rfl, rfl, rfl⟩, rfl⟩ ?_
    clear hM1 hl1
    rintro m st ⟨z, e0, e1, e2, e3, e4, ⟨a, r0, r1, r2, r3, r4, rfl, ha, rfl, hM2, hl2, rfl, rfl, rfl, rfl, rfl⟩, rfl⟩
    conv => whnf
    refine vif_dec (fun h2 => ?_) (fun h2 => ?_)
    · conv => whnf
      refine cwF_loop (fun m st => ∃ (z : Int) (e0 e1 e2 e3 e4 : List V), (∃ (b : Nat) (r0 r1 r2 r3 r4 : List Bool), m = 5 - b ∧ b ≤ 5 ∧ z = (b : Nat) ∧ [r0, r1, r2, r3, r4] = fwR (fwA 5 (fwK 5 [[true, false, false, true, false], [false, true, false, true, false], [false, false, true, true, false], [false, false, false, true, false], [true, true, true, false, true]] k) k a) k a b ∧ (r0.length = 5 ∧ r1.length = 5 ∧ r2.length = 5 ∧ r3.length = 5 ∧ r4.length = 5) ∧ e0 = r0.map bv ∧ e1 = r1.map bv ∧ e2 = r2.map bv ∧ e3 = r3.map bv ∧ e4 = r4.map bv) ∧ st = ⟨[iv 5, .un, .un, .un, .lp (6, 0) 2 0 0, bv false, .ls (32, 0) 1 0 5, .un, .un, .un, iv (k : Nat), iv (a : Nat), iv z] ++ List.replicate 153 .un, mkOb [((6, 0), some (.arr false 2 [.agg [iv 0, nilV]])), ((32, 0), some (.arr false 1 [.ls (41, 1) 1 0 5, .ls (41, 2) 1 0 5, .ls (41, 3) 1 0 5, .ls (41, 4) 1 0 5, .ls (41, 5) 1 0 5])), ((15, 0), none), ((161, 1), none), ((41, 0), none), ((41, 1), some (.arr true 1 e0)), ((41, 2), some (.arr true 1 e1)), ((41, 3), some (.arr true 1 e2)), ((41, 4), some (.arr true 1 e3)), ((41, 5), some (.arr true 1 e4)), ((41, 6), none), ((41, 7), none), ((41, 8), none), ((41, 9), none)]⟩) 5 (by kernel_rfl) ⟨_, _, _, _, _, _, ⟨0, r0, r1, r2, r3, r4, rfl, by decide, rfl, hM2.trans fwR_zero.symm, hl2, rfl, rfl, rfl, rfl, rfl⟩, rfl⟩ ?_
      clear hM2 hl2
      rintro m st ⟨z, e0, e1, e2, e3, e4, ⟨b, r0, r1, r2, r3, r4, rfl, hb, rfl, hM3, hl3, rfl, rfl, rfl, rfl, rfl⟩, rfl⟩
      have la := lens5 (a := a) (by omega) hl3
      have lk := lens5 (a := k) (by omega) hl3
      conv => whnf
      refine vif_dec (fun h3 => ?_) (fun h3 => ?_)
      · conv => whnf
        refine ⟨⟨rfl, by omega, by omega⟩, ?_⟩
        conv => whnf
        refine ob_eq (v := (.ls (41, a + 1) 1 0 5, [])) (by obtain rfl | rfl | rfl | rfl | rfl := lt5 (by omega : a < 5) <;> rfl) ?_
        conv => whnf
        refine ⟨⟨rfl, by omega, by omega⟩, ?_⟩
        conv => whnf
        refine ob_eq (v := (.ls (41, a + 1) 1 0 5, [])) (by obtain rfl | rfl | rfl | rfl | rfl := lt5 (by omega : a < 5) <;> rfl) ?_
        conv => whnf
        refine ⟨⟨rfl, by omega, by omega⟩, ?_⟩
        conv => whnf
        refine ⟨_, rows5 (by omega) r0 r1 r2 r3 r4, ask_row (by omega) fun x hx => ?_⟩
        cases x
        · conv => whnf
          refine ⟨⟨rfl, by omega, by omega⟩, ?_⟩
          conv => whnf
          refine ob_eq (v := (.ls (41, a + 1) 1 0 5, [])) (by obtain rfl | rfl | rfl | rfl | rfl := lt5 (by omega : a < 5) <;> rfl) ?_
          conv => whnf
          refine ⟨⟨rfl, by omega, by omega⟩, ?_⟩
          conv => whnf
          refine ⟨_, rows5 (by omega) r0 r1 r2 r3 r4, ask_row (by omega) fun y hy => ?_⟩
          cases y
          · conv => whnf
            refine ⟨⟨rfl, by omega, by omega⟩, ?_⟩
            conv => whnf
            refine ⟨_, rows5 (by omega) r0 r1 r2 r3 r4, ⟨rfl, List.not_mem_nil⟩, _, row_get (by omega) hx, ?_⟩
            conv => whnf
            refine ⟨by kernel_rfl, ?_⟩
            conv => whnf
            have hN : fwR (fwA 5 (fwK 5 [[true, false, false, true, false], [false, true, false, true, false], [false, false, true, true, false], [false, false, false, true, false], [true, true, true, false, true]] k) k a) k a (b + 1) = [r0, r1, r2, r3, r4].set a (([r0, r1, r2, r3, r4].getD a []).set b false) := by rw [fwR_succ, ← hM3, fwB, hx, hy]; rfl
            clear hM3 hx la lk
            obtain ⟨l0, l1, l2, l3, l4⟩ := hl3
            obtain rfl | rfl | rfl | rfl | rfl := lt5 (by omega : a < 5)
            · exact ⟨by kernel_rfl, 5 - (b + 1), by omega, _, _, _, _, _, _, ⟨b + 1, r0.set b false, r1, r2, r3, r4, rfl, by omega, wrap_i64 (by omega), hN.symm, ⟨by rw [List.length_set]; exact l0, l1, l2, l3, l4⟩, row_set, rfl, rfl, rfl, rfl⟩, rfl⟩
            · exact ⟨by kernel_rfl, 5 - (b + 1), by omega, _, _, _, _, _, _, ⟨b + 1, r0, r1.set b false, r2, r3, r4, rfl, by omega, wrap_i64 (by omega), hN.symm, ⟨l0, by rw [List.length_set]; exact l1, l2, l3, l4⟩, rfl, row_set, rfl, rfl, rfl⟩, rfl⟩
            · exact ⟨by kernel_rfl, 5 - (b + 1), by omega, _, _, _, _, _, _, ⟨b + 1, r0, r1, r2.set b false, r3, r4, rfl, by omega, wrap_i64 (by omega), hN.symm, ⟨l0, l1, by rw [List.length_set]; exact l2, l3, l4⟩, rfl, rfl, row_set, rfl, rfl⟩, rfl⟩
            · exact ⟨by kernel_rfl, 5 - (b + 1), by omega, _, _, _, _, _, _, ⟨b + 1, r0, r1, r2, r3.set b false, r4, rfl, by omega, wrap_i64 (by omega), hN.symm, ⟨l0, l1, l2, by rw [List.length_set]; exact l3, l4⟩, rfl, rfl, rfl, row_set, rfl⟩, rfl⟩
            · exact ⟨by kernel_rfl, 5 - (b + 1), by omega, _, _, _, _, _, _, ⟨b + 1, r0, r1, r2, r3, r4.set b false, rfl, by omega, wrap_i64 (by omega), hN.symm, ⟨l0, l1, l2, l3, by rw [List.length_set]; exact l4⟩, rfl, rfl, rfl, rfl, row_set⟩, rfl⟩
          · conv => whnf
            refine ⟨⟨rfl, by omega, by omega⟩, ?_⟩
            conv => whnf
            refine ob_eq (v := (.ls (41, k + 1) 1 0 5, [])) (by obtain rfl | rfl | rfl | rfl | rfl := lt5 (by omega : k < 5) <;> rfl) ?_
            conv => whnf
            refine ⟨⟨rfl, by omega, by omega⟩, ?_⟩
            conv => whnf
            refine ⟨_, rows5 (by omega) r0 r1 r2 r3 r4, ask_row (by omega) fun z hz => ?_⟩
            conv => whnf
            refine ⟨⟨rfl, by omega, by omega⟩, ?_⟩
            conv => whnf
            refine ⟨_, rows5 (by omega) r0 r1 r2 r3 r4, ⟨rfl, List.not_mem_nil⟩, _, row_get (by omega) hx, ?_⟩
            conv => whnf
            refine ⟨by kernel_rfl, ?_⟩
            conv => whnf
            have hN : fwR (fwA 5 (fwK 5 [[true, false, false, true, false], [false, true, false, true, false], [false, false, true, true, false], [false, false, false, true, false], [true, true, true, false, true]] k) k a) k a (b + 1) = [r0, r1, r2, r3, r4].set a (([r0, r1, r2, r3, r4].getD a []).set b z) := by rw [fwR_succ, ← hM3, fwB, hx, hy, hz]; rfl
            clear hM3 hx la lk
            obtain ⟨l0, l1, l2, l3, l4⟩ := hl3
            obtain rfl | rfl | rfl | rfl | rfl := lt5 (by omega : a < 5)
            · exact ⟨by kernel_rfl, 5 - (b + 1), by omega, _, _, _, _, _, _, ⟨b + 1, r0.set b z, r1, r2, r3, r4, rfl, by omega, wrap_i64 (by omega), hN.symm, ⟨by rw [List.length_set]; exact l0, l1, l2, l3, l4⟩, row_set, rfl, rfl, rfl, rfl⟩, rfl⟩
            · exact ⟨by kernel_rfl, 5 - (b + 1), by omega, _, _, _, _, _, _, ⟨b + 1, r0, r1.set b z, r2, r3, r4, rfl, by omega, wrap_i64 (by omega), hN.symm, ⟨l0, by rw [List.length_set]; exact l1, l2, l3, l4⟩, rfl, row_set, rfl, rfl, rfl⟩, rfl⟩
            · exact ⟨by kernel_rfl, 5 - (b + 1), by omega, _, _, _, _, _, _, ⟨b + 1, r0, r1, r2.set b z, r3, r4, rfl, by omega, wrap_i64 (by omega), hN.symm, ⟨l0, l1, by rw [List.length_set]; exact l2, l3, l4⟩, rfl, rfl, row_set, rfl, rfl⟩, rfl⟩
            · exact ⟨by kernel_rfl, 5 - (b + 1), by omega, _, _, _, _, _, _, ⟨b + 1, r0, r1, r2, r3.set b z, r4, rfl, by omega, wrap_i64 (by omega), hN.symm, ⟨l0, l1, l2, by rw [List.length_set]; exact l3, l4⟩, rfl, rfl, rfl, row_set, rfl⟩, rfl⟩
            · exact ⟨by kernel_rfl, 5 - (b + 1), by omega, _, _, _, _, _, _, ⟨b + 1, r0, r1, r2, r3, r4.set b z, rfl, by omega, wrap_i64 (by omega), hN.symm, ⟨l0, l1, l2, l3, by rw [List.length_set]; exact l4⟩, rfl, rfl, rfl, rfl, row_set⟩, rfl⟩
        · conv => whnf
          refine ⟨⟨rfl, by omega, by omega⟩, ?_⟩
          conv => whnf
          refine ⟨_, rows5 (by omega) r0 r1 r2 r3 r4, ⟨rfl, List.not_mem_nil⟩, _, row_get (by omega) hx, ?_⟩
          conv => whnf
          refine ⟨by kernel_rfl, ?_⟩
          conv => whnf
          have hN : fwR (fwA 5 (fwK 5 [[true, false, false, true, false], [false, true, false, true, false], [false, false, true, true, false], [false, false, false, true, false], [true, true, true, false, true]] k) k a) k a (b + 1) = [r0, r1, r2, r3, r4].set a (([r0, r1, r2, r3, r4].getD a []).set b true) := by rw [fwR_succ, ← hM3, fwB, hx]; rfl
          clear hM3 hx la lk
          obtain ⟨l0, l1, l2, l3, l4⟩ := hl3
          obtain rfl | rfl | rfl | rfl | rfl := lt5 (by omega : a < 5)
          · exact ⟨by kernel_rfl, 5 - (b + 1), by omega, _, _, _, _, _, _, ⟨b + 1, r0.set b true, r1, r2, r3, r4, rfl, by omega, wrap_i64 (by omega), hN.symm, ⟨by rw [List.length_set]; exact l0, l1, l2, l3, l4⟩, row_set, rfl, rfl, rfl, rfl⟩, rfl⟩
          · exact ⟨by kernel_rfl, 5 - (b + 1), by omega, _, _, _, _, _, _, ⟨b + 1, r0, r1.set b true, r2, r3, r4, rfl, by omega, wrap_i64 (by omega), hN.symm, ⟨l0, by rw [List.length_set]; exact l1, l2, l3, l4⟩, rfl, row_set, rfl, rfl, rfl⟩, rfl⟩
          · exact ⟨by kernel_rfl, 5 - (b + 1), by omega, _, _, _, _, _, _, ⟨b + 1, r0, r1, r2.set b true, r3, r4, rfl, by omega, wrap_i64 (by omega), hN.symm, ⟨l0, l1, by rw [List.length_set]; exact l2, l3, l4⟩, rfl, rfl, row_set, rfl, rfl⟩, rfl⟩
          · exact ⟨by kernel_rfl, 5 - (b + 1), by omega, _, _, _, _, _, _, ⟨b + 1, r0, r1, r2, r3.set b true, r4, rfl, by omega, wrap_i64 (by omega), hN.symm, ⟨l0, l1, l2, by rw [List.length_set]; exact l3, l4⟩, rfl, rfl, rfl, row_set, rfl⟩, rfl⟩
          · exact ⟨by kernel_rfl, 5 - (b + 1), by omega, _, _, _, _, _, _, ⟨b + 1, r0, r1, r2, r3, r4.set b true, rfl, by omega, wrap_i64 (by omega), hN.symm, ⟨l0, l1, l2, l3, by rw [List.length_set]; exact l4⟩, rfl, rfl, rfl, rfl, row_set⟩, rfl⟩
      · conv => whnf
        obtain rfl : b = 5 := by omega
        exact ⟨by kernel_rfl, 5 - (a + 1), by omega, _, _, _, _, _, _, ⟨a + 1, r0, r1, r2, r3, r4, rfl, by omega, wrap_i64 (by omega), by rw [fwA_succ]; exact hM3, hl3, rfl, rfl, rfl, rfl, rfl⟩, rfl⟩
    · conv => whnf
      obtain rfl : a = 5 := by omega
      exact ⟨by kernel_rfl, 5 - (k + 1), by omega, _, _, _, _, _, _, ⟨k + 1, r0, r1, r2, r3, r4, rfl, by omega, wrap_i64 (by omega), by rw [fwK_succ]; exact hM2, hl2, rfl, rfl, rfl, rfl, rfl⟩, rfl⟩
  obtain rfl : k = 5 := by omega
  have hE : fwK 5 [[true, false, false, true, false], [false, true, false, true, false], [false, false, true, true, false], [false, false, false, true, false], [true, true, true, false, true]] 5 = [[true, false, false, true, false], [false, true, false, true, false], [false, false, true, true, false], [false, false, false, true, false], [true, true, true, true, true]] := by kernel_rfl
  rw [hE] at hM1
  clear hE hl1
  simp only [List.cons.injEq, and_true] at hM1
  obtain ⟨rfl, rfl, rfl, rfl, rfl⟩ := hM1
  conv => whnf
  refine cwF_loop (fun m st => (m = 5 ∧ st = ⟨[iv 5, .un, .un, .un, .lp (6, 0) 2 0 0, bv false, .ls (32, 0) 1 0 5] ++ List.replicate 6 .un ++ [.lp (15, 0) 2 0 0, iv 0] ++ List.replicate 151 .un, mkOb [((6, 0), some (.arr false 2 [.agg [iv 0, nilV]])), ((32, 0), some (.arr false 1 [.ls (41, 1) 1 0 5, .ls (41, 2) 1 0 5, .ls (41, 3) 1 0 5, .ls (41, 4) 1 0 5, .ls (41, 5) 1 0 5])), ((15, 0), some (.arr false 2 [.agg [iv 5, nilV]])), ((161, 1), none), ((41, 0), none), ((41, 1), some (.arr true 1 ([true, false, false, true, false].map bv))), ((41, 2), some (.arr true 1 ([false, true, false, true, false].map bv))), ((41, 3), some (.arr true 1 ([false, false, true, true, false].map bv))), ((41, 4), some (.arr true 1 ([false, false, false, true, false].map bv))), ((41, 5), some (.arr true 1 ([true, true, true, true, true].map bv))), ((41, 6), none), ((41, 7), none), ((41, 8), none), ((41, 9), none)]⟩) ∨ (m = 4 ∧ st = ⟨[iv 5, .un, .un, .un, .lp (6, 0) 2 0 0, bv false, .ls (32, 0) 1 0 5] ++ List.replicate 6 .un ++ [.lp (15, 0) 2 0 0, iv 1] ++ List.replicate 151 .un, mkOb [((6, 0), some (.arr false 2 [.agg [iv 0, nilV]])), ((32, 0), some (.arr false 1 [.ls (41, 1) 1 0 5, .ls (41, 2) 1 0 5, .ls (41, 3) 1 0 5, .ls (41, 4) 1 0 5, .ls (41, 5) 1 0 5])), ((15, 0), some (.arr false 2 [.agg [iv 5, .ls (161, 1) 1 0 1]])), ((161, 1), some (.arr true 1 [uv 9])), ((41, 0), none), ((41, 1), some (.arr true 1 ([true, false, false, true, false].map bv))), ((41, 2), some (.arr true 1 ([false, true, false, true, false].map bv))), ((41, 3), some (.arr true 1 ([false, false, true, true, false].map bv))), ((41, 4), some (.arr true 1 ([false, false, false, true, false].map bv))), ((41, 5), some (.arr true 1 ([true, true, true, true, true].map bv))), ((41, 6), none), ((41, 7), none), ((41, 8), none), ((41, 9), none)]⟩) ∨ (m = 3 ∧ st = ⟨[iv 5, .un, .un, .un, .lp (6, 0) 2 0 0, bv false, .ls (32, 0) 1 0 5] ++ List.replicate 6 .un ++ [.lp (15, 0) 2 0 0, iv 2] ++ List.replicate 151 .un, mkOb [((6, 0), some (.arr false 2 [.agg [iv 0, nilV]])), ((32, 0), some (.arr false 1 [.ls (41, 1) 1 0 5, .ls (41, 2) 1 0 5, .ls (41, 3) 1 0 5, .ls (41, 4) 1 0 5, .ls (41, 5) 1 0 5])), ((15, 0), some (.arr false 2 [.agg [iv 5, .ls (161, 1) 1 0 2]])), ((161, 1), some (.arr true 1 [uv 9, uv 10])), ((41, 0), none), ((41, 1), some (.arr true 1 ([true, false, false, true, false].map bv))), ((41, 2), some (.arr true 1 ([false, true, false, true, false].map bv))), ((41, 3), some (.arr true 1 ([false, false, true, true, false].map bv))), ((41, 4), some (.arr true 1 ([false, false, false, true, false].map bv))), ((41, 5), some (.arr true 1 ([true, true, true, true, true].map bv))), ((41, 6), none), ((41, 7), none), ((41, 8), none), ((41, 9), none)]⟩) ∨ (m = 2 ∧ st = ⟨[iv 5, .un, .un, .un, .lp (6, 0) 2 0 0, bv false, .ls (32, 0) 1 0 5] ++ List.replicate 6 .un ++ [.lp (15, 0) 2 0 0, iv 3] ++ List.replicate 151 .un, mkOb [((6, 0), some (.arr false 2 [.agg [iv 0, nilV]])), ((32, 0), some (.arr false 1 [.ls (41, 1) 1 0 5, .ls (41, 2) 1 0 5, .ls (41, 3) 1 0 5, .ls (41, 4) 1 0 5, .ls (41, 5) 1 0 5])), ((15, 0), some (.arr false 2 [.agg [iv 5, .ls (161, 1) 1 0 3]])), ((161, 1), some (.arr true 1 [uv 9, uv 10, uv 12])), ((41, 0), none), ((41, 1), some (.arr true 1 ([true, false, false, true, false].map bv))), ((41, 2), some (.arr true 1 ([false, true, false, true, false].map bv))), ((41, 3), some (.arr true 1 ([false, false, true, true, false].map bv))), ((41, 4), some (.arr true 1 ([false, false, false, true, false].map bv))), ((41, 5), some (.arr true 1 ([true, true, true, true, true].map bv))), ((41, 6), none), ((41, 7), none), ((41, 8), none), ((41, 9), none)]⟩) ∨ (m = 1 ∧ st = ⟨[iv 5, .un, .un, .un, .lp (6, 0) 2 0 0, bv false, .ls (32, 0) 1 0 5] ++ List.replicate 6 .un ++ [.lp (15, 0) 2 0 0, iv 4] ++ List.replicate 151 .un, mkOb [((6, 0), some (.arr false 2 [.agg [iv 0, nilV]])), ((32, 0), some (.arr false 1 [.ls (41, 1) 1 0 5, .ls (41, 2) 1 0 5, .ls (41, 3) 1 0 5, .ls (41, 4) 1 0 5, .ls (41, 5) 1 0 5])), ((15, 0), some (.arr false 2 [.agg [iv 5, .ls (161, 1) 1 0 4]])), ((161, 1), some (.arr true 1 [uv 9, uv 10, uv 12, uv 8])), ((41, 0), none), ((41, 1), some (.arr true 1 ([true, false, false, true, false].map bv))), ((41, 2), some (.arr true 1 ([false, true, false, true, false].map bv))), ((41, 3), some (.arr true 1 ([false, false, true, true, false].map bv))), ((41, 4), some (.arr true 1 ([false, false, false, true, false].map bv))), ((41, 5), some (.arr true 1 ([true, true, true, true, true].map bv))), ((41, 6), none), ((41, 7), none), ((41, 8), none), ((41, 9), none)]⟩) ∨ (m = 0 ∧ st = ⟨[iv 5, .un, .un, .un, .lp (6, 0) 2 0 0, bv false, .ls (32, 0) 1 0 5] ++ List.replicate 6 .un ++ [.lp (15, 0) 2 0 0, iv 5] ++ List.replicate 151 .un, mkOb [((6, 0), some (.arr false 2 [.agg [iv 0, nilV]])), ((32, 0), some (.arr false 1 [.ls (41, 1) 1 0 5, .ls (41, 2) 1 0 5, .ls (41, 3) 1 0 5, .ls (41, 4) 1 0 5, .ls (41, 5) 1 0 5])), ((15, 0), some (.arr false 2 [.agg [iv 5, .ls (161, 1) 1 0 5]])), ((161, 1), some (.arr true 1 [uv 9, uv 10, uv 12, uv 8, uv 31])), ((41, 0), none), ((41, 1), some (.arr true 1 ([true, false, false, true, false].map bv))), ((41, 2), some (.arr true 1 ([false, true, false, true, false].map bv))), ((41, 3), some (.arr true 1 ([false, false, true, true, false].map bv))), ((41, 4), some (.arr true 1 ([false, false, false, true, false].map bv))), ((41, 5), some (.arr true 1 ([true, true, true, true, true].map bv))), ((41, 6), none), ((41, 7), none), ((41, 8), none), ((41, 9), none)]⟩)) 5 (by kernel_rfl) (.inl ⟨rfl, rfl⟩) ?_
  rintro m st (⟨rfl, rfl⟩ | ⟨rfl, rfl⟩ | ⟨rfl, rfl⟩ | ⟨rfl, rfl⟩ | ⟨rfl, rfl⟩ | ⟨rfl, rfl⟩)
  · conv => whnf
    refine cwF_loop (fun m st => ∃ z x : Int, (∃ b : Nat, m = 5 - b ∧ b ≤ 5 ∧ z = (b : Nat) ∧ x = wp [true, false, false, true, false] b) ∧ st = ⟨[iv 5, .un, .un, .un, .lp (6, 0) 2 0 0, bv false, .ls (32, 0) 1 0 5] ++ List.replicate 6 .un ++ [.lp (15, 0) 2 0 0, iv 0, uv x, iv z] ++ List.replicate 149 .un, mkOb [((6, 0), some (.arr false 2 [.agg [iv 0, nilV]])), ((32, 0), some (.arr false 1 [.ls (41, 1) 1 0 5, .ls (41, 2) 1 0 5, .ls (41, 3) 1 0 5, .ls (41, 4) 1 0 5, .ls (41, 5) 1 0 5])), ((15, 0), some (.arr false 2 [.agg [iv 5, nilV]])), ((161, 1), none), ((41, 0), none), ((41, 1), some (.arr true 1 ([true, false, false, true, false].map bv))), ((41, 2), some (.arr true 1 ([false, true, false, true, false].map bv))), ((41, 3), some (.arr true 1 ([false, false, true, true, false].map bv))), ((41, 4), some (.arr true 1 ([false, false, false, true, false].map bv))), ((41, 5), some (.arr true 1 ([true, true, true, true, true].map bv))), ((41, 6), none), ((41, 7), none), ((41, 8), none), ((41, 9), none)]⟩) 5 (by kernel_rfl) ⟨_, _, ⟨0, rfl, by decide, rfl, rfl⟩, rfl⟩ ?_
    rintro m st ⟨z, x, ⟨b, rfl, hb, rfl, rfl⟩, rfl⟩
    skip
    conv => whnf
    refine vif_dec (fun h1 => ?_) (fun h1 => ?_)
    · conv => whnf
      refine ⟨⟨rfl, by decide, by decide⟩, ?_⟩
      conv => whnf
      refine ⟨⟨rfl, by omega, by omega⟩, ?_⟩
      conv => whnf
      refine ⟨_, rfl, ask_row (r := [true, false, false, true, false]) (b := b) (by simp; omega) fun y hy => ?_⟩
      cases y
      · conv => whnf
        exact ⟨by kernel_rfl, 5 - (b + 1), by omega, _, _, ⟨b + 1, rfl, by omega, wrap_i64 (by omega), by rw [wp_succ, hy]; rfl⟩, rfl⟩
      · conv => whnf
        refine l01Power.ac _ (by omega) ?_
        conv => whnf
        exact ⟨by kernel_rfl, 5 - (b + 1), by omega, _, _, ⟨b + 1, rfl, by omega, wrap_i64 (by omega), by rw [wp_succ, hy]; exact wrap_u64 (wp_add (by omega)) ⟩, rfl⟩
    · conv => whnf
      obtain rfl : b = 5 := by omega
      refine ⟨⟨by decide, by decide, rfl⟩, ?_⟩
      conv => whnf
      exact ⟨by kernel_rfl, 4, by decide, .inr (.inl ⟨rfl, rfl⟩)⟩
  · conv => whnf
    refine cwF_loop (fun m st => ∃ z x : Int, (∃ b : Nat, m = 5 - b ∧ b ≤ 5 ∧ z = (b : Nat) ∧ x = wp [false, true, false, true, false] b) ∧ st = ⟨[iv 5, .un, .un, .un, .lp (6, 0) 2 0 0, bv false, .ls (32, 0) 1 0 5] ++ List.replicate 6 .un ++ [.lp (15, 0) 2 0 0, iv 1, uv x, iv z] ++ List.replicate 149 .un, mkOb [((6, 0), some (.arr false 2 [.agg [iv 0, nilV]])), ((32, 0), some (.arr false 1 [.ls (41, 1) 1 0 5, .ls (41, 2) 1 0 5, .ls (41, 3) 1 0 5, .ls (41, 4) 1 0 5, .ls (41, 5) 1 0 5])), ((15, 0), some (.arr false 2 [.agg [iv 5, .ls (161, 1) 1 0 1]])), ((161, 1), some (.arr true 1 [uv 9])), ((41, 0), none), ((41, 1), some (.arr true 1 ([true, false, false, true, false].map bv))), ((41, 2), some (.arr true 1 ([false, true, false, true, false].map bv))), ((41, 3), some (.arr true 1 ([false, false, true, true, false].map bv))), ((41, 4), some (.arr true 1 ([false, false, false, true, false].map bv))), ((41, 5), some (.arr true 1 ([true, true, true, true, true].map bv))), ((41, 6), none), ((41, 7), none), ((41, 8), none), ((41, 9), none)]⟩) 5 (by kernel_rfl) ⟨_, _, ⟨0, rfl, by decide, rfl, rfl⟩, rfl⟩ ?_
    rintro m st ⟨z, x, ⟨b, rfl, hb, rfl, rfl⟩, rfl⟩
    skip
    conv => whnf
    refine vif_dec (fun h1 => ?_) (fun h1 => ?_)
    · conv => whnf
      refine ⟨⟨rfl, by decide, by decide⟩, ?_⟩
      conv => whnf
      refine ⟨⟨rfl, by omega, by omega⟩, ?_⟩
      conv => whnf
      refine ⟨_, rfl, ask_row (r := [false, true, false, true, false]) (b := b) (by simp; omega) fun y hy => ?_⟩
      cases y
      · conv => whnf
        exact ⟨by kernel_rfl, 5 - (b + 1), by omega, _, _, ⟨b + 1, rfl, by omega, wrap_i64 (by omega), by rw [wp_succ, hy]; rfl⟩, rfl⟩
      · conv => whnf
        refine l01Power.ac _ (by omega) ?_
        conv => whnf
        exact ⟨by kernel_rfl, 5 - (b + 1), by omega, _, _, ⟨b + 1, rfl, by omega, wrap_i64 (by omega), by rw [wp_succ, hy]; exact wrap_u64 (wp_add (by omega)) ⟩, rfl⟩
    · conv => whnf
      obtain rfl : b = 5 := by omega
      exact ⟨by kernel_rfl, 3, by decide, .inr (.inr (.inl ⟨rfl, rfl⟩))⟩
  · conv => whnf
    refine cwF_loop (fun m st => ∃ z x : Int, (∃ b : Nat, m = 5 - b ∧ b ≤ 5 ∧ z = (b : Nat) ∧ x = wp [false, false, true, true, false] b) ∧ st = ⟨[iv 5, .un, .un, .un, .lp (6, 0) 2 0 0, bv false, .ls (32, 0) 1 0 5] ++ List.replicate 6 .un ++ [.lp (15, 0) 2 0 0, iv 2, uv x, iv z] ++ List.replicate 149 .un, mkOb [((6, 0), some (.arr false 2 [.agg [iv 0, nilV]])), ((32, 0), some (.arr false 1 [.ls (41, 1) 1 0 5, .ls (41, 2) 1 0 5, .ls (41, 3) 1 0 5, .ls (41, 4) 1 0 5, .ls (41, 5) 1 0 5])), ((15, 0), some (.arr false 2 [.agg [iv 5, .ls (161, 1) 1 0 2]])), ((161, 1), some (.arr true 1 [uv 9, uv 10])), ((41, 0), none), ((41, 1), some (.arr true 1 ([true, false, false, true, false].map bv))), ((41, 2), some (.arr true 1 ([false, true, false, true, false].map bv))), ((41, 3), some (.arr true 1 ([false, false, true, true, false].map bv))), ((41, 4), some (.arr true 1 ([false, false, false, true, false].map bv))), ((41, 5), some (.arr true 1 ([true, true, true, true, true].map bv))), ((41, 6), none), ((41, 7), none), ((41, 8), none), ((41, 9), none)]⟩) 5 (by kernel_rfl) ⟨_, _, ⟨0, rfl, by decide, rfl, rfl⟩, rfl⟩ ?_
    rintro m st ⟨z, x, ⟨b, rfl, hb, rfl, rfl⟩, rfl⟩
    skip
    conv => whnf
    refine vif_dec (fun h1 => ?_) (fun h1 => ?_)
    · conv => whnf
      refine ⟨⟨rfl, by decide, by decide⟩, ?_⟩
      conv => whnf
      refine ⟨⟨rfl, by omega, by omega⟩, ?_⟩
      conv => whnf
      refine ⟨_, rfl, ask_row (r := [false, false, true, true, false]) (b := b) (by simp; omega) fun y hy => ?_⟩
      cases y
      · conv => whnf
        exact ⟨by kernel_rfl, 5 - (b + 1), by omega, _, _, ⟨b + 1, rfl, by omega, wrap_i64 (by omega), by rw [wp_succ, hy]; rfl⟩, rfl⟩
      · conv => whnf
        refine l01Power.ac _ (by omega) ?_
        conv => whnf
        exact ⟨by kernel_rfl, 5 - (b + 1), by omega, _, _, ⟨b + 1, rfl, by omega, wrap_i64 (by omega), by rw [wp_succ, hy]; exact wrap_u64 (wp_add (by omega)) ⟩, rfl⟩
    · conv => whnf
      obtain rfl : b = 5 := by omega
      exact ⟨by kernel_rfl, 2, by decide, .inr (.inr (.inr (.inl ⟨rfl, rfl⟩)))⟩
  · conv => whnf
    refine cwF_loop (fun m st => ∃ z x : Int, (∃ b : Nat, m = 5 - b ∧ b ≤ 5 ∧ z = (b : Nat) ∧ x = wp [false, false, false, true, false] b) ∧ st = ⟨[iv 5, .un, .un, .un, .lp (6, 0) 2 0 0, bv false, .ls (32, 0) 1 0 5] ++ List.replicate 6 .un ++ [.lp (15, 0) 2 0 0, iv 3, uv x, iv z] ++ List.replicate 149 .un, mkOb [((6, 0), some (.arr false 2 [.agg [iv 0, nilV]])), ((32, 0), some (.arr false 1 [.ls (41, 1) 1 0 5, .ls (41, 2) 1 0 5, .ls (41, 3) 1 0 5, .ls (41, 4) 1 0 5, .ls (41, 5) 1 0 5])), ((15, 0), some (.arr false 2 [.agg [iv 5, .ls (161, 1) 1 0 3]])), ((161, 1), some (.arr true 1 [uv 9, uv 10, uv 12])), ((41, 0), none), ((41, 1), some (.arr true 1 ([true, false, false, true, false].map bv))), ((41, 2), some (.arr true 1 ([false, true, false, true, false].map bv))), ((41, 3), some (.arr true 1 ([false, false, true, true, false].map bv))), ((41, 4), some (.arr true 1 ([false, false, false, true, false].map bv))), ((41, 5), some (.arr true 1 ([true, true, true, true, true].map bv))), ((41, 6), none), ((41, 7), none), ((41, 8), none), ((41, 9), none)]⟩) 5 (by kernel_rfl) ⟨_, _, ⟨0, rfl, by decide, rfl, rfl⟩, rfl⟩ ?_
    rintro m st ⟨z, x, ⟨b, rfl, hb, rfl, rfl⟩, rfl⟩
    skip
    conv => whnf
    refine vif_dec (fun h1 => ?_) (fun h1 => ?_)
    · conv => whnf
      refine ⟨⟨rfl, by decide, by decide⟩, ?_⟩
      conv => whnf
      refine ⟨⟨rfl, by omega, by omega⟩, ?_⟩
      conv => whnf
      refine ⟨_, rfl, ask_row (r := [false, false, false, true, false]) (b := b) (by simp; omega) fun y hy => ?_⟩
      cases y
      · conv => whnf
        exact ⟨by kernel_rfl, 5 - (b + 1), by omega, _, _, ⟨b + 1, rfl, by omega, wrap_i64 (by omega), by rw [wp_succ, hy]; rfl⟩, rfl⟩
      · conv => whnf
        refine l01Power.ac _ (by omega) ?_
        conv => whnf
        exact ⟨by kernel_rfl, 5 - (b + 1), by omega, _, _, ⟨b + 1, rfl, by omega, wrap_i64 (by omega), by rw [wp_succ, hy]; exact wrap_u64 (wp_add (by omega)) ⟩, rfl⟩
    · conv => whnf
      obtain rfl : b = 5 := by omega
      exact ⟨by kernel_rfl, 1, by decide, .inr (.inr (.inr (.inr (.inl ⟨rfl, rfl⟩))))⟩
  · conv => whnf
    refine cwF_loop (fun m st => ∃ z x : Int, (∃ b : Nat, m = 5 - b ∧ b ≤ 5 ∧ z = (b : Nat) ∧ x = wp [true, true, true, true, true] b) ∧ st = ⟨[iv 5, .un, .un, .un, .lp (6, 0) 2 0 0, bv false, .ls (32, 0) 1 0 5] ++ List.replicate 6 .un ++ [.lp (15, 0) 2 0 0, iv 4, uv x, iv z] ++ List.replicate 149 .un, mkOb [((6, 0), some (.arr false 2 [.agg [iv 0, nilV]])), ((32, 0), some (.arr false 1 [.ls (41, 1) 1 0 5, .ls (41, 2) 1 0 5, .ls (41, 3) 1 0 5, .ls (41, 4) 1 0 5, .ls (41, 5) 1 0 5])), ((15, 0), some (.arr false 2 [.agg [iv 5, .ls (161, 1) 1 0 4]])), ((161, 1), some (.arr true 1 [uv 9, uv 10, uv 12, uv 8])), ((41, 0), none), ((41, 1), some (.arr true 1 ([true, false, false, true, false].map bv))), ((41, 2), some (.arr true 1 ([false, true, false, true, false].map bv))), ((41, 3), some (.arr true 1 ([false, false, true, true, false].map bv))), ((41, 4), some (.arr true 1 ([false, false, false, true, false].map bv))), ((41, 5), some (.arr true 1 ([true, true, true, true, true].map bv))), ((41, 6), none), ((41, 7), none), ((41, 8), none), ((41, 9), none)]⟩) 5 (by kernel_rfl) ⟨_, _, ⟨0, rfl, by decide, rfl, rfl⟩, rfl⟩ ?_
    rintro m st ⟨z, x, ⟨b, rfl, hb, rfl, rfl⟩, rfl⟩
    skip
    conv => whnf
    refine vif_dec (fun h1 => ?_) (fun h1 => ?_)
    · conv => whnf
      refine ⟨⟨rfl, by decide, by decide⟩, ?_⟩
      conv => whnf
      refine ⟨⟨rfl, by omega, by omega⟩, ?_⟩
      conv => whnf
      refine ⟨_, rfl, ask_row (r := [true, true, true, true, true]) (b := b) (by simp; omega) fun y hy => ?_⟩
      cases y
      · conv => whnf
        exact ⟨by kernel_rfl, 5 - (b + 1), by omega, _, _, ⟨b + 1, rfl, by omega, wrap_i64 (by omega), by rw [wp_succ, hy]; rfl⟩, rfl⟩
      · conv => whnf
        refine l01Power.ac _ (by omega) ?_
        conv => whnf
        exact ⟨by kernel_rfl, 5 - (b + 1), by omega, _, _, ⟨b + 1, rfl, by omega, wrap_i64 (by omega), by rw [wp_succ, hy]; exact wrap_u64 (wp_add (by omega)) ⟩, rfl⟩
    · conv => whnf
      obtain rfl : b = 5 := by omega
      exact ⟨by kernel_rfl, 0, by decide, .inr (.inr (.inr (.inr (.inr (⟨rfl, rfl⟩)))))⟩
  conv => whnf
  refine LatOkS.acW 5 [9, 10, 12, 8, 31] fun r hr => ?_
  obtain rfl : r = true := hr.2 (latB_P (by kernel_rfl))
  conv => whnf
  exact hK
end Go.Eng.T
