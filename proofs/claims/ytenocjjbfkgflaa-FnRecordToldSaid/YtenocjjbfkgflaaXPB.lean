import Derived.Test.YtenocjjbfkgflaaXPA
namespace Go.Eng.T.L
open Go.Proofs Go.Eng
set_option maxRecDepth 100000
set_option maxHeartbeats 0
theorem lt8 {k : Nat} (h : k < 8) : k = 0 ∨ k = 1 ∨ k = 2 ∨ k = 3 ∨ k = 4 ∨ k = 5 ∨ k = 6 ∨ k = 7 := by omega
theorem rows8 {a : Nat} (h : a < 8) (r0 r1 r2 r3 r4 r5 r6 r7 : List Bool) : mkOb [((6, 0), some (.arr false 2 [.agg [iv 0, nilV]])), ((32, 0), some (.arr false 1 [.ls (41, 1) 1 0 8, .ls (41, 2) 1 0 8, .ls (41, 3) 1 0 8, .ls (41, 4) 1 0 8, .ls (41, 5) 1 0 8, .ls (41, 6) 1 0 8, .ls (41, 7) 1 0 8, .ls (41, 8) 1 0 8])), ((15, 0), none), ((161, 1), none), ((41, 0), none), ((41, 1), some (.arr true 1 (r0.map bv))), ((41, 2), some (.arr true 1 (r1.map bv))), ((41, 3), some (.arr true 1 (r2.map bv))), ((41, 4), some (.arr true 1 (r3.map bv))), ((41, 5), some (.arr true 1 (r4.map bv))), ((41, 6), some (.arr true 1 (r5.map bv))), ((41, 7), some (.arr true 1 (r6.map bv))), ((41, 8), some (.arr true 1 (r7.map bv))), ((41, 9), none)] (41, a + 1) = some (.arr true 1 (([r0, r1, r2, r3, r4, r5, r6, r7].getD a []).map bv)) := by
  obtain rfl | rfl | rfl | rfl | rfl | rfl | rfl | rfl := lt8 h <;> rfl
theorem lens8 {a : Nat} (h : a < 8) {r0 r1 r2 r3 r4 r5 r6 r7 : List Bool} (hl : r0.length = 8 ∧ r1.length = 8 ∧ r2.length = 8 ∧ r3.length = 8 ∧ r4.length = 8 ∧ r5.length = 8 ∧ r6.length = 8 ∧ r7.length = 8) : ([r0, r1, r2, r3, r4, r5, r6, r7].getD a []).length = 8 := by
  obtain ⟨l0, l1, l2, l3, l4, l5, l6, l7⟩ := hl
  obtain rfl | rfl | rfl | rfl | rfl | rfl | rfl | rfl := lt8 h <;> assumption
theorem LatOfS.ac8 {K : V → List Obj → List Obj → Prop} (hK : K (.tup [.agg [iv 8, .ls (1, 0) 1 0 8], bv true]) [] [upO [255, 178, 212, 232, 144, 160, 192, 128]]) : AC Try.prog 113 [iv 8, .is 2 (List.map encE [(0, 1), (0, 2), (0, 3), (1, 4), (2, 4), (1, 5), (3, 5), (2, 6), (3, 6), (4, 7), (5, 7), (6, 7)])] [] K := by
  refine ac_body annLatOf fkLatOf hm htt Try.func113 rfl (by kernel_rfl) rfl rfl ?_
  conv => whnf
  refine cwF_loop (fun m st => (m = 8 ∧ st = ⟨[iv 8, .is 2 (List.map encE [(0, 1), (0, 2), (0, 3), (1, 4), (2, 4), (1, 5), (3, 5), (2, 6), (3, 6), (4, 7), (5, 7), (6, 7)]), .un, .un, .lp (6, 0) 2 0 0, bv false, .ls (32, 0) 1 0 8, iv 0] ++ List.replicate 158 .un, mkOb [((6, 0), some (.arr false 2 [.agg [iv 0, nilV]])), ((32, 0), some (.arr false 1 [nilV, nilV, nilV, nilV, nilV, nilV, nilV, nilV])), ((15, 0), none), ((161, 1), none), ((41, 0), none), ((41, 1), none), ((41, 2), none), ((41, 3), none), ((41, 4), none), ((41, 5), none), ((41, 6), none), ((41, 7), none), ((41, 8), none), ((41, 9), none)]⟩) ∨ (m = 7 ∧ st = ⟨[iv 8, .is 2 (List.map encE [(0, 1), (0, 2), (0, 3), (1, 4), (2, 4), (1, 5), (3, 5), (2, 6), (3, 6), (4, 7), (5, 7), (6, 7)]), .un, .un, .lp (6, 0) 2 0 0, bv false, .ls (32, 0) 1 0 8, iv 1] ++ List.replicate 158 .un, mkOb [((6, 0), some (.arr false 2 [.agg [iv 0, nilV]])), ((32, 0), some (.arr false 1 [.ls (41, 1) 1 0 8, nilV, nilV, nilV, nilV, nilV, nilV, nilV])), ((15, 0), none), ((161, 1), none), ((41, 0), none), ((41, 1), some (.arr true 1 ([true, false, false, false, false, false, false, false].map bv))), ((41, 2), none), ((41, 3), none), ((41, 4), none), ((41, 5), none), ((41, 6), none), ((41, 7), none), ((41, 8), none), ((41, 9), none)]⟩) ∨ (m = 6 ∧ st = ⟨[iv 8, .is 2 (List.map encE [(0, 1), (0, 2), (0, 3), (1, 4), (2, 4), (1, 5), (3, 5), (2, 6), (3, 6), (4, 7), (5, 7), (6, 7)]), .un, .un, .lp (6, 0) 2 0 0, bv false, .ls (32, 0) 1 0 8, iv 2] ++ List.replicate 158 .un, mkOb [((6, 0), some (.arr false 2 [.agg [iv 0, nilV]])), ((32, 0), some (.arr false 1 [.ls (41, 1) 1 0 8, .ls (41, 2) 1 0 8, nilV, nilV, nilV, nilV, nilV, nilV])), ((15, 0), none), ((161, 1), none), ((41, 0), none), ((41, 1), some (.arr true 1 ([true, false, false, false, false, false, false, false].map bv))), ((41, 2), some (.arr true 1 ([false, true, false, false, false, false, false, false].map bv))), ((41, 3), none), ((41, 4), none), ((41, 5), none), ((41, 6), none), ((41, 7), none), ((41, 8), none), ((41, 9), none)]⟩) ∨ (m = 5 ∧ st = ⟨[iv 8, .is 2 (List.map encE [(0, 1), (0, 2), (0, 3), (1, 4), (2, 4), (1, 5), (3, 5), (2, 6), (3, 6), (4, 7), (5, 7), (6, 7)]), .un, .un, .lp (6, 0) 2 0 0, bv false, .ls (32, 0) 1 0 8, iv 3] ++ List.replicate 158 .un, mkOb [((6, 0), some (.arr false 2 [.agg [iv 0, nilV]])), ((32, 0), some (.arr false 1 [.ls (41, 1) 1 0 8, .ls (41, 2) 1 0 8, .ls (41, 3) 1 0 8, nilV, nilV, nilV, nilV, nilV])), ((15, 0), none), ((161, 1), none), ((41, 0), none), ((41, 1), some (.arr true 1 ([true, false, false, false, false, false, false, false].map bv))), ((41, 2), some (.arr true 1 ([false, true, false, false, false, false, false, false].map bv))), ((41, 3), some (.arr true 1 ([false, false, true, false, false, false, false, false].map bv))), ((41, 4), none), ((41, 5), none), ((41, 6), none), ((41, 7), none), ((41, 8), none), ((41, 9), none)]⟩) ∨ (m = 4 ∧ st = ⟨[iv 8, .is 2 (List.map encE [(0, 1), (0, 2), (0, 3), (1, 4), (2, 4), (1, 5), (3, 5), (2, 6), (3, 6), (4, 7), (5, 7), (6, 7)]), .un, .un, .lp (6, 0) 2 0 0, bv false, .ls (32, 0) 1 0 8, iv 4] ++ List.replicate 158 .un, mkOb [((6, 0), some (.arr false 2 [.agg [iv 0, nilV]])), ((32, 0), some (.arr false 1 [.ls (41, 1) 1 0 8, .ls (41, 2) 1 0 8, .ls (41, 3) 1 0 8, .ls (41, 4) 1 0 8, nilV, nilV, nilV, nilV])), ((15, 0), none), ((161, 1), none), ((41, 0), none), ((41, 1), some (.arr true 1 ([true, false, false, false, false, false, false, false].map bv))), ((41, 2), some (.arr true 1 ([false, true, false, false, false, false, false, false].map bv))), ((41, 3), some (.arr true 1 ([false, false, true, false, false, false, false, false].map bv))), ((41, 4), some (.arr true 1 ([false, false, false, true, false, false, false, false].map bv))), ((41, 5), none), ((41, 6), none), ((41, 7), none), ((41, 8), none), ((41, 9), none)]⟩) ∨ (m = 3 ∧ st = ⟨[iv 8, .is 2 (List.map encE [(0, 1), (0, 2), (0, 3), (1, 4), (2, 4), (1, 5), (3, 5), (2, 6), (3, 6), (4, 7), (5, 7), (6, 7)]), .un, .un, .lp (6, 0) 2 0 0, bv false, .ls (32, 0) 1 0 8, iv 5] ++ List.replicate 158 .un, mkOb [((6, 0), some (.arr false 2 [.agg [iv 0, nilV]])), ((32, 0), some (.arr false 1 [.ls (41, 1) 1 0 8, .ls (41, 2) 1 0 8, .ls (41, 3) 1 0 8, .ls (41, 4) 1 0 8, .ls (41, 5) 1 0 8, nilV, nilV, nilV])), ((15, 0), none), ((161, 1), none), ((41, 0), none), ((41, 1), some (.arr true 1 ([true, false, false, false, false, false, false, false].map bv))), ((41, 2), some (.arr true 1 ([false, true, false, false, false, false, false, false].map bv))), ((41, 3), some (.arr true 1 ([false, false, true, false, false, false, false, false].map bv))), ((41, 4), some (.arr true 1 ([false, false, false, true, false, false, false, false].map bv))), ((41, 5), some (.arr true 1 ([false, false, false, false, true, false, false, false].map bv))), ((41, 6), none), ((41, 7), none), ((41, 8), none), ((41, 9), none)]⟩) ∨ (m = 2 ∧ st = ⟨[iv 8, .is 2 (List.map encE [(0, 1), (0, 2), (0, 3), (1, 4), (2, 4), (1, 5), (3, 5), (2, 6), (3, 6), (4, 7), (5, 7), (6, 7)]), .un, .un, .lp (6, 0) 2 0 0, bv false, .ls (32, 0) 1 0 8, iv 6] ++ List.replicate 158 .un, mkOb [((6, 0), some (.arr false 2 [.agg [iv 0, nilV]])), ((32, 0), some (.arr false 1 [.ls (41, 1) 1 0 8, .ls (41, 2) 1 0 8, .ls (41, 3) 1 0 8, .ls (41, 4) 1 0 8, .ls (41, 5) 1 0 8, .ls (41, 6) 1 0 8, nilV, nilV])), ((15, 0), none), ((161, 1), none), ((41, 0), none), ((41, 1), some (.arr true 1 ([true, false, false, false, false, false, false, false].map bv))), ((41, 2), some (.arr true 1 ([false, true, false, false, false, false, false, false].map bv))), ((41, 3), some (.arr true 1 ([false, false, true, false, false, false, false, false].map bv))), ((41, 4), some (.arr true 1 ([false, false, false, true, false, false, false, false].map bv))), ((41, 5), some (.arr true 1 ([false, false, false, false, true, false, false, false].map bv))), ((41, 6), some (.arr true 1 ([false, false, false, false, false, true, false, false].map bv))), ((41, 7), none), ((41, 8), none), ((41, 9), none)]⟩) ∨ (m = 1 ∧ st = ⟨[iv 8, .is 2 (List.map encE [(0, 1), (0, 2), (0, 3), (1, 4), (2, 4), (1, 5), (3, 5), (2, 6), (3, 6), (4, 7), (5, 7), (6, 7)]), .un, .un, .lp (6, 0) 2 0 0, bv false, .ls (32, 0) 1 0 8, iv 7] ++ List.replicate 158 .un, mkOb [((6, 0), some (.arr false 2 [.agg [iv 0, nilV]])), ((32, 0), some (.arr false 1 [.ls (41, 1) 1 0 8, .ls (41, 2) 1 0 8, .ls (41, 3) 1 0 8, .ls (41, 4) 1 0 8, .ls (41, 5) 1 0 8, .ls (41, 6) 1 0 8, .ls (41, 7) 1 0 8, nilV])), ((15, 0), none), ((161, 1), none), ((41, 0), none), ((41, 1), some (.arr true 1 ([true, false, false, false, false, false, false, false].map bv))), ((41, 2), some (.arr true 1 ([false, true, false, false, false, false, false, false].map bv))), ((41, 3), some (.arr true 1 ([false, false, true, false, false, false, false, false].map bv))), ((41, 4), some (.arr true 1 ([false, false, false, true, false, false, false, false].map bv))), ((41, 5), some (.arr true 1 ([false, false, false, false, true, false, false, false].map bv))), ((41, 6), some (.arr true 1 ([false, false, false, false, false, true, false, false].map bv))), ((41, 7), some (.arr true 1 ([false, false, false, false, false, false, true, false].map bv))), ((41, 8), none), ((41, 9), none)]⟩) ∨ (m = 0 ∧ st = ⟨[iv 8, .is 2 (List.map encE [(0, 1), (0, 2), (0, 3), (1, 4), (2, 4), (1, 5), (3, 5), (2, 6), (3, 6), (4, 7), (5, 7), (6, 7)]), .un, .un, .lp (6, 0) 2 0 0, bv false, .ls (32, 0) 1 0 8, iv 8] ++ List.replicate 158 .un, mkOb [((6, 0), some (.arr false 2 [.agg [iv 0, nilV]])), ((32, 0), some (.arr false 1 [.ls (41, 1) 1 0 8, .ls (41, 2) 1 0 8, .ls (41, 3) 1 0 8, .ls (41, 4) 1 0 8, .ls (41, 5) 1 0 8, .ls (41, 6) 1 0 8, .ls (41, 7) 1 0 8, .ls (41, 8) 1 0 8])), ((15, 0), none), ((161, 1), none), ((41, 0), none), ((41, 1), some (.arr true 1 ([true, false, false, false, false, false, false, false].map bv))), ((41, 2), some (.arr true 1 ([false, true, false, false, false, false, false, false].map bv))), ((41, 3), some (.arr true 1 ([false, false, true, false, false, false, false, false].map bv))), ((41, 4), some (.arr true 1 ([false, false, false, true, false, false, false, false].map bv))), ((41, 5), some (.arr true 1 ([false, false, false, false, true, false, false, false].map bv))), ((41, 6), some (.arr true 1 ([false, false, false, false, false, true, false, false].map bv))), ((41, 7), some (.arr true 1 ([false, false, false, false, false, false, true, false].map bv))), ((41, 8), some (.arr true 1 ([false, false, false, false, false, false, false, true].map bv))), ((41, 9), none)]⟩)) 8 (by kernel_rfl) (.inl ⟨rfl, rfl⟩) ?_
  rintro m st (⟨rfl, rfl⟩ | ⟨rfl, rfl⟩ | ⟨rfl, rfl⟩ | ⟨rfl, rfl⟩ | ⟨rfl, rfl⟩ | ⟨rfl, rfl⟩ | ⟨rfl, rfl⟩ | ⟨rfl, rfl⟩ | ⟨rfl, rfl⟩)
  · conv => whnf
    refine ⟨⟨by decide, rfl, by decide, by decide, by decide, by decide⟩, ?_⟩
    conv => whnf
    refine ⟨⟨rfl, by decide, by decide⟩, ?_⟩
    conv => whnf
    refine ⟨⟨rfl, by decide, by decide⟩, ?_⟩
    conv => whnf
    refine ⟨⟨rfl, by decide, by decide⟩, ?_⟩
    conv => whnf
    refine ⟨_, rfl, ⟨rfl, List.not_mem_nil⟩, _, rfl, ?_⟩
    conv => whnf
    exact ⟨by kernel_rfl, 7, by decide, .inr (.inl ⟨rfl, rfl⟩)⟩
  · conv => whnf
    refine ⟨⟨by decide, rfl, by decide, by decide, by decide, by decide⟩, ?_⟩
    conv => whnf
    refine ⟨⟨rfl, by decide, by decide⟩, ?_⟩
    conv => whnf
    refine ⟨⟨rfl, by decide, by decide⟩, ?_⟩
    conv => whnf
    refine ⟨⟨rfl, by decide, by decide⟩, ?_⟩
    conv => whnf
    refine ⟨_, rfl, ⟨rfl, List.not_mem_nil⟩, _, rfl, ?_⟩
    conv => whnf
    exact ⟨by kernel_rfl, 6, by decide, .inr (.inr (.inl ⟨rfl, rfl⟩))⟩
  · conv => whnf
    refine ⟨⟨by decide, rfl, by decide, by decide, by decide, by decide⟩, ?_⟩
    conv => whnf
    refine ⟨⟨rfl, by decide, by decide⟩, ?_⟩
    conv => whnf
    refine ⟨⟨rfl, by decide, by decide⟩, ?_⟩
    conv => whnf
    refine ⟨⟨rfl, by decide, by decide⟩, ?_⟩
    conv => whnf
    refine ⟨_, rfl, ⟨rfl, List.not_mem_nil⟩, _, rfl, ?_⟩
    conv => whnf
    exact ⟨by kernel_rfl, 5, by decide, .inr (.inr (.inr (.inl ⟨rfl, rfl⟩)))⟩
  · conv => whnf
    refine ⟨⟨by decide, rfl, by decide, by decide, by decide, by decide⟩, ?_⟩
    conv => whnf
    refine ⟨⟨rfl, by decide, by decide⟩, ?_⟩
    conv => whnf
    refine ⟨⟨rfl, by decide, by decide⟩, ?_⟩
    conv => whnf
    refine ⟨⟨rfl, by decide, by decide⟩, ?_⟩
    conv => whnf
    refine ⟨_, rfl, ⟨rfl, List.not_mem_nil⟩, _, rfl, ?_⟩
    conv => whnf
    exact ⟨by kernel_rfl, 4, by decide, .inr (.inr (.inr (.inr (.inl ⟨rfl, rfl⟩))))⟩
  · conv => whnf
    refine ⟨⟨by decide, rfl, by decide, by decide, by decide, by decide⟩, ?_⟩
    conv => whnf
    refine ⟨⟨rfl, by decide, by decide⟩, ?_⟩
    conv => whnf
    refine ⟨⟨rfl, by decide, by decide⟩, ?_⟩
    conv => whnf
    refine ⟨⟨rfl, by decide, by decide⟩, ?_⟩
    conv => whnf
    refine ⟨_, rfl, ⟨rfl, List.not_mem_nil⟩, _, rfl, ?_⟩
    conv => whnf
    exact ⟨by kernel_rfl, 3, by decide, .inr (.inr (.inr (.inr (.inr (.inl ⟨rfl, rfl⟩)))))⟩
  · conv => whnf
    refine ⟨⟨by decide, rfl, by decide, by decide, by decide, by decide⟩, ?_⟩
    conv => whnf
    refine ⟨⟨rfl, by decide, by decide⟩, ?_⟩
    conv => whnf
    refine ⟨⟨rfl, by decide, by decide⟩, ?_⟩
    conv => whnf
    refine ⟨⟨rfl, by decide, by decide⟩, ?_⟩
    conv => whnf
    refine ⟨_, rfl, ⟨rfl, List.not_mem_nil⟩, _, rfl, ?_⟩
    conv => whnf
    exact ⟨by kernel_rfl, 2, by decide, .inr (.inr (.inr (.inr (.inr (.inr (.inl ⟨rfl, rfl⟩))))))⟩
  · conv => whnf
    refine ⟨⟨by decide, rfl, by decide, by decide, by decide, by decide⟩, ?_⟩
    conv => whnf
    refine ⟨⟨rfl, by decide, by decide⟩, ?_⟩
    conv => whnf
    refine ⟨⟨rfl, by decide, by decide⟩, ?_⟩
    conv => whnf
    refine ⟨⟨rfl, by decide, by decide⟩, ?_⟩
    conv => whnf
    refine ⟨_, rfl, ⟨rfl, List.not_mem_nil⟩, _, rfl, ?_⟩
    conv => whnf
    exact ⟨by kernel_rfl, 1, by decide, .inr (.inr (.inr (.inr (.inr (.inr (.inr (.inl ⟨rfl, rfl⟩)))))))⟩
  · conv => whnf
    refine ⟨⟨by decide, rfl, by decide, by decide, by decide, by decide⟩, ?_⟩
    conv => whnf
    refine ⟨⟨rfl, by decide, by decide⟩, ?_⟩
    conv => whnf
    refine ⟨⟨rfl, by decide, by decide⟩, ?_⟩
    conv => whnf
    refine ⟨⟨rfl, by decide, by decide⟩, ?_⟩
    conv => whnf
    refine ⟨_, rfl, ⟨rfl, List.not_mem_nil⟩, _, rfl, ?_⟩
    conv => whnf
    exact ⟨by kernel_rfl, 0, by decide, .inr (.inr (.inr (.inr (.inr (.inr (.inr (.inr (⟨rfl, rfl⟩))))))))⟩
  conv => whnf
  refine cwF_loop (fun m st => (m = 12 ∧ st = ⟨[iv 8, .is 2 (List.map encE [(0, 1), (0, 2), (0, 3), (1, 4), (2, 4), (1, 5), (3, 5), (2, 6), (3, 6), (4, 7), (5, 7), (6, 7)]), .un, .un, .lp (6, 0) 2 0 0, bv false, .ls (32, 0) 1 0 8, .un, iv 0] ++ List.replicate 157 .un, mkOb [((6, 0), some (.arr false 2 [.agg [iv 0, nilV]])), ((32, 0), some (.arr false 1 [.ls (41, 1) 1 0 8, .ls (41, 2) 1 0 8, .ls (41, 3) 1 0 8, .ls (41, 4) 1 0 8, .ls (41, 5) 1 0 8, .ls (41, 6) 1 0 8, .ls (41, 7) 1 0 8, .ls (41, 8) 1 0 8])), ((15, 0), none), ((161, 1), none), ((41, 0), none), ((41, 1), some (.arr true 1 ([true, false, false, false, false, false, false, false].map bv))), ((41, 2), some (.arr true 1 ([false, true, false, false, false, false, false, false].map bv))), ((41, 3), some (.arr true 1 ([false, false, true, false, false, false, false, false].map bv))), ((41, 4), some (.arr true 1 ([false, false, false, true, false, false, false, false].map bv))), ((41, 5), some (.arr true 1 ([false, false, false, false, true, false, false, false].map bv))), ((41, 6), some (.arr true 1 ([false, false, false, false, false, true, false, false].map bv))), ((41, 7), some (.arr true 1 ([false, false, false, false, false, false, true, false].map bv))), ((41, 8), some (.arr true 1 ([false, false, false, false, false, false, false, true].map bv))), ((41, 9), none)]⟩) ∨ (m = 11 ∧ st = ⟨[iv 8, .is 2 (List.map encE [(0, 1), (0, 2), (0, 3), (1, 4), (2, 4), (1, 5), (3, 5), (2, 6), (3, 6), (4, 7), (5, 7), (6, 7)]), .un, .un, .lp (6, 0) 2 0 0, bv false, .ls (32, 0) 1 0 8, .un, iv 1] ++ List.replicate 157 .un, mkOb [((6, 0), some (.arr false 2 [.agg [iv 0, nilV]])), ((32, 0), some (.arr false 1 [.ls (41, 1) 1 0 8, .ls (41, 2) 1 0 8, .ls (41, 3) 1 0 8, .ls (41, 4) 1 0 8, .ls (41, 5) 1 0 8, .ls (41, 6) 1 0 8, .ls (41, 7) 1 0 8, .ls (41, 8) 1 0 8])), ((15, 0), none), ((161, 1), none), ((41, 0), none), ((41, 1), some (.arr true 1 ([true, true, false, false, false, false, false, false].map bv))), ((41, 2), some (.arr true 1 ([false, true, false, false, false, false, false, false].map bv))), ((41, 3), some (.arr true 1 ([false, false, true, false, false, false, false, false].map bv))), ((41, 4), some (.arr true 1 ([false, false, false, true, false, false, false, false].map bv))), ((41, 5), some (.arr true 1 ([false, false, false, false, true, false, false, false].map bv))), ((41, 6), some (.arr true 1 ([false, false, false, false, false, true, false, false].map bv))), ((41, 7), some (.arr true 1 ([false, false, false, false, false, false, true, false].map bv))), ((41, 8), some (.arr true 1 ([false, false, false, false, false, false, false, true].map bv))), ((41, 9), none)]⟩) ∨ (m = 10 ∧ st = ⟨[iv 8, .is 2 (List.map encE [(0, 1), (0, 2), (0, 3), (1, 4), (2, 4), (1, 5), (3, 5), (2, 6), (3, 6), (4, 7), (5, 7), (6, 7)]), .un, .un, .lp (6, 0) 2 0 0, bv false, .ls (32, 0) 1 0 8, .un, iv 2] ++ List.replicate 157 .un, mkOb [((6, 0), some (.arr false 2 [.agg [iv 0, nilV]])), ((32, 0), some (.arr false 1 [.ls (41, 1) 1 0 8, .ls (41, 2) 1 0 8, .ls (41, 3) 1 0 8, .ls (41, 4) 1 0 8, .ls (41, 5) 1 0 8, .ls (41, 6) 1 0 8, .ls (41, 7) 1 0 8, .ls (41, 8) 1 0 8])), ((15, 0), none), ((161, 1), none), ((41, 0), none), ((41, 1), some (.arr true 1 ([true, true, true, false, false, false, false, false].map bv))), ((41, 2), some (.arr true 1 ([false, true, false, false, false, false, false, false].map bv))), ((41, 3), some (.arr true 1 ([false, false, true, false, false, false, false, false].map bv))), ((41, 4), some (.arr true 1 ([false, false, false, true, false, false, false, false].map bv))), ((41, 5), some (.arr true 1 ([false, false, false, false, true, false, false, false].map bv))), ((41, 6), some (.arr true 1 ([false, false, false, false, false, true, false, false].map bv))), ((41, 7), some (.arr true 1 ([false, false, false, false, false, false, true, false].map bv))), ((41, 8), some (.arr true 1 ([false, false, false, false, false, false, false, true].map bv))), ((41, 9), none)]⟩) ∨ (m = 9 ∧ st = ⟨[iv 8, .is 2 (List.map encE [(0, 1), (0, 2), (0, 3), (1, 4), (2, 4), (1, 5), (3, 5), (2, 6), (3, 6), (4, 7), (5, 7), (6, 7)]), .un, .un, .lp (6, 0) 2 0 0, bv false, .ls (32, 0) 1 0 8, .un, iv 3] ++ List.replicate 157 .un, mkOb [((6, 0), some (.arr false 2 [.agg [iv 0, nilV]])), ((32, 0), some (.arr false 1 [.ls (41, 1) 1 0 8, .ls (41, 2) 1 0 8, .ls (41, 3) 1 0 8, .ls (41, 4) 1 0 8, .ls (41, 5) 1 0 8, .ls (41, 6) 1 0 8, .ls (41, 7) 1 0 8, .ls (41, 8) 1 0 8])), ((15, 0), none), ((161, 1), none), ((41, 0), none), ((41, 1), some (.arr true 1 ([true, true, true, true, false, false, false, false].map bv))), ((41, 2), some (.arr true 1 ([false, true, false, false, false, false, false, false].map bv))), ((41, 3), some (.arr true 1 ([false, false, true, false, false, false, false, false].map bv))), ((41, 4), some (.arr true 1 ([false, false, false, true, false, false, false, false].map bv))), ((41, 5), some (.arr true 1 ([false, false, false, false, true, false, false, false].map bv))), ((41, 6), some (.arr true 1 ([false, false, false, false, false, true, false, false].map bv))), ((41, 7), some (.arr true 1 ([false, false, false, false, false, false, true, false].map bv))), ((41, 8), some (.arr true 1 ([false, false, false, false, false, false, false, true].map bv))), ((41, 9), none)]⟩) ∨ (m = 8 ∧ st = ⟨[iv 8, .is 2 (List.map encE [(0, 1), (0, 2), (0, 3), (1, 4), (2, 4), (1, 5), (3, 5), (2, 6), (3, 6), (4, 7), (5, 7), (6, 7)]), .un, .un, .lp (6, 0) 2 0 0, bv false, .ls (32, 0) 1 0 8, .un, iv 4] ++ List.replicate 157 .un, mkOb [((6, 0), some (.arr false 2 [.agg [iv 0, nilV]])), ((32, 0), some (.arr false 1 [.ls (41, 1) 1 0 8, .ls (41, 2) 1 0 8, .ls (41, 3) 1 0 8, .ls (41, 4) 1 0 8, .ls (41, 5) 1 0 8, .ls (41, 6) 1 0 8, .ls (41, 7) 1 0 8, .ls (41, 8) 1 0 8])), ((15, 0), none), ((161, 1), none), ((41, 0), none), ((41, 1), some (.arr true 1 ([true, true, true, true, false, false, false, false].map bv))), ((41, 2), some (.arr true 1 ([false, true, false, false, true, false, false, false].map bv))), ((41, 3), some (.arr true 1 ([false, false, true, false, false, false, false, false].map bv))), ((41, 4), some (.arr true 1 ([false, false, false, true, false, false, false, false].map bv))), ((41, 5), some (.arr true 1 ([false, false, false, false, true, false, false, false].map bv))), ((41, 6), some (.arr true 1 ([false, false, false, false, false, true, false, false].map bv))), ((41, 7), some (.arr true 1 ([false, false, false, false, false, false, true, false].map bv))), ((41, 8), some (.arr true 1 ([false, false, false, false, false, false, false, true].map bv))), ((41, 9), none)]⟩) ∨ (m = 7 ∧ st = ⟨[iv 8, .is 2 (List.map encE [(0, 1), (0, 2), (0, 3), (1, 4), (2, 4), (1, 5), (3, 5), (2, 6), (3, 6), (4, 7), (5, 7), (6, 7)]), .un, .un, .lp (6, 0) 2 0 0, bv false, .ls (32, 0) 1 0 8, .un, iv 5] ++ List.replicate 157 .un, mkOb [((6, 0), some (.arr false 2 [.agg [iv 0, nilV]])), ((32, 0), some (.arr false 1 [.ls (41, 1) 1 0 8, .ls (41, 2) 1 0 8, .ls (41, 3) 1 0 8, .ls (41, 4) 1 0 8, .ls (41, 5) 1 0 8, .ls (41, 6) 1 0 8, .ls (41, 7) 1 0 8, .ls (41, 8) 1 0 8])), ((15, 0), none), ((161, 1), none), ((41, 0), none), ((41, 1), some (.arr true 1 ([true, true, true, true, false, false, false, false].map bv))), ((41, 2), some (.arr true 1 ([false, true, false, false, true, false, false, false].map bv))), ((41, 3), some (.arr true 1 ([false, false, true, false, true, false, false, false].map bv))), ((41, 4), some (.arr true 1 ([false, false, false, true, false, false, false, false].map bv))), ((41, 5), some (.arr true 1 ([false, false, false, false, true, false, false, false].map bv))), ((41, 6), some (.arr true 1 ([false, false, false, false, false, true, false, false].map bv))), ((41, 7), some (.arr true 1 ([false, false, false, false, false, false, true, false].map bv))), ((41, 8), some (.arr true 1 ([false, false, false, false, false, false, false, true].map bv))), ((41, 9), none)]⟩) ∨ (m = 6 ∧ st = ⟨[iv 8, .is 2 (List.map encE [(0, 1), (0, 2), (0, 3), (1, 4), (2, 4), (1, 5), (3, 5), (2, 6), (3, 6), (4, 7), (5, 7), (6, 7)]), .un, .un, .lp (6, 0) 2 0 0, bv false, .ls (32, 0) 1 0 8, .un, iv 6] ++ List.replicate 157 .un, mkOb [((6, 0), some (.arr false 2 [.agg [iv 0, nilV]])), ((32, 0), some (.arr false 1 [.ls (41, 1) 1 0 8, .ls (41, 2) 1 0 8, .ls (41, 3) 1 0 8, .ls (41, 4) 1 0 8, .ls (41, 5) 1 0 8, .ls (41, 6) 1 0 8, .ls (41, 7) 1 0 8, .ls (41, 8) 1 0 8])), ((15, 0), none), ((161, 1), none), ((41, 0), none), ((41, 1), some (.arr true 1 ([true, true, true, true, false, false, false, false].map bv))), ((41, 2), some (.arr true 1 ([false, true, false, false, true, true, false, false].map bv))), ((41, 3), some (.arr true 1 ([false, false, true, false, true, false, false, false].map bv))), ((41, 4), some (.arr true 1 ([false, false, false, true, false, false, false, false].map bv))), ((41, 5), some (.arr true 1 ([false, false, false, false, true, false, false, false].map bv))), ((41, 6), some (.arr true 1 ([false, false, false, false, false, true, false, false].map bv))), ((41, 7), some (.arr true 1 ([false, false, false, false, false, false, true, false].map bv))), ((41, 8), some (.arr true 1 ([false, false, false, false, false, false, false, true].map bv))), ((41, 9), none)]⟩) ∨ (m = 5 ∧ st = ⟨[iv 8, .is 2 (List.map encE [(0, 1), (0, 2), (0, 3), (1, 4), (2, 4), (1, 5), (3, 5), (2, 6), (3, 6), (4, 7), (5, 7), (6, 7)]), .un, .un, .lp (6, 0) 2 0 0, bv false, .ls (32, 0) 1 0 8, .un, iv 7] ++ List.replicate 157 .un, mkOb [((6, 0), some (.arr false 2 [.agg [iv 0, nilV]])), ((32, 0), some (.arr false 1 [.ls (41, 1) 1 0 8, .ls (41, 2) 1 0 8, .ls (41, 3) 1 0 8, .ls (41, 4) 1 0 8, .ls (41, 5) 1 0 8, .ls (41, 6) 1 0 8, .ls (41, 7) 1 0 8, .ls (41, 8) 1 0 8])), ((15, 0), none), ((161, 1), none), ((41, 0), none), ((41, 1), some (.arr true 1 ([true, true, true, true, false, false, false, false].map bv))), ((41, 2), some (.arr true 1 ([false, true, false, false, true, true, false, false].map bv))), ((41, 3), some (.arr true 1 ([false, false, true, false, true, false, false, false].map bv))), ((41, 4), some (.arr true 1 ([false, false, false, true, false, true, false, false].map bv))), ((41, 5), some (.arr true 1 ([false, false, false, false, true, false, false, false].map bv))), ((41, 6), some (.arr true 1 ([false, false, false, false, false, true, false, false].map bv))), ((41, 7), some (.arr true 1 ([false, false, false, false, false, false, true, false].map bv))), ((41, 8), some (.arr true 1 ([false, false, false, false, false, false, false, true].map bv))), ((41, 9), none)]⟩) ∨ (m = 4 ∧ st = ⟨[iv 8, .is 2 (List.map encE [(0, 1), (0, 2), (0, 3), (1, 4), (2, 4), (1, 5), (3, 5), (2, 6), (3, 6), (4, 7), (5, 7), (6, 7)]), .un, .un, .lp (6, 0) 2 0 0, bv false, .ls (32, 0) 1 0 8, .un, iv 8] ++ List.replicate 157 .un, mkOb [((6, 0), some (.arr false 2 [.agg [iv 0, nilV]])), ((32, 0), some (.arr false 1 [.ls (41, 1) 1 0 8, .ls (41, 2) 1 0 8, .ls (41, 3) 1 0 8, .ls (41, 4) 1 0 8, .ls (41, 5) 1 0 8, .ls (41, 6) 1 0 8, .ls (41, 7) 1 0 8, .ls (41, 8) 1 0 8])), ((15, 0), none), ((161, 1), none), ((41, 0), none), ((41, 1), some (.arr true 1 ([true, true, true, true, false, false, false, false].map bv))), ((41, 2), some (.arr true 1 ([false, true, false, false, true, true, false, false].map bv))), ((41, 3), some (.arr true 1 ([false, false, true, false, true, false, true, false].map bv))), ((41, 4), some (.arr true 1 ([false, false, false, true, false, true, false, false].map bv))), ((41, 5), some (.arr true 1 ([false, false, false, false, true, false, false, false].map bv))), ((41, 6), some (.arr true 1 ([false, false, false, false, false, true, false, false].map bv))), ((41, 7), some (.arr true 1 ([false, false, false, false, false, false, true, false].map bv))), ((41, 8), some (.arr true 1 ([false, false, false, false, false, false, false, true].map bv))), ((41, 9), none)]⟩) ∨ (m = 3 ∧ st = ⟨[iv 8, .is 2 (List.map encE [(0, 1), (0, 2), (0, 3), (1, 4), (2, 4), (1, 5), (3, 5), (2, 6), (3, 6), (4, 7), (5, 7), (6, 7)]), .un, .un, .lp (6, 0) 2 0 0, bv false, .ls (32, 0) 1 0 8, .un, iv 9] ++ List.replicate 157 .un, mkOb [((6, 0), some (.arr false 2 [.agg [iv 0, nilV]])), ((32, 0), some (.arr false 1 [.ls (41, 1) 1 0 8, .ls (41, 2) 1 0 8, .ls (41, 3) 1 0 8, .ls (41, 4) 1 0 8, .ls (41, 5) 1 0 8, .ls (41, 6) 1 0 8, .ls (41, 7) 1 0 8, .ls (41, 8) 1 0 8])), ((15, 0), none), ((161, 1), none), ((41, 0), none), ((41, 1), some (.arr true 1 ([true, true, true, true, false, false, false, false].map bv))), ((41, 2), some (.arr true 1 ([false, true, false, false, true, true, false, false].map bv))), ((41, 3), some (.arr true 1 ([false, false, true, false, true, false, true, false].map bv))), ((41, 4), some (.arr true 1 ([false, false, false, true, false, true, true, false].map bv))), ((41, 5), some (.arr true 1 ([false, false, false, false, true, false, false, false].map bv))), ((41, 6), some (.arr true 1 ([false, false, false, false, false, true, false, false].map bv))), ((41, 7), some (.arr true 1 ([false, false, false, false, false, false, true, false].map bv))), ((41, 8), some (.arr true 1 ([false, false, false, false, false, false, false, true].map bv))), ((41, 9), none)]⟩) ∨ (m = 2 ∧ st = ⟨[iv 8, .is 2 (List.map encE [(0, 1), (0, 2), (0, 3), (1, 4), (2, 4), (1, 5), (3, 5), (2, 6), (3, 6), (4, 7), (5, 7), (6, 7)]), .un, .un, .lp (6, 0) 2 0 0, bv false, .ls (32, 0) 1 0 8, .un, iv 10] ++ List.replicate 157 .un, mkOb [((6, 0), some (.arr false 2 [.agg [iv 0, nilV]])), ((32, 0), some (.arr false 1 [.ls (41, 1) 1 0 8, .ls (41, 2) 1 0 8, .ls (41, 3) 1 0 8, .ls (41, 4) 1 0 8, .ls (41, 5) 1 0 8, .ls (41, 6) 1 0 8, .ls (41, 7) 1 0 8, .ls (41, 8) 1 0 8])), ((15, 0), none), ((161, 1), none), ((41, 0), none), ((41, 1), some (.arr true 1 ([true, true, true, true, false, false, false, false].map bv))), ((41, 2), some (.arr true 1 ([false, true, false, false, true, true, false, false].map bv))), ((41, 3), some (.arr true 1 ([false, false, true, false, true, false, true, false].map bv))), ((41, 4), some (.arr true 1 ([false, false, false, true, false, true, true, false].map bv))), ((41, 5), some (.arr true 1 ([false, false, false, false, true, false, false, true].map bv))), ((41, 6), some (.arr true 1 ([false, false, false, false, false, true, false, false].map bv))), ((41, 7), some (.arr true 1 ([false, false, false, false, false, false, true, false].map bv))), ((41, 8), some (.arr true 1 ([false, false, false, false, false, false, false, true].map bv))), ((41, 9), none)]⟩) ∨ (m = 1 ∧ st = ⟨[iv 8, .is 2 (List.map encE [(0, 1), (0, 2), (0, 3), (1, 4), (2, 4), (1, 5), (3, 5), (2, 6), (3, 6), (4, 7), (5, 7), (6, 7)]), .un, .un, .lp (6, 0) 2 0 0, bv false, .ls (32, 0) 1 0 8, .un, iv 11] ++ List.replicate 157 .un, mkOb [((6, 0), some (.arr false 2 [.agg [iv 0, nilV]])), ((32, 0), some (.arr false 1 [.ls (41, 1) 1 0 8, .ls (41, 2) 1 0 8, .ls (41, 3) 1 0 8, .ls (41, 4) 1 0 8, .ls (41, 5) 1 0 8, .ls (41, 6) 1 0 8, .ls (41, 7) 1 0 8, .ls (41, 8) 1 0 8])), ((15, 0), none), ((161, 1), none), ((41, 0), none), ((41, 1), some (.arr true 1 ([true, true, true, true, false, false, false, false].map bv))), ((41, 2), some (.arr true 1 ([false, true, false, false, true, true, false, false].map bv))), ((41, 3), some (.arr true 1 ([false, false, true, false, true, false, true, false].map bv))), ((41, 4), some (.arr true 1 ([false, false, false, true, false, true, true, false].map bv))), ((41, 5), some (.arr true 1 ([false, false, false, false, true, false, false, true].map bv))), ((41, 6), some (.arr true 1 ([false, false, false, false, false, true, false, true].map bv))), ((41, 7), some (.arr true 1 ([false, false, false, false, false, false, true, false].map bv))), ((41, 8), some (.arr true 1 ([false, false, false, false, false, false, false, true].map bv))), ((41, 9), none)]⟩) ∨ (m = 0 ∧ st = ⟨[iv 8, .is 2 (List.map encE [(0, 1), (0, 2), (0, 3), (1, 4), (2, 4), (1, 5), (3, 5), (2, 6), (3, 6), (4, 7), (5, 7), (6, 7)]), .un, .un, .lp (6, 0) 2 0 0, bv false, .ls (32, 0) 1 0 8, .un, iv 12] ++ List.replicate 157 .un, mkOb [((6, 0), some (.arr false 2 [.agg [iv 0, nilV]])), ((32, 0), some (.arr false 1 [.ls (41, 1) 1 0 8, .ls (41, 2) 1 0 8, .ls (41, 3) 1 0 8, .ls (41, 4) 1 0 8, .ls (41, 5) 1 0 8, .ls (41, 6) 1 0 8, .ls (41, 7) 1 0 8, .ls (41, 8) 1 0 8])), ((15, 0), none), ((161, 1), none), ((41, 0), none), ((41, 1), some (.arr true 1 ([true, true, true, true, false, false, false, false].map bv))), ((41, 2), some (.arr true 1 ([false, true, false, false, true, true, false, false].map bv))), ((41, 3), some (.arr true 1 ([false, false, true, false, true, false, true, false].map bv))), ((41, 4), some (.arr true 1 ([false, false, false, true, false, true, true, false].map bv))), ((41, 5), some (.arr true 1 ([false, false, false, false, true, false, false, true].map bv))), ((41, 6), some (.arr true 1 ([false, false, false, false, false, true, false, true].map bv))), ((41, 7), some (.arr true 1 ([false, false, false, false, false, false, true, true].map bv))), ((41, 8), some (.arr true 1 ([false, false, false, false, false, false, false, true].map bv))), ((41, 9), none)]⟩)) 12 (by kernel_rfl) (.inl ⟨rfl, rfl⟩) ?_
  rintro m st (⟨rfl, rfl⟩ | ⟨rfl, rfl⟩ | ⟨rfl, rfl⟩ | ⟨rfl, rfl⟩ | ⟨rfl, rfl⟩ | ⟨rfl, rfl⟩ | ⟨rfl, rfl⟩ | ⟨rfl, rfl⟩ | ⟨rfl, rfl⟩ | ⟨rfl, rfl⟩ | ⟨rfl, rfl⟩ | ⟨rfl, rfl⟩ | ⟨rfl, rfl⟩)
  · conv => whnf
    refine ⟨⟨rfl, by decide, by decide⟩, ?_⟩
    conv => whnf
    refine ⟨_, rfl, ?_⟩
    conv => whnf
    refine ⟨⟨rfl, by decide, by decide⟩, ?_⟩
    conv => whnf
    refine ⟨⟨rfl, by decide, by decide⟩, ?_⟩
    conv => whnf
    refine ⟨_, rfl, ⟨rfl, List.not_mem_nil⟩, _, rfl, ?_⟩
    conv => whnf
    refine ⟨by kernel_rfl, ?_⟩
    conv => whnf
    exact ⟨by kernel_rfl, 11, by decide, .inr (.inl ⟨rfl, rfl⟩)⟩
  · conv => whnf
    refine ⟨⟨rfl, by decide, by decide⟩, ?_⟩
    conv => whnf
    refine ⟨_, rfl, ?_⟩
    conv => whnf
    refine ⟨⟨rfl, by decide, by decide⟩, ?_⟩
    conv => whnf
    refine ⟨⟨rfl, by decide, by decide⟩, ?_⟩
    conv => whnf
    refine ⟨_, rfl, ⟨rfl, List.not_mem_nil⟩, _, rfl, ?_⟩
    conv => whnf
    refine ⟨by kernel_rfl, ?_⟩
    conv => whnf
    exact ⟨by kernel_rfl, 10, by decide, .inr (.inr (.inl ⟨rfl, rfl⟩))⟩
  · conv => whnf
    refine ⟨⟨rfl, by decide, by decide⟩, ?_⟩
    conv => whnf
    refine ⟨_, rfl, ?_⟩
    conv => whnf
    refine ⟨⟨rfl, by decide, by decide⟩, ?_⟩
    conv => whnf
    refine ⟨⟨rfl, by decide, by decide⟩, ?_⟩
    conv => whnf
    refine ⟨_, rfl, ⟨rfl, List.not_mem_nil⟩, _, rfl, ?_⟩
    conv => whnf
    refine ⟨by kernel_rfl, ?_⟩
    conv => whnf
    exact ⟨by kernel_rfl, 9, by decide, .inr (.inr (.inr (.inl ⟨rfl, rfl⟩)))⟩
  · conv => whnf
    refine ⟨⟨rfl, by decide, by decide⟩, ?_⟩
    conv => whnf
    refine ⟨_, rfl, ?_⟩
    conv => whnf
    refine ⟨⟨rfl, by decide, by decide⟩, ?_⟩
    conv => whnf
    refine ⟨⟨rfl, by decide, by decide⟩, ?_⟩
    conv => whnf
    refine ⟨_, rfl, ⟨rfl, List.not_mem_nil⟩, _, rfl, ?_⟩
    conv => whnf
    refine ⟨by kernel_rfl, ?_⟩
    conv => whnf
    exact ⟨by kernel_rfl, 8, by decide, .inr (.inr (.inr (.inr (.inl ⟨rfl, rfl⟩))))⟩
  · conv => whnf
    refine ⟨⟨rfl, by decide, by decide⟩, ?_⟩
    conv => whnf
    refine ⟨_, rfl, ?_⟩
    conv => whnf
    refine ⟨⟨rfl, by decide, by decide⟩, ?_⟩
    conv => whnf
    refine ⟨⟨rfl, by decide, by decide⟩, ?_⟩
    conv => whnf
    refine ⟨_, rfl, ⟨rfl, List.not_mem_nil⟩, _, rfl, ?_⟩
    conv => whnf
    refine ⟨by kernel_rfl, ?_⟩
    conv => whnf
    exact ⟨by kernel_rfl, 7, by decide, .inr (.inr (.inr (.inr (.inr (.inl ⟨rfl, rfl⟩)))))⟩
  · conv => whnf
    refine ⟨⟨rfl, by decide, by decide⟩, ?_⟩
    conv => whnf
    refine ⟨_, rfl, ?_⟩
    conv => whnf
    refine ⟨⟨rfl, by decide, by decide⟩, ?_⟩
    conv => whnf
    refine ⟨⟨rfl, by decide, by decide⟩, ?_⟩
    conv => whnf
    refine ⟨_, rfl, ⟨rfl, List.not_mem_nil⟩, _, rfl, ?_⟩
    conv => whnf
    refine ⟨by kernel_rfl, ?_⟩
    conv => whnf
    exact ⟨by kernel_rfl, 6, by decide, .inr (.inr (.inr (.inr (.inr (.inr (.inl ⟨rfl, rfl⟩))))))⟩
  · conv => whnf
    refine ⟨⟨rfl, by decide, by decide⟩, ?_⟩
    conv => whnf
    refine ⟨_, rfl, ?_⟩
    conv => whnf
    refine ⟨⟨rfl, by decide, by decide⟩, ?_⟩
    conv => whnf
    refine ⟨⟨rfl, by decide, by decide⟩, ?_⟩
    conv => whnf
    refine ⟨_, rfl, ⟨rfl, List.not_mem_nil⟩, _, rfl, ?_⟩
    conv => whnf
    refine ⟨by kernel_rfl, ?_⟩
    conv => whnf
    exact ⟨by kernel_rfl, 5, by decide, .inr (.inr (.inr (.inr (.inr (.inr (.inr (.inl ⟨rfl, rfl⟩)))))))⟩
  · conv => whnf
    refine ⟨⟨rfl, by decide, by decide⟩, ?_⟩
    conv => whnf
    refine ⟨_, rfl, ?_⟩
    conv => whnf
    refine ⟨⟨rfl, by decide, by decide⟩, ?_⟩
    conv => whnf
    refine ⟨⟨rfl, by decide, by decide⟩, ?_⟩
    conv => whnf
    refine ⟨_, rfl, ⟨rfl, List.not_mem_nil⟩, _, rfl, ?_⟩
    conv => whnf
    refine ⟨by kernel_rfl, ?_⟩
    conv => whnf
    exact ⟨by kernel_rfl, 4, by decide, .inr (.inr (.inr (.inr (.inr (.inr (.inr (.inr (.inl ⟨rfl, rfl⟩))))))))⟩
  · conv => whnf
    refine ⟨⟨rfl, by decide, by decide⟩, ?_⟩
    conv => whnf
    refine ⟨_, rfl, ?_⟩
    conv => whnf
    refine ⟨⟨rfl, by decide, by decide⟩, ?_⟩
    conv => whnf
    refine ⟨⟨rfl, by decide, by decide⟩, ?_⟩
    conv => whnf
    refine ⟨_, rfl, ⟨rfl, List.not_mem_nil⟩, _, rfl, ?_⟩
    conv => whnf
    refine ⟨by kernel_rfl, ?_⟩
    conv => whnf
    exact ⟨by kernel_rfl, 3, by decide, .inr (.inr (.inr (.inr (.inr (.inr (.inr (.inr (.inr (.inl ⟨rfl, rfl⟩)))))))))⟩
  · conv => whnf
    refine ⟨⟨rfl, by decide, by decide⟩, ?_⟩
    conv => whnf
    refine ⟨_, rfl, ?_⟩
    conv => whnf
    refine ⟨⟨rfl, by decide, by decide⟩, ?_⟩
    conv => whnf
    refine ⟨⟨rfl, by decide, by decide⟩, ?_⟩
    conv => whnf
    refine ⟨_, rfl, ⟨rfl, List.not_mem_nil⟩, _, rfl, ?_⟩
    conv => whnf
    refine ⟨by kernel_rfl, ?_⟩
    conv => whnf
    exact ⟨by kernel_rfl, 2, by decide, .inr (.inr (.inr (.inr (.inr (.inr (.inr (.inr (.inr (.inr (.inl ⟨rfl, rfl⟩))))))))))⟩
  · conv => whnf
    refine ⟨⟨rfl, by decide, by decide⟩, ?_⟩
    conv => whnf
    refine ⟨_, rfl, ?_⟩
    conv => whnf
    refine ⟨⟨rfl, by decide, by decide⟩, ?_⟩
    conv => whnf
    refine ⟨⟨rfl, by decide, by decide⟩, ?_⟩
    conv => whnf
    refine ⟨_, rfl, ⟨rfl, List.not_mem_nil⟩, _, rfl, ?_⟩
    conv => whnf
    refine ⟨by kernel_rfl, ?_⟩
    conv => whnf
    exact ⟨by kernel_rfl, 1, by decide, .inr (.inr (.inr (.inr (.inr (.inr (.inr (.inr (.inr (.inr (.inr (.inl ⟨rfl, rfl⟩)))))))))))⟩
  · conv => whnf
    refine ⟨⟨rfl, by decide, by decide⟩, ?_⟩
    conv => whnf
    refine ⟨_, rfl, ?_⟩
    conv => whnf
    refine ⟨⟨rfl, by decide, by decide⟩, ?_⟩
    conv => whnf
    refine ⟨⟨rfl, by decide, by decide⟩, ?_⟩
    conv => whnf
    refine ⟨_, rfl, ⟨rfl, List.not_mem_nil⟩, _, rfl, ?_⟩
    conv => whnf
    refine ⟨by kernel_rfl, ?_⟩
    conv => whnf
    exact ⟨by kernel_rfl, 0, by decide, .inr (.inr (.inr (.inr (.inr (.inr (.inr (.inr (.inr (.inr (.inr (.inr (⟨rfl, rfl⟩))))))))))))⟩
  conv => whnf
  refine cwF_loop (fun m st => ∃ (z : Int) (e0 e1 e2 e3 e4 e5 e6 e7 : List V), (∃ (k : Nat) (r0 r1 r2 r3 r4 r5 r6 r7 : List Bool), m = 8 - k ∧ k ≤ 8 ∧ z = (k : Nat) ∧ [r0, r1, r2, r3, r4, r5, r6, r7] = fwK 8 [[true, true, true, true, false, false, false, false], [false, true, false, false, true, true, false, false], [false, false, true, false, true, false, true, false], [false, false, false, true, false, true, true, false], [false, false, false, false, true, false, false, true], [false, false, false, false, false, true, false, true], [false, false, false, false, false, false, true, true], [false, false, false, false, false, false, false, true]] k ∧ (r0.length = 8 ∧ r1.length = 8 ∧ r2.length = 8 ∧ r3.length = 8 ∧ r4.length = 8 ∧ r5.length = 8 ∧ r6.length = 8 ∧ r7.length = 8) ∧ e0 = r0.map bv ∧ e1 = r1.map bv ∧ e2 = r2.map bv ∧ e3 = r3.map bv ∧ e4 = r4.map bv ∧ e5 = r5.map bv ∧ e6 = r6.map bv ∧ e7 = r7.map bv) ∧ st = ⟨[iv 8, .un, .un, .un, .lp (6, 0) 2 0 0, bv false, .ls (32, 0) 1 0 8, .un, .un, .un, iv z] ++ List.replicate 155 .un, mkOb [((6, 0), some (.arr false 2 [.agg [iv 0, nilV]])), ((32, 0), some (.arr false 1 [.ls (41, 1) 1 0 8, .ls (41, 2) 1 0 8, .ls (41, 3) 1 0 8, .ls (41, 4) 1 0 8, .ls (41, 5) 1 0 8, .ls (41, 6) 1 0 8, .ls (41, 7) 1 0 8, .ls (41, 8) 1 0 8])), ((15, 0), none), ((161, 1), none), ((41, 0), none), ((41, 1), some (.arr true 1 e0)), ((41, 2), some (.arr true 1 e1)), ((41, 3), some (.arr true 1 e2)), ((41, 4), some (.arr true 1 e3)), ((41, 5), some (.arr true 1 e4)), ((41, 6), some (.arr true 1 e5)), ((41, 7), some (.arr true 1 e6)), ((41, 8), some (.arr true 1 e7)), ((41, 9), none)]⟩) 8 (by kernel_rfl) ⟨_, _, _, _, _, _, _, _, _, ⟨0, [true, true, true, true, false, false, false, false], [false, true, false, false, true, true, false, false], [false, false, true, false, true, false, true, false], [false, false, false, true, false, true, true, false], [false, false, false, false, true, false, false, true], [false, false, false, false, false, true, false, true], [false, false, false, false, false, false, true, true], [false, false, false, false, false, false, false, true], rfl, by decide, rfl, fwK_zero.symm, ⟨rfl, rfl, rfl, rfl, rfl, rfl, rfl, rfl⟩, rfl, rfl, rfl, rfl, rfl, rfl, rfl, rfl⟩, rfl⟩ ?_
  rintro m st ⟨z, e0, e1, e2, e3, e4, e5, e6, e7, ⟨k, r0, r1, r2, r3, r4, r5, r6, r7, rfl, hk, rfl, hM1, hl1, rfl, rfl, rfl, rfl, rfl, rfl, rfl, rfl⟩, rfl⟩
  conv => whnf
  refine vif_dec (fun h1 => ?_) (fun h1 => ?_)
  · conv => whnf
    refine cwF_loop (fun m st => ∃ (z : Int) (e0 e1 e2 e3 e4 e5 e6 e7 : List V), (∃ (a : Nat) (r0 r1 r2 r3 r4 r5 r6 r7 : List Bool), m = 8 - a ∧ a ≤ 8 ∧ z = (a : Nat) ∧ [r0, r1, r2, r3, r4, r5, r6, r7] = fwA 8 (fwK 8 [[true, true, true, true, false, false, false, false], [false, true, false, false, true, true, false, false], [false, false, true, false, true, false, true, false], [false, false, false, true, false, true, true, false], [false, false, false, false, true, false, false, true], [false, false, false, false, false, true, false, true], [false, false, false, false, false, false, true, true], [false, false, false, false, false, false, false, true]] k) k a ∧ (r0.length = 8 ∧ r1.length = 8 ∧ r2.length = 8 ∧ r3.length = 8 ∧ r4.length = 8 ∧ r5.length = 8 ∧ r6.length = 8 ∧ r7.length = 8) ∧ e0 = r0.map bv ∧ e1 = r1.map bv ∧ e2 = r2.map bv ∧ e3 = r3.map bv ∧ e4 = r4.map bv ∧ e5 = r5.map bv ∧ e6 = r6.map bv ∧ e7 = r7.map bv) ∧ st = ⟨[iv 8, .un, .un, .un, .lp (6, 0) 2 0 0, bv false, .ls (32, 0) 1 0 8, .un, .un, .un, iv (k : Nat), iv z] ++ List.replicate 154 .un, mkOb [((6, 0), some (.arr false 2 [.agg [iv 0, nilV]])), ((32, 0), some (.arr false 1 [.ls (41, 1) 1 0 8, .ls (41, 2) 1 0 8, .ls (41, 3) 1 0 8, .ls (41, 4) 1 0 8, .ls (41, 5) 1 0 8, .ls (41, 6) 1 0 8, .ls (41, 7) 1 0 8, .ls (41, 8) 1 0 8])), ((15, 0), none), ((161, 1), none), ((41, 0), none), ((41, 1), some (.arr true 1 e0)), ((41, 2), some (.arr true 1 e1)), ((41, 3), some (.arr true 1 e2)), ((41, 4), some (.arr true 1 e3)), ((41, 5), some (.arr true 1 e4)), ((41, 6), some (.arr true 1 e5)), ((41, 7), some (.arr true 1 e6)), ((41, 8), some (.arr true 1 e7)), ((41, 9), none)]⟩) 8 (by kernel_rfl) ⟨_, _, _, _, _, _, _, _, _, ⟨0, r0, r1, r2, r3, r4, r5, r6, r7, rfl, by decide, rfl, hM1.trans fwA_zero.symm, hl1, rfl, rfl, rfl, rfl, rfl, rfl, rfl, rfl⟩, rfl⟩ ?_
    clear hM1 hl1
    rintro m st ⟨z, e0, e1, e2, e3, e4, e5, e6, e7, ⟨a, r0, r1, r2, r3, r4, r5, r6, r7, rfl, ha, rfl, hM2, hl2, rfl, rfl, rfl, rfl, rfl, rfl, rfl, rfl⟩, rfl⟩
    conv => whnf
    refine vif_dec (fun h2 => ?_) (fun h2 => ?_)
    · conv => whnf
      refine cwF_loop (fun m st => ∃ (z : Int) (e0 e1 e2 e3 e4 e5 e6 e7 : List V), (∃ (b : Nat) (r0 r1 r2 r3 r4 r5 r6 r7 : List Bool), m = 8 - b ∧ b ≤ 8 ∧ z = (b : Nat) ∧ [r0, r1, r2, r3, r4, r5, r6, r7] = fwR (fwA 8 (fwK 8 [[true, true, true, true, false, false, false, false], [false, true, false, false, true, true, false, false], [false, false, true, false, true, false, true, false], [false, false, false, true, false, true, true, false], [false, false, false, false, true, false, false, true], [false, false, false, false, false, true, false, true], [false, false, false, false, false, false, true, true], [false, false, false, false, false, false, false, true]] k) k a) k a b ∧ (r0.length = 8 ∧ r1.length = 8 ∧ r2.length = 8 ∧ r3.length = 8 ∧ r4.length = 8 ∧ r5.length = 8 ∧ r6.length = 8 ∧ r7.length = 8) ∧ e0 = r0.map bv ∧ e1 = r1.map bv ∧ e2 = r2.map bv ∧ e3 = r3.map bv ∧ e4 = r4.map bv ∧ e5 = r5.map bv ∧ e6 = r6.map bv ∧ e7 = r7.map bv) ∧ st = ⟨[iv 8, .un, .un, .un, .lp (6, 0) 2 0 0, bv false, .ls (32, 0) 1 0 8, .un, .un, .un, iv (k : Nat), iv (a : Nat), iv z] ++ List.replicate 153 .un, mkOb [((6, 0), some (.arr false 2 [.agg [iv 0, nilV]])), ((32, 0), some (.arr false 1 [.ls (41, 1) 1 0 8, .ls (41, 2) 1 0 8, .ls (41, 3) 1 0 8, .ls (41, 4) 1 0 8, .ls (41, 5) 1 0 8, .ls (41, 6) 1 0 8, .ls (41, 7) 1 0 8, .ls (41, 8) 1 0 8])), ((15, 0), none), ((161, 1), none), ((41, 0), none), ((41, 1), some (.arr true 1 e0)), ((41, 2), some (.arr true 1 e1)), ((41, 3), some (.arr true 1 e2)), ((41, 4), some (.arr true 1 e3)), ((41, 5), some (.arr true 1 e4)), ((41, 6), some (.arr true 1 e5)), ((41, 7), some (.arr true 1 e6)), ((41, 8), some (.arr true 1 e7)), ((41, 9), none)]⟩) 8 (by kernel_rfl) ⟨_, _, _, _, _, _, _, _, _, ⟨0, r0, r1, r2, r3, r4, r5, r6, r7, rfl, by decide, rfl, hM2.trans fwR_zero.symm, hl2, rfl, rfl, rfl, rfl, rfl, rfl, rfl, rfl⟩, rfl⟩ ?_
      clear hM2 hl2
      rintro m st ⟨z, e0, e1, e2, e3, e4, e5, e6, e7, ⟨b, r0, r1, r2, r3, r4, r5, r6, r7, rfl, hb, rfl, hM3, hl3, rfl, rfl, rfl, rfl, rfl, rfl, rfl, rfl⟩, rfl⟩
      have la := lens8 (a := a) (by omega) hl3
      have lk := lens8 (a := k) (by omega) hl3
      conv => whnf
      refine vif_dec (fun h3 => ?_) (fun h3 => ?_)
      · conv => whnf
        refine ⟨⟨rfl, by omega, by omega⟩, ?_⟩
        conv => whnf
        refine ob_eq (v := (.ls (41, a + 1) 1 0 8, [])) (by obtain rfl | rfl | rfl | rfl | rfl | rfl | rfl | rfl := lt8 (by omega : a < 8) <;> rfl) ?_
        conv => whnf
        refine ⟨⟨rfl, by omega, by omega⟩, ?_⟩
        conv => whnf
        refine ob_eq (v := (.ls (41, a + 1) 1 0 8, [])) (by obtain rfl | rfl | rfl | rfl | rfl | rfl | rfl | rfl := lt8 (by omega : a < 8) <;> rfl) ?_
        conv => whnf
        refine ⟨⟨rfl, by omega, by omega⟩, ?_⟩
        conv => whnf
        refine ⟨_, rows8 (by omega) r0 r1 r2 r3 r4 r5 r6 r7, ask_row (by omega) fun x hx => ?_⟩
        cases x
        · conv => whnf
          refine ⟨⟨rfl, by omega, by omega⟩, ?_⟩
          conv => whnf
          refine ob_eq (v := (.ls (41, a + 1) 1 0 8, [])) (by obtain rfl | rfl | rfl | rfl | rfl | rfl | rfl | rfl := lt8 (by omega : a < 8) <;> rfl) ?_
          conv => whnf
          refine ⟨⟨rfl, by omega, by omega⟩, ?_⟩
          conv => whnf
          refine ⟨_, rows8 (by omega) r0 r1 r2 r3 r4 r5 r6 r7, ask_row (by omega) fun y hy => ?_⟩
          cases y
          · conv => whnf
            refine ⟨⟨rfl, by omega, by omega⟩, ?_⟩
            conv => whnf
            refine ⟨_, rows8 (by omega) r0 r1 r2 r3 r4 r5 r6 r7, ⟨rfl, List.not_mem_nil⟩, _, row_get (by omega) hx, ?_⟩
            conv => whnf
            refine ⟨by kernel_rfl, ?_⟩
            conv => whnf
            have hN : fwR (fwA 8 (fwK 8 [[true, true, true, true, false, false, false, false], [false, true, false, false, true, true, false, false], [false, false, true, false, true, false, true, false], [false, false, false, true, false, true, true, false], [false, false, false, false, true, false, false, true], [false, false, false, false, false, true, false, true], [false, false, false, false, false, false, true, true], [false, false, false, false, false, false, false, true]] k) k a) k a (b + 1) = [r0, r1, r2, r3, r4, r5, r6, r7].set a (([r0, r1, r2, r3, r4, r5, r6, r7].getD a []).set b false) := by rw [fwR_succ, ← hM3, fwB, hx, hy]; rfl
            clear hM3 hx la lk
            obtain ⟨l0, l1, l2, l3, l4, l5, l6, l7⟩ := hl3
            obtain rfl | rfl | rfl | rfl | rfl | rfl | rfl | rfl := lt8 (by omega : a < 8)
            · exact ⟨by kernel_rfl, 8 - (b + 1), by omega, _, _, _, _, _, _, _, _, _, ⟨b + 1, r0.set b false, r1, r2, r3, r4, r5, r6, r7, rfl, by omega, wrap_i64 (by omega), hN.symm, ⟨by rw [List.length_set]; exact l0, l1, l2, l3, l4, l5, l6, l7⟩, row_set, rfl, rfl, rfl, rfl, rfl, rfl, rfl⟩, rfl⟩
            · exact ⟨by kernel_rfl, 8 - (b + 1), by omega, _, _, _, _, _, _, _, _, _, ⟨b + 1, r0, r1.set b false, r2, r3, r4, r5, r6, r7, rfl, by omega, wrap_i64 (by omega), hN.symm, ⟨l0, by rw [List.length_set]; exact l1, l2, l3, l4, l5, l6, l7⟩, rfl, row_set, rfl, rfl, rfl, rfl, rfl, rfl⟩, rfl⟩
            · exact ⟨by kernel_rfl, 8 - (b + 1), by omega, _, _, _, _, _, _, _, _, _, ⟨b + 1, r0, r1, r2.set b false, r3, r4, r5, r6, r7, rfl, by omega, wrap_i64 (by omega), hN.symm, ⟨l0, l1, by rw [List.length_set]; exact l2, l3, l4, l5, l6, l7⟩, rfl, rfl, row_set, rfl, rfl, rfl, rfl, rfl⟩, rfl⟩
            · exact ⟨by kernel_rfl, 8 - (b + 1), by omega, _, _, _, _, _, _, _, _, _, ⟨b + 1, r0, r1, r2, r3.set b false, r4, r5, r6, r7, rfl, by omega, wrap_i64 (by omega), hN.symm, ⟨l0, l1, l2, by rw [List.length_set]; exact l3, l4, l5, l6, l7⟩, rfl, rfl, rfl, row_set, rfl, rfl, rfl, rfl⟩, rfl⟩
            · exact ⟨by kernel_rfl, 8 - (b + 1), by omega, _, _, _, _, _, _, _, _, _, ⟨b + 1, r0, r1, r2, r3, r4.set b false, r5, r6, r7, rfl, by omega, wrap_i64 (by omega), hN.symm, ⟨l0, l1, l2, l3, by rw [List.length_set]; exact l4, l5, l6, l7⟩, rfl, rfl, rfl, rfl, row_set, rfl, rfl, rfl⟩, rfl⟩
            · exact ⟨by kernel_rfl, 8 - (b + 1), by omega, _, _, _, _, _, _, _, _, _, ⟨b + 1, r0, r1, r2, r3, r4, r5.set b false, r6, r7, rfl, by omega, wrap_i64 (by omega), hN.symm, ⟨l0, l1, l2, l3, l4, by rw [List.length_set]; exact l5, l6, l7⟩, rfl, rfl, rfl, rfl, rfl, row_set, rfl, rfl⟩, rfl⟩
            · exact ⟨by kernel_rfl, 8 - (b + 1), by omega, _, _, _, _, _, _, _, _, _, ⟨b + 1, r0, r1, r2, r3, r4, r5, r6.set b false, r7, rfl, by omega, wrap_i64 (by omega), hN.symm, ⟨l0, l1, l2, l3, l4, l5, by rw [List.length_set]; exact l6, l7⟩, rfl, rfl, rfl, rfl, rfl, rfl, row_set, rfl⟩, rfl⟩
            · exact ⟨by kernel_rfl, 8 - (b + 1), by omega, _, _, _, _, _, _, _, _, _, ⟨b + 1, r0, r1, r2, r3, r4, r5, r6, r7.set b false, rfl, by omega, wrap_i64 (by omega), hN.symm, ⟨l0, l1, l2, l3, l4, l5, l6, by rw [List.length_set]; exact l7⟩, rfl, rfl, rfl, rfl, rfl, rfl, rfl, row_set⟩, rfl⟩
          · conv => whnf
            refine ⟨⟨rfl, by omega, by omega⟩, ?_⟩
            conv => whnf
            refine ob_eq (v := (.ls (41, k + 1) 1 0 8, [])) (by obtain rfl | rfl | rfl | rfl | rfl | rfl | rfl | rfl := lt8 (by omega : k < 8) <;> rfl) ?_
            conv => whnf
            refine ⟨⟨rfl, by omega, by omega⟩, ?_⟩
            conv => whnf
            refine ⟨_, rows8 (by omega) r0 r1 r2 r3 r4 r5 r6 r7, ask_row (by omega) fun z hz => ?_⟩
            conv => whnf
            refine ⟨⟨rfl, by omega, by omega⟩, ?_⟩
            conv => whnf
            refine ⟨_, rows8 (by omega) r0 r1 r2 r3 r4 r5 r6 r7, ⟨rfl, List.not_mem_nil⟩, _, row_get (by omega) hx, ?_⟩
            conv => whnf
            refine ⟨by kernel_rfl, ?_⟩
            conv => whnf
            have hN : fwR (fwA 8 (fwK 8 [[true, true, true, true, false, false, false, false], [false, true, false, false, true, true, false, false], [false, false, true, false, true, false, true, false], [false, false, false, true, false, true, true, false], [false, false, false, false, true, false, false, true], [false, false, false, false, false, true, false, true], [false, false, false, false, false, false, true, true], [false, false, false, false, false, false, false, true]] k) k a) k a (b + 1) = [r0, r1, r2, r3, r4, r5, r6, r7].set a (([r0, r1, r2, r3, r4, r5, r6, r7].getD a []).set b z) := by rw [fwR_succ, ← hM3, fwB, hx, hy, hz]; rfl
            clear hM3 hx la lk
            obtain ⟨l0, l1, l2, l3, l4, l5, l6, l7⟩ := hl3
            obtain rfl | rfl | rfl | rfl | rfl | rfl | rfl | rfl := lt8 (by omega : a < 8)
            · exact ⟨by kernel_rfl, 8 - (b + 1), by omega, _, _, _, _, _, _, _, _, _, ⟨b + 1, r0.set b z, r1, r2, r3, r4, r5, r6, r7, rfl, by omega, wrap_i64 (by omega), hN.symm, ⟨by rw [List.length_set]; exact l0, l1, l2, l3, l4, l5, l6, l7⟩, row_set, rfl, rfl, rfl, rfl, rfl, rfl, rfl⟩, rfl⟩
            · exact ⟨by kernel_rfl, 8 - (b + 1), by omega, _, _, _, _, _, _, _, _, _, ⟨b + 1, r0, r1.set b z, r2, r3, r4, r5, r6, r7, rfl, by omega, wrap_i64 (by omega), hN.symm, ⟨l0, by rw [List.length_set]; exact l1, l2, l3, l4, l5, l6, l7⟩, rfl, row_set, rfl, rfl, rfl, rfl, rfl, rfl⟩, rfl⟩
            · exact ⟨by kernel_rfl, 8 - (b + 1), by omega, _, _, _, _, _, _, _, _, _, ⟨b + 1, r0, r1, r2.set b z, r3, r4, r5, r6, r7, rfl, by omega, wrap_i64 (by omega), hN.symm, ⟨l0, l1, by rw [List.length_set]; exact l2, l3, l4, l5, l6, l7⟩, rfl, rfl, row_set, rfl, rfl, rfl, rfl, rfl⟩, rfl⟩
            · exact ⟨by kernel_rfl, 8 - (b + 1), by omega, _, _, _, _, _, _, _, _, _, ⟨b + 1, r0, r1, r2, r3.set b z, r4, r5, r6, r7, rfl, by omega, wrap_i64 (by omega), hN.symm, ⟨l0, l1, l2, by rw [List.length_set]; exact l3, l4, l5, l6, l7⟩, rfl, rfl, rfl, row_set, rfl, rfl, rfl, rfl⟩, rfl⟩
            · exact ⟨by kernel_rfl, 8 - (b + 1), by omega, _, _, _, _, _, _, _, _, _, ⟨b + 1, r0, r1, r2, r3, r4.set b z, r5, r6, r7, rfl, by omega, wrap_i64 (by omega), hN.symm, ⟨l0, l1, l2, l3, by rw [List.length_set]; exact l4, l5, l6, l7⟩, rfl, rfl, rfl, rfl, row_set, rfl, rfl, rfl⟩, rfl⟩
            · exact ⟨by kernel_rfl, 8 - (b + 1), by omega, _, _, _, _, _, _, _, _, _, ⟨b + 1, r0, r1, r2, r3, r4, r5.set b z, r6, r7, rfl, by omega, wrap_i64 (by omega), hN.symm, ⟨l0, l1, l2, l3, l4, by rw [List.length_set]; exact l5, l6, l7⟩, rfl, rfl, rfl, rfl, rfl, row_set, rfl, rfl⟩, rfl⟩
            · exact ⟨by kernel_rfl, 8 - (b + 1), by omega, _, _, _, _, _, _, _, _, _, ⟨b + 1, r0, r1, r2, r3, r4, r5, r6.set b z, r7, rfl, by omega, wrap_i64 (by omega), hN.symm, ⟨l0, l1, l2, l3, l4, l5, by rw [List.length_set]; exact l6, l7⟩, rfl, rfl, rfl, rfl, rfl, rfl, row_set, rfl⟩, rfl⟩
            · exact ⟨by kernel_rfl, 8 - (b + 1), by omega, _, _, _, _, _, _, _, _, _, ⟨b + 1, r0, r1, r2, r3, r4, r5, r6, r7.set b z, rfl, by omega, wrap_i64 (by omega), hN.symm, ⟨l0, l1, l2, l3, l4, l5, l6, by rw [List.length_set]; exact l7⟩, rfl, rfl, rfl, rfl, rfl, rfl, rfl, row_set⟩, rfl⟩
        · conv => whnf
          refine ⟨⟨rfl, by omega, by omega⟩, ?_⟩
          conv => whnf
          refine ⟨_, rows8 (by omega) r0 r1 r2 r3 r4 r5 r6 r7, ⟨rfl, List.not_mem_nil⟩, _, row_get (by omega) hx, ?_⟩
          conv => whnf
          refine ⟨by kernel_rfl, ?_⟩
          conv => whnf
          have hN : fwR (fwA 8 (fwK 8 [[true, true, true, true, false, false, false, false], [false, true, false, false, true, true, false, false], [false, false, true, false, true, false, true, false], [false, false, false, true, false, true, true, false], [false, false, false, false, true, false, false, true], [false, false, false, false, false, true, false, true], [false, false, false, false, false, false, true, true], [false, false, false, false, false, false, false, true]] k) k a) k a (b + 1) = [r0, r1, r2, r3, r4, r5, r6, r7].set a (([r0, r1, r2, r3, r4, r5, r6, r7].getD a []).set b true) := by rw [fwR_succ, ← hM3, fwB, hx]; rfl
          clear hM3 hx la lk
          obtain ⟨l0, l1, l2, l3, l4, l5, l6, l7⟩ := hl3
          obtain rfl | rfl | rfl | rfl | rfl | rfl | rfl | rfl := lt8 (by omega : a < 8)
          · exact ⟨by kernel_rfl, 8 - (b + 1), by omega, _, _, _, _, _, _, _, _, _, ⟨b + 1, r0.set b true, r1, r2, r3, r4, r5, r6, r7, rfl, by omega, wrap_i64 (by omega), hN.symm, ⟨by rw [List.length_set]; exact l0, l1, l2, l3, l4, l5, l6, l7⟩, row_set, rfl, rfl, rfl, rfl, rfl, rfl, rfl⟩, rfl⟩
          · exact ⟨by kernel_rfl, 8 - (b + 1), by omega, _, _, _, _, _, _, _, _, _, ⟨b + 1, r0, r1.set b true, r2, r3, r4, r5, r6, r7, rfl, by omega, wrap_i64 (by omega), hN.symm, ⟨l0, by rw [List.length_set]; exact l1, l2, l3, l4, l5, l6, l7⟩, rfl, row_set, rfl, rfl, rfl, rfl, rfl, rfl⟩, rfl⟩
          · exact ⟨by kernel_rfl, 8 - (b + 1), by omega, _, _, _, _, _, _, _, _, _, ⟨b + 1, r0, r1, r2.set b true, r3, r4, r5, r6, r7, rfl, by omega, wrap_i64 (by omega), hN.symm, ⟨l0, l1, by rw [List.length_set]; exact l2, l3, l4, l5, l6, l7⟩, rfl, rfl, row_set, rfl, rfl, rfl, rfl, rfl⟩, rfl⟩
          · exact ⟨by kernel_rfl, 8 - (b + 1), by omega, _, _, _, _, _, _, _, _, _, ⟨b + 1, r0, r1, r2, r3.set b true, r4, r5, r6, r7, rfl, by omega, wrap_i64 (by omega), hN.symm, ⟨l0, l1, l2, by rw [List.length_set]; exact l3, l4, l5, l6, l7⟩, rfl, rfl, rfl, row_set, rfl, rfl, rfl, rfl⟩, rfl⟩
          · exact ⟨by kernel_rfl, 8 - (b + 1), by omega, _, _, _, _, _, _, _, _, _, ⟨b + 1, r0, r1, r2, r3, r4.set b true, r5, r6, r7, rfl, by omega, wrap_i64 (by omega), hN.symm, ⟨l0, l1, l2, l3, by rw [List.length_set]; exact l4, l5, l6, l7⟩, rfl, rfl, rfl, rfl, row_set, rfl, rfl, rfl⟩, rfl⟩
          · exact ⟨by kernel_rfl, 8 - (b + 1), by omega, _, _, _, _, _, _, _, _, _, ⟨b + 1, r0, r1, r2, r3, r4, r5.set b true, r6, r7, rfl, by omega, wrap_i64 (by omega), hN.symm, ⟨l0, l1, l2, l3, l4, by rw [List.length_set]; exact l5, l6, l7⟩, rfl, rfl, rfl, rfl, rfl, row_set, rfl, rfl⟩, rfl⟩
          · exact ⟨by kernel_rfl, 8 - (b + 1), by omega, _, _, _, _, _, _, _, _, _, ⟨b + 1, r0, r1, r2, r3, r4, r5, r6.set b true, r7, rfl, by omega, wrap_i64 (by omega), hN.symm, ⟨l0, l1, l2, l3, l4, l5, by rw [List.length_set]; exact l6, l7⟩, rfl, rfl, rfl, rfl, rfl, rfl, row_set, rfl⟩, rfl⟩
          · exact ⟨by kernel_rfl, 8 - (b + 1), by omega, _, _, _, _, _, _, _, _, _, ⟨b + 1, r0, r1, r2, r3, r4, r5, r6, r7.set b true, rfl, by omega, wrap_i64 (by omega), hN.symm, ⟨l0, l1, l2, l3, l4, l5, l6, by rw [List.length_set]; exact l7⟩, rfl, rfl, rfl, rfl, rfl, rfl, rfl, row_set⟩, rfl⟩
      · conv => whnf
        obtain rfl : b = 8 := by omega
        exact ⟨by kernel_rfl, 8 - (a + 1), by omega, _, _, _, _, _, _, _, _, _, ⟨a + 1, r0, r1, r2, r3, r4, r5, r6, r7, rfl, by omega, wrap_i64 (by omega), by rw [fwA_succ]; exact hM3, hl3, rfl, rfl, rfl, rfl, rfl, rfl, rfl, rfl⟩, rfl⟩
    · conv => whnf
      obtain rfl : a = 8 := by omega
      exact ⟨by kernel_rfl, 8 - (k + 1), by omega, _, _, _, _, _, _, _, _, _, ⟨k + 1, r0, r1, r2, r3, r4, r5, r6, r7, rfl, by omega, wrap_i64 (by omega), by rw [fwK_succ]; exact hM2, hl2, rfl, rfl, rfl, rfl, rfl, rfl, rfl, rfl⟩, rfl⟩
  obtain rfl : k = 8 := by omega
  have hE : fwK 8 [[true, true, true, true, false, false, false, false], [false, true, false, false, true, true, false, false], [false, false, true, false, true, false, true, false], [false, false, false, true, false, true, true, false], [false, false, false, false, true, false, false, true], [false, false, false, false, false, true, false, true], [false, false, false, false, false, false, true, true], [false, false, false, false, false, false, false, true]] 8 = [[true, true, true, true, true, true, true, true], [false, true, false, false, true, true, false, true], [false, false, true, false, true, false, true, true], [false, false, false, true, false, true, true, true], [false, false, false, false, true, false, false, true], [false, false, false, false, false, true, false, true], [false, false, false, false, false, false, true, true], [false, false, false, false, false, false, false, true]] := by kernel_rfl
  rw [hE] at hM1
  clear hE hl1
  simp only [List.cons.injEq, and_true] at hM1
  obtain ⟨rfl, rfl, rfl, rfl, rfl, rfl, rfl, rfl⟩ := hM1
  conv => whnf
  refine cwF_loop (fun m st => (m = 8 ∧ st = ⟨[iv 8, .un, .un, .un, .lp (6, 0) 2 0 0, bv false, .ls (32, 0) 1 0 8] ++ List.replicate 6 .un ++ [.lp (15, 0) 2 0 0, iv 0] ++ List.replicate 151 .un, mkOb [((6, 0), some (.arr false 2 [.agg [iv 0, nilV]])), ((32, 0), some (.arr false 1 [.ls (41, 1) 1 0 8, .ls (41, 2) 1 0 8, .ls (41, 3) 1 0 8, .ls (41, 4) 1 0 8, .ls (41, 5) 1 0 8, .ls (41, 6) 1 0 8, .ls (41, 7) 1 0 8, .ls (41, 8) 1 0 8])), ((15, 0), some (.arr false 2 [.agg [iv 8, nilV]])), ((161, 1), none), ((41, 0), none), ((41, 1), some (.arr true 1 ([true, true, true, true, true, true, true, true].map bv))), ((41, 2), some (.arr true 1 ([false, true, false, false, true, true, false, true].map bv))), ((41, 3), some (.arr true 1 ([false, false, true, false, true, false, true, true].map bv))), ((41, 4), some (.arr true 1 ([false, false, false, true, false, true, true, true].map bv))), ((41, 5), some (.arr true 1 ([false, false, false, false, true, false, false, true].map bv))), ((41, 6), some (.arr true 1 ([false, false, false, false, false, true, false, true].map bv))), ((41, 7), some (.arr true 1 ([false, false, false, false, false, false, true, true].map bv))), ((41, 8), some (.arr true 1 ([false, false, false, false, false, false, false, true].map bv))), ((41, 9), none)]⟩) ∨ (m = 7 ∧ st = ⟨[iv 8, .un, .un, .un, .lp (6, 0) 2 0 0, bv false, .ls (32, 0) 1 0 8] ++ List.replicate 6 .un ++ [.lp (15, 0) 2 0 0, iv 1] ++ List.replicate 151 .un, mkOb [((6, 0), some (.arr false 2 [.agg [iv 0, nilV]])), ((32, 0), some (.arr false 1 [.ls (41, 1) 1 0 8, .ls (41, 2) 1 0 8, .ls (41, 3) 1 0 8, .ls (41, 4) 1 0 8, .ls (41, 5) 1 0 8, .ls (41, 6) 1 0 8, .ls (41, 7) 1 0 8, .ls (41, 8) 1 0 8])), ((15, 0), some (.arr false 2 [.agg [iv 8, .ls (161, 1) 1 0 1]])), ((161, 1), some (.arr true 1 [uv 255])), ((41, 0), none), ((41, 1), some (.arr true 1 ([true, true, true, true, true, true, true, true].map bv))), ((41, 2), some (.arr true 1 ([false, true, false, false, true, true, false, true].map bv))), ((41, 3), some (.arr true 1 ([false, false, true, false, true, false, true, true].map bv))), ((41, 4), some (.arr true 1 ([false, false, false, true, false, true, true, true].map bv))), ((41, 5), some (.arr true 1 ([false, false, false, false, true, false, false, true].map bv))), ((41, 6), some (.arr true 1 ([false, false, false, false, false, true, false, true].map bv))), ((41, 7), some (.arr true 1 ([false, false, false, false, false, false, true, true].map bv))), ((41, 8), some (.arr true 1 ([false, false, false, false, false, false, false, true].map bv))), ((41, 9), none)]⟩) ∨ (m = 6 ∧ st = ⟨[iv 8, .un, .un, .un, .lp (6, 0) 2 0 0, bv false, .ls (32, 0) 1 0 8] ++ List.replicate 6 .un ++ [.lp (15, 0) 2 0 0, iv 2] ++ List.replicate 151 .un, mkOb [((6, 0), some (.arr false 2 [.agg [iv 0, nilV]])), ((32, 0), some (.arr false 1 [.ls (41, 1) 1 0 8, .ls (41, 2) 1 0 8, .ls (41, 3) 1 0 8, .ls (41, 4) 1 0 8, .ls (41, 5) 1 0 8, .ls (41, 6) 1 0 8, .ls (41, 7) 1 0 8, .ls (41, 8) 1 0 8])), ((15, 0), some (.arr false 2 [.agg [iv 8, .ls (161, 1) 1 0 2]])), ((161, 1), some (.arr true 1 [uv 255, uv 178])), ((41, 0), none), ((41, 1), some (.arr true 1 ([true, true, true, true, true, true, true, true].map bv))), ((41, 2), some (.arr true 1 ([false, true, false, false, true, true, false, true].map bv))), ((41, 3), some (.arr true 1 ([false, false, true, false, true, false, true, true].map bv))), ((41, 4), some (.arr true 1 ([false, false, false, true, false, true, true, true].map bv))), ((41, 5), some (.arr true 1 ([false, false, false, false, true, false, false, true].map bv))), ((41, 6), some (.arr true 1 ([false, false, false, false, false, true, false, true].map bv))), ((41, 7), some (.arr true 1 ([false, false, false, false, false, false, true, true].map bv))), ((41, 8), some (.arr true 1 ([false, false, false, false, false, false, false, true].map bv))), ((41, 9), none)]⟩) ∨ (m = 5 ∧ st = ⟨[iv 8, .un, .un, .un, .lp (6, 0) 2 0 0, bv false, .ls (32, 0) 1 0 8] ++ List.replicate 6 .un ++ [.lp (15, 0) 2 0 0, iv 3] ++ List.replicate 151 .un, mkOb [((6, 0), some (.arr false 2 [.agg [iv 0, nilV]])), ((32, 0), some (.arr false 1 [.ls (41, 1) 1 0 8, .ls (41, 2) 1 0 8, .ls (41, 3) 1 0 8, .ls (41, 4) 1 0 8, .ls (41, 5) 1 0 8, .ls (41, 6) 1 0 8, .ls (41, 7) 1 0 8, .ls (41, 8) 1 0 8])), ((15, 0), some (.arr false 2 [.agg [iv 8, .ls (161, 1) 1 0 3]])), ((161, 1), some (.arr true 1 [uv 255, uv 178, uv 212])), ((41, 0), none), ((41, 1), some (.arr true 1 ([true, true, true, true, true, true, true, true].map bv))), ((41, 2), some (.arr true 1 ([false, true, false, false, true, true, false, true].map bv))), ((41, 3), some (.arr true 1 ([false, false, true, false, true, false, true, true].map bv))), ((41, 4), some (.arr true 1 ([false, false, false, true, false, true, true, true].map bv))), ((41, 5), some (.arr true 1 ([false, false, false, false, true, false, false, true].map bv))), ((41, 6), some (.arr true 1 ([false, false, false, false, false, true, false, true].map bv))), ((41, 7), some (.arr true 1 ([false, false, false, false, false, false, true, true].map bv))), ((41, 8), some (.arr true 1 ([false, false, false, false, false, false, false, true].map bv))), ((41, 9), none)]⟩) ∨ (m = 4 ∧ st = ⟨[iv 8, .un, .un, .un, .lp (6, 0) 2 0 0, bv false, .ls (32, 0) 1 0 8] ++ List.replicate 6 .un ++ [.lp (15, 0) 2 0 0, iv 4] ++ List.replicate 151 .un, mkOb [((6, 0), some (.arr false 2 [.agg [iv 0, nilV]])), ((32, 0), some (.arr false 1 [.ls (41, 1) 1 0 8, .ls (41, 2) 1 0 8, .ls (41, 3) 1 0 8, .ls (41, 4) 1 0 8, .ls (41, 5) 1 0 8, .ls (41, 6) 1 0 8, .ls (41, 7) 1 0 8, .ls (41, 8) 1 0 8])), ((15, 0), some (.arr false 2 [.agg [iv 8, .ls (161, 1) 1 0 4]])), ((161, 1), some (.arr true 1 [uv 255, uv 178, uv 212, uv 232])), ((41, 0), none), ((41, 1), some (.arr true 1 ([true, true, true, true, true, true, true, true].map bv))), ((41, 2), some (.arr true 1 ([false, true, false, false, true, true, false, true].map bv))), ((41, 3), some (.arr true 1 ([false, false, true, false, true, false, true, true].map bv))), ((41, 4), some (.arr true 1 ([false, false, false, true, false, true, true, true].map bv))), ((41, 5), some (.arr true 1 ([false, false, false, false, true, false, false, true].map bv))), ((41, 6), some (.arr true 1 ([false, false, false, false, false, true, false, true].map bv))), ((41, 7), some (.arr true 1 ([false, false, false, false, false, false, true, true].map bv))), ((41, 8), some (.arr true 1 ([false, false, false, false, false, false, false, true].map bv))), ((41, 9), none)]⟩) ∨ (m = 3 ∧ st = ⟨[iv 8, .un, .un, .un, .lp (6, 0) 2 0 0, bv false, .ls (32, 0) 1 0 8] ++ List.replicate 6 .un ++ [.lp (15, 0) 2 0 0, iv 5] ++ List.replicate 151 .un, mkOb [((6, 0), some (.arr false 2 [.agg [iv 0, nilV]])), ((32, 0), some (.arr false 1 [.ls (41, 1) 1 0 8, .ls (41, 2) 1 0 8, .ls (41, 3) 1 0 8, .ls (41, 4) 1 0 8, .ls (41, 5) 1 0 8, .ls (41, 6) 1 0 8, .ls (41, 7) 1 0 8, .ls (41, 8) 1 0 8])), ((15, 0), some (.arr false 2 [.agg [iv 8, .ls (161, 1) 1 0 5]])), ((161, 1), some (.arr true 1 [uv 255, uv 178, uv 212, uv 232, uv 144])), ((41, 0), none), ((41, 1), some (.arr true 1 ([true, true, true, true, true, true, true, true].map bv))), ((41, 2), some (.arr true 1 ([false, true, false, false, true, true, false, true].map bv))), ((41, 3), some (.arr true 1 ([false, false, true, false, true, false, true, true].map bv))), ((41, 4), some (.arr true 1 ([false, false, false, true, false, true, true, true].map bv))), ((41, 5), some (.arr true 1 ([false, false, false, false, true, false, false, true].map bv))), ((41, 6), some (.arr true 1 ([false, false, false, false, false, true, false, true].map bv))), ((41, 7), some (.arr true 1 ([false, false, false, false, false, false, true, true].map bv))), ((41, 8), some (.arr true 1 ([false, false, false, false, false, false, false, true].map bv))), ((41, 9), none)]⟩) ∨ (m = 2 ∧ st = ⟨[iv 8, .un, .un, .un, .lp (6, 0) 2 0 0, bv false, .ls (32, 0) 1 0 8] ++ List.replicate 6 .un ++ [.lp (15, 0) 2 0 0, iv 6] ++ List.replicate 151 .un, mkOb [((6, 0), some (.arr false 2 [.agg [iv 0, nilV]])), ((32, 0), some (.arr false 1 [.ls (41, 1) 1 0 8, .ls (41, 2) 1 0 8, .ls (41, 3) 1 0 8, .ls (41, 4) 1 0 8, .ls (41, 5) 1 0 8, .ls (41, 6) 1 0 8, .ls (41, 7) 1 0 8, .ls (41, 8) 1 0 8])), ((15, 0), some (.arr false 2 [.agg [iv 8, .ls (161, 1) 1 0 6]])), ((161, 1), some (.arr true 1 [uv 255, uv 178, uv 212, uv 232, uv 144, uv 160])), ((41, 0), none), ((41, 1), some (.arr true 1 ([true, true, true, true, true, true, true, true].map bv))), ((41, 2), some (.arr true 1 ([false, true, false, false, true, true, false, true].map bv))), ((41, 3), some (.arr true 1 ([false, false, true, false, true, false, true, true].map bv))), ((41, 4), some (.arr true 1 ([false, false, false, true, false, true, true, true].map bv))), ((41, 5), some (.arr true 1 ([false, false, false, false, true, false, false, true].map bv))), ((41, 6), some (.arr true 1 ([false, false, false, false, false, true, false, true].map bv))), ((41, 7), some (.arr true 1 ([false, false, false, false, false, false, true, true].map bv))), ((41, 8), some (.arr true 1 ([false, false, false, false, false, false, false, true].map bv))), ((41, 9), none)]⟩) ∨ (m = 1 ∧ st = ⟨[iv 8, .un, .un, .un, .lp (6, 0) 2 0 0, bv false, .ls (32, 0) 1 0 8] ++ List.replicate 6 .un ++ [.lp (15, 0) 2 0 0, iv 7] ++ List.replicate 151 .un, mkOb [((6, 0), some (.arr false 2 [.agg [iv 0, nilV]])), ((32, 0), some (.arr false 1 [.ls (41, 1) 1 0 8, .ls (41, 2) 1 0 8, .ls (41, 3) 1 0 8, .ls (41, 4) 1 0 8, .ls (41, 5) 1 0 8, .ls (41, 6) 1 0 8, .ls (41, 7) 1 0 8, .ls (41, 8) 1 0 8])), ((15, 0), some (.arr false 2 [.agg [iv 8, .ls (161, 1) 1 0 7]])), ((161, 1), some (.arr true 1 [uv 255, uv 178, uv 212, uv 232, uv 144, uv 160, uv 192])), ((41, 0), none), ((41, 1), some (.arr true 1 ([true, true, true, true, true, true, true, true].map bv))), ((41, 2), some (.arr true 1 ([false, true, false, false, true, true, false, true].map bv))), ((41, 3), some (.arr true 1 ([false, false, true, false, true, false, true, true].map bv))), ((41, 4), some (.arr true 1 ([false, false, false, true, false, true, true, true].map bv))), ((41, 5), some (.arr true 1 ([false, false, false, false, true, false, false, true].map bv))), ((41, 6), some (.arr true 1 ([false, false, false, false, false, true, false, true].map bv))), ((41, 7), some (.arr true 1 ([false, false, false, false, false, false, true, true].map bv))), ((41, 8), some (.arr true 1 ([false, false, false, false, false, false, false, true].map bv))), ((41, 9), none)]⟩) ∨ (m = 0 ∧ st = ⟨[iv 8, .un, .un, .un, .lp (6, 0) 2 0 0, bv false, .ls (32, 0) 1 0 8] ++ List.replicate 6 .un ++ [.lp (15, 0) 2 0 0, iv 8] ++ List.replicate 151 .un, mkOb [((6, 0), some (.arr false 2 [.agg [iv 0, nilV]])), ((32, 0), some (.arr false 1 [.ls (41, 1) 1 0 8, .ls (41, 2) 1 0 8, .ls (41, 3) 1 0 8, .ls (41, 4) 1 0 8, .ls (41, 5) 1 0 8, .ls (41, 6) 1 0 8, .ls (41, 7) 1 0 8, .ls (41, 8) 1 0 8])), ((15, 0), some (.arr false 2 [.agg [iv 8, .ls (161, 1) 1 0 8]])), ((161, 1), some (.arr true 1 [uv 255, uv 178, uv 212, uv 232, uv 144, uv 160, uv 192, uv 128])), ((41, 0), none), ((41, 1), some (.arr true 1 ([true, true, true, true, true, true, true, true].map bv))), ((41, 2), some (.arr true 1 ([false, true, false, false, true, true, false, true].map bv))), ((41, 3), some (.arr true 1 ([false, false, true, false, true, false, true, true].map bv))), ((41, 4), some (.arr true 1 ([false, false, false, true, false, true, true, true].map bv))), ((41, 5), some (.arr true 1 ([false, false, false, false, true, false, false, true].map bv))), ((41, 6), some (.arr true 1 ([false, false, false, false, false, true, false, true].map bv))), ((41, 7), some (.arr true 1 ([false, false, false, false, false, false, true, true].map bv))), ((41, 8), some (.arr true 1 ([false, false, false, false, false, false, false, true].map bv))), ((41, 9), none)]⟩)) 8 (by kernel_rfl) (.inl ⟨rfl, rfl⟩) ?_
  rintro m st (⟨rfl, rfl⟩ | ⟨rfl, rfl⟩ | ⟨rfl, rfl⟩ | ⟨rfl, rfl⟩ | ⟨rfl, rfl⟩ | ⟨rfl, rfl⟩ | ⟨rfl, rfl⟩ | ⟨rfl, rfl⟩ | ⟨rfl, rfl⟩)
  · conv => whnf
    refine cwF_loop (fun m st => ∃ z x : Int, (∃ b : Nat, m = 8 - b ∧ b ≤ 8 ∧ z = (b : Nat) ∧ x = wp [true, true, true, true, true, true, true, true] b) ∧ st = ⟨[iv 8, .un, .un, .un, .lp (6, 0) 2 0 0, bv false, .ls (32, 0) 1 0 8] ++ List.replicate 6 .un ++ [.lp (15, 0) 2 0 0, iv 0, uv x, iv z] ++ List.replicate 149 .un, mkOb [((6, 0), some (.arr false 2 [.agg [iv 0, nilV]])), ((32, 0), some (.arr false 1 [.ls (41, 1) 1 0 8, .ls (41, 2) 1 0 8, .ls (41, 3) 1 0 8, .ls (41, 4) 1 0 8, .ls (41, 5) 1 0 8, .ls (41, 6) 1 0 8, .ls (41, 7) 1 0 8, .ls (41, 8) 1 0 8])), ((15, 0), some (.arr false 2 [.agg [iv 8, nilV]])), ((161, 1), none), ((41, 0), none), ((41, 1), some (.arr true 1 ([true, true, true, true, true, true, true, true].map bv))), ((41, 2), some (.arr true 1 ([false, true, false, false, true, true, false, true].map bv))), ((41, 3), some (.arr true 1 ([false, false, true, false, true, false, true, true].map bv))), ((41, 4), some (.arr true 1 ([false, false, false, true, false, true, true, true].map bv))), ((41, 5), some (.arr true 1 ([false, false, false, false, true, false, false, true].map bv))), ((41, 6), some (.arr true 1 ([false, false, false, false, false, true, false, true].map bv))), ((41, 7), some (.arr true 1 ([false, false, false, false, false, false, true, true].map bv))), ((41, 8), some (.arr true 1 ([false, false, false, false, false, false, false, true].map bv))), ((41, 9), none)]⟩) 8 (by kernel_rfl) ⟨_, _, ⟨0, rfl, by decide, rfl, rfl⟩, rfl⟩ ?_
    rintro m st ⟨z, x, ⟨b, rfl, hb, rfl, rfl⟩, rfl⟩
    skip
    conv => whnf
    refine vif_dec (fun h1 => ?_) (fun h1 => ?_)
    · conv => whnf
      refine ⟨⟨rfl, by decide, by decide⟩, ?_⟩
      conv => whnf
      refine ⟨⟨rfl, by omega, by omega⟩, ?_⟩
      conv => whnf
      refine ⟨_, rfl, ask_row (r := [true, true, true, true, true, true, true, true]) (b := b) (by simp; omega) fun y hy => ?_⟩
      cases y
      · conv => whnf
        exact ⟨by kernel_rfl, 8 - (b + 1), by omega, _, _, ⟨b + 1, rfl, by omega, wrap_i64 (by omega), by rw [wp_succ, hy]; rfl⟩, rfl⟩
      · conv => whnf
        refine l01Power.ac _ (by omega) ?_
        conv => whnf
        exact ⟨by kernel_rfl, 8 - (b + 1), by omega, _, _, ⟨b + 1, rfl, by omega, wrap_i64 (by omega), by rw [wp_succ, hy]; exact wrap_u64 (wp_add (by omega)) ⟩, rfl⟩
    · conv => whnf
      obtain rfl : b = 8 := by omega
      refine ⟨⟨by decide, by decide, rfl⟩, ?_⟩
      conv => whnf
      exact ⟨by kernel_rfl, 7, by decide, .inr (.inl ⟨rfl, rfl⟩)⟩
  · conv => whnf
    refine cwF_loop (fun m st => ∃ z x : Int, (∃ b : Nat, m = 8 - b ∧ b ≤ 8 ∧ z = (b : Nat) ∧ x = wp [false, true, false, false, true, true, false, true] b) ∧ st = ⟨[iv 8, .un, .un, .un, .lp (6, 0) 2 0 0, bv false, .ls (32, 0) 1 0 8] ++ List.replicate 6 .un ++ [.lp (15, 0) 2 0 0, iv 1, uv x, iv z] ++ List.replicate 149 .un, mkOb [((6, 0), some (.arr false 2 [.agg [iv 0, nilV]])), ((32, 0), some (.arr false 1 [.ls (41, 1) 1 0 8, .ls (41, 2) 1 0 8, .ls (41, 3) 1 0 8, .ls (41, 4) 1 0 8, .ls (41, 5) 1 0 8, .ls (41, 6) 1 0 8, .ls (41, 7) 1 0 8, .ls (41, 8) 1 0 8])), ((15, 0), some (.arr false 2 [.agg [iv 8, .ls (161, 1) 1 0 1]])), ((161, 1), some (.arr true 1 [uv 255])), ((41, 0), none), ((41, 1), some (.arr true 1 ([true, true, true, true, true, true, true, true].map bv))), ((41, 2), some (.arr true 1 ([false, true, false, false, true, true, false, true].map bv))), ((41, 3), some (.arr true 1 ([false, false, true, false, true, false, true, true].map bv))), ((41, 4), some (.arr true 1 ([false, false, false, true, false, true, true, true].map bv))), ((41, 5), some (.arr true 1 ([false, false, false, false, true, false, false, true].map bv))), ((41, 6), some (.arr true 1 ([false, false, false, false, false, true, false, true].map bv))), ((41, 7), some (.arr true 1 ([false, false, false, false, false, false, true, true].map bv))), ((41, 8), some (.arr true 1 ([false, false, false, false, false, false, false, true].map bv))), ((41, 9), none)]⟩) 8 (by kernel_rfl) ⟨_, _, ⟨0, rfl, by decide, rfl, rfl⟩, rfl⟩ ?_
    rintro m st ⟨z, x, ⟨b, rfl, hb, rfl, rfl⟩, rfl⟩
    skip
    conv => whnf
    refine vif_dec (fun h1 => ?_) (fun h1 => ?_)
    · conv => whnf
      refine ⟨⟨rfl, by decide, by decide⟩, ?_⟩
      conv => whnf
      refine ⟨⟨rfl, by omega, by omega⟩, ?_⟩
      conv => whnf
      refine ⟨_, rfl, ask_row (r := [false, true, false, false, true, true, false, true]) (b := b) (by simp; omega) fun y hy => ?_⟩
      cases y
      · conv => whnf
        exact ⟨by kernel_rfl, 8 - (b + 1), by omega, _, _, ⟨b + 1, rfl, by omega, wrap_i64 (by omega), by rw [wp_succ, hy]; rfl⟩, rfl⟩
      · conv => whnf
        refine l01Power.ac _ (by omega) ?_
        conv => whnf
        exact ⟨by kernel_rfl, 8 - (b + 1), by omega, _, _, ⟨b + 1, rfl, by omega, wrap_i64 (by omega), by rw [wp_succ, hy]; exact wrap_u64 (wp_add (by omega)) ⟩, rfl⟩
    · conv => whnf
      obtain rfl : b = 8 := by omega
      exact ⟨by kernel_rfl, 6, by decide, .inr (.inr (.inl ⟨rfl, rfl⟩))⟩
  · conv => whnf
    refine cwF_loop (fun m st => ∃ z x : Int, (∃ b : Nat, m = 8 - b ∧ b ≤ 8 ∧ z = (b : Nat) ∧ x = wp [false, false, true, false, true, false, true, true] b) ∧ st = ⟨[iv 8, .un, .un, .un, .lp (6, 0) 2 0 0, bv false, .ls (32, 0) 1 0 8] ++ List.replicate 6 .un ++ [.lp (15, 0) 2 0 0, iv 2, uv x, iv z] ++ List.replicate 149 .un, mkOb [((6, 0), some (.arr false 2 [.agg [iv 0, nilV]])), ((32, 0), some (.arr false 1 [.ls (41, 1) 1 0 8, .ls (41, 2) 1 0 8, .ls (41, 3) 1 0 8, .ls (41, 4) 1 0 8, .ls (41, 5) 1 0 8, .ls (41, 6) 1 0 8, .ls (41, 7) 1 0 8, .ls (41, 8) 1 0 8])), ((15, 0), some (.arr false 2 [.agg [iv 8, .ls (161, 1) 1 0 2]])), ((161, 1), some (.arr true 1 [uv 255, uv 178])), ((41, 0), none), ((41, 1), some (.arr true 1 ([true, true, true, true, true, true, true, true].map bv))), ((41, 2), some (.arr true 1 ([false, true, false, false, true, true, false, true].map bv))), ((41, 3), some (.arr true 1 ([false, false, true, false, true, false, true, true].map bv))), ((41, 4), some (.arr true 1 ([false, false, false, true, false, true, true, true].map bv))), ((41, 5), some (.arr true 1 ([false, false, false, false, true, false, false, true].map bv))), ((41, 6), some (.arr true 1 ([false, false, false, false, false, true, false, true].map bv))), ((41, 7), some (.arr true 1 ([false, false, false, false, false, false, true, true].map bv))), ((41, 8), some (.arr true 1 ([false, false, false, false, false, false, false, true].map bv))), ((41, 9), none)]⟩) 8 (by kernel_rfl) ⟨_, _, ⟨0, rfl, by decide, rfl, rfl⟩, rfl⟩ ?_
    rintro m st ⟨z, x, ⟨b, rfl, hb, rfl, rfl⟩, rfl⟩
    skip
    conv => whnf
    refine vif_dec (fun h1 => ?_) (fun h1 => ?_)
    · conv => whnf
      refine ⟨⟨rfl, by decide, by decide⟩, ?_⟩
      conv => whnf
      refine ⟨⟨rfl, by omega, by omega⟩, ?_⟩
      conv => whnf
      refine ⟨_, rfl, ask_row (r := [false, false, true, false, true, false, true, true]) (b := b) (by simp; omega) fun y hy => ?_⟩
      cases y
      · conv => whnf
        exact ⟨by kernel_rfl, 8 - (b + 1), by omega, _, _, ⟨b + 1, rfl, by omega, wrap_i64 (by omega), by rw [wp_succ, hy]; rfl⟩, rfl⟩
      · conv => whnf
        refine l01Power.ac _ (by omega) ?_
        conv => whnf
        exact ⟨by kernel_rfl, 8 - (b + 1), by omega, _, _, ⟨b + 1, rfl, by omega, wrap_i64 (by omega), by rw [wp_succ, hy]; exact wrap_u64 (wp_add (by omega)) ⟩, rfl⟩
    · conv => whnf
      obtain rfl : b = 8 := by omega
      exact ⟨by kernel_rfl, 5, by decide, .inr (.inr (.inr (.inl ⟨rfl, rfl⟩)))⟩
  · conv => whnf
    refine cwF_loop (fun m st => ∃ z x : Int, (∃ b : Nat, m = 8 - b ∧ b ≤ 8 ∧ z = (b : Nat) ∧ x = wp [false, false, false, true, false, true, true, true] b) ∧ st = ⟨[iv 8, .un, .un, .un, .lp (6, 0) 2 0 0, bv false, .ls (32, 0) 1 0 8] ++ List.replicate 6 .un ++ [.lp (15, 0) 2 0 0, iv 3, uv x, iv z] ++ List.replicate 149 .un, mkOb [((6, 0), some (.arr false 2 [.agg [iv 0, nilV]])), ((32, 0), some (.arr false 1 [.ls (41, 1) 1 0 8, .ls (41, 2) 1 0 8, .ls (41, 3) 1 0 8, .ls (41, 4) 1 0 8, .ls (41, 5) 1 0 8, .ls (41, 6) 1 0 8, .ls (41, 7) 1 0 8, .ls (41, 8) 1 0 8])), ((15, 0), some (.arr false 2 [.agg [iv 8, .ls (161, 1) 1 0 3]])), ((161, 1), some (.arr true 1 [uv 255, uv 178, uv 212])), ((41, 0), none), ((41, 1), some (.arr true 1 ([true, true, true, true, true, true, true, true].map bv))), ((41, 2), some (.arr true 1 ([false, true, false, false, true, true, false, true].map bv))), ((41, 3), some (.arr true 1 ([false, false, true, false, true, false, true, true].map bv))), ((41, 4), some (.arr true 1 ([false, false, false, true, false, true, true, true].map bv))), ((41, 5), some (.arr true 1 ([false, false, false, false, true, false, false, true].map bv))), ((41, 6), some (.arr true 1 ([false, false, false, false, false, true, false, true].map bv))), ((41, 7), some (.arr true 1 ([false, false, false, false, false, false, true, true].map bv))), ((41, 8), some (.arr true 1 ([false, false, false, false, false, false, false, true].map bv))), ((41, 9), none)]⟩) 8 (by kernel_rfl) ⟨_, _, ⟨0, rfl, by decide, rfl, rfl⟩, rfl⟩ ?_
    rintro m st ⟨z, x, ⟨b, rfl, hb, rfl, rfl⟩, rfl⟩
    skip
    conv => whnf
    refine vif_dec (fun h1 => ?_) (fun h1 => ?_)
    · conv => whnf
      refine ⟨⟨rfl, by decide, by decide⟩, ?_⟩
      conv => whnf
      refine ⟨⟨rfl, by omega, by omega⟩, ?_⟩
      conv => whnf
      refine ⟨_, rfl, ask_row (r := [false, false, false, true, false, true, true, true]) (b := b) (by simp; omega) fun y hy => ?_⟩
      cases y
      · conv => whnf
        exact ⟨by kernel_rfl, 8 - (b + 1), by omega, _, _, ⟨b + 1, rfl, by omega, wrap_i64 (by omega), by rw [wp_succ, hy]; rfl⟩, rfl⟩
      · conv => whnf
        refine l01Power.ac _ (by omega) ?_
        conv => whnf
        exact ⟨by kernel_rfl, 8 - (b + 1), by omega, _, _, ⟨b + 1, rfl, by omega, wrap_i64 (by omega), by rw [wp_succ, hy]; exact wrap_u64 (wp_add (by omega)) ⟩, rfl⟩
    · conv => whnf
      obtain rfl : b = 8 := by omega
      exact ⟨by kernel_rfl, 4, by decide, .inr (.inr (.inr (.inr (.inl ⟨rfl, rfl⟩))))⟩
  · conv => whnf
    refine cwF_loop (fun m st => ∃ z x : Int, (∃ b : Nat, m = 8 - b ∧ b ≤ 8 ∧ z = (b : Nat) ∧ x = wp [false, false, false, false, true, false, false, true] b) ∧ st = ⟨[iv 8, .un, .un, .un, .lp (6, 0) 2 0 0, bv false, .ls (32, 0) 1 0 8] ++ List.replicate 6 .un ++ [.lp (15, 0) 2 0 0, iv 4, uv x, iv z] ++ List.replicate 149 .un, mkOb [((6, 0), some (.arr false 2 [.agg [iv 0, nilV]])), ((32, 0), some (.arr false 1 [.ls (41, 1) 1 0 8, .ls (41, 2) 1 0 8, .ls (41, 3) 1 0 8, .ls (41, 4) 1 0 8, .ls (41, 5) 1 0 8, .ls (41, 6) 1 0 8, .ls (41, 7) 1 0 8, .ls (41, 8) 1 0 8])), ((15, 0), some (.arr false 2 [.agg [iv 8, .ls (161, 1) 1 0 4]])), ((161, 1), some (.arr true 1 [uv 255, uv 178, uv 212, uv 232])), ((41, 0), none), ((41, 1), some (.arr true 1 ([true, true, true, true, true, true, true, true].map bv))), ((41, 2), some (.arr true 1 ([false, true, false, false, true, true, false, true].map bv))), ((41, 3), some (.arr true 1 ([false, false, true, false, true, false, true, true].map bv))), ((41, 4), some (.arr true 1 ([false, false, false, true, false, true, true, true].map bv))), ((41, 5), some (.arr true 1 ([false, false, false, false, true, false, false, true].map bv))), ((41, 6), some (.arr true 1 ([false, false, false, false, false, true, false, true].map bv))), ((41, 7), some (.arr true 1 ([false, false, false, false, false, false, true, true].map bv))), ((41, 8), some (.arr true 1 ([false, false, false, false, false, false, false, true].map bv))), ((41, 9), none)]⟩) 8 (by kernel_rfl) ⟨_, _, ⟨0, rfl, by decide, rfl, rfl⟩, rfl⟩ ?_
    rintro m st ⟨z, x, ⟨b, rfl, hb, rfl, rfl⟩, rfl⟩
    skip
    conv => whnf
    refine vif_dec (fun h1 => ?_) (fun h1 => ?_)
    · conv => whnf
      refine ⟨⟨rfl, by decide, by decide⟩, ?_⟩
      conv => whnf
      refine ⟨⟨rfl, by omega, by omega⟩, ?_⟩
      conv => whnf
      refine ⟨_, rfl, ask_row (r := [false, false, false, false, true, false, false, true]) (b := b) (by simp; omega) fun y hy => ?_⟩
      cases y
      · conv => whnf
        exact ⟨by kernel_rfl, 8 - (b + 1), by omega, _, _, ⟨b + 1, rfl, by omega, wrap_i64 (by omega), by rw [wp_succ, hy]; rfl⟩, rfl⟩
      · conv => whnf
        refine l01Power.ac _ (by omega) ?_
        conv => whnf
        exact ⟨by kernel_rfl, 8 - (b + 1), by omega, _, _, ⟨b + 1, rfl, by omega, wrap_i64 (by omega), by rw [wp_succ, hy]; exact wrap_u64 (wp_add (by omega)) ⟩, rfl⟩
    · conv => whnf
      obtain rfl : b = 8 := by omega
      exact ⟨by kernel_rfl, 3, by decide, .inr (.inr (.inr (.inr (.inr (.inl ⟨rfl, rfl⟩)))))⟩
  · conv => whnf
    refine cwF_loop (fun m st => ∃ z x : Int, (∃ b : Nat, m = 8 - b ∧ b ≤ 8 ∧ z = (b : Nat) ∧ x = wp [false, false, false, false, false, true, false, true] b) ∧ st = ⟨[iv 8, .un, .un, .un, .lp (6, 0) 2 0 0, bv false, .ls (32, 0) 1 0 8] ++ List.replicate 6 .un ++ [.lp (15, 0) 2 0 0, iv 5, uv x, iv z] ++ List.replicate 149 .un, mkOb [((6, 0), some (.arr false 2 [.agg [iv 0, nilV]])), ((32, 0), some (.arr false 1 [.ls (41, 1) 1 0 8, .ls (41, 2) 1 0 8, .ls (41, 3) 1 0 8, .ls (41, 4) 1 0 8, .ls (41, 5) 1 0 8, .ls (41, 6) 1 0 8, .ls (41, 7) 1 0 8, .ls (41, 8) 1 0 8])), ((15, 0), some (.arr false 2 [.agg [iv 8, .ls (161, 1) 1 0 5]])), ((161, 1), some (.arr true 1 [uv 255, uv 178, uv 212, uv 232, uv 144])), ((41, 0), none), ((41, 1), some (.arr true 1 ([true, true, true, true, true, true, true, true].map bv))), ((41, 2), some (.arr true 1 ([false, true, false, false, true, true, false, true].map bv))), ((41, 3), some (.arr true 1 ([false, false, true, false, true, false, true, true].map bv))), ((41, 4), some (.arr true 1 ([false, false, false, true, false, true, true, true].map bv))), ((41, 5), some (.arr true 1 ([false, false, false, false, true, false, false, true].map bv))), ((41, 6), some (.arr true 1 ([false, false, false, false, false, true, false, true].map bv))), ((41, 7), some (.arr true 1 ([false, false, false, false, false, false, true, true].map bv))), ((41, 8), some (.arr true 1 ([false, false, false, false, false, false, false, true].map bv))), ((41, 9), none)]⟩) 8 (by kernel_rfl) ⟨_, _, ⟨0, rfl, by decide, rfl, rfl⟩, rfl⟩ ?_
    rintro m st ⟨z, x, ⟨b, rfl, hb, rfl, rfl⟩, rfl⟩
    skip
    conv => whnf
    refine vif_dec (fun h1 => ?_) (fun h1 => ?_)
    · conv => whnf
      refine ⟨⟨rfl, by decide, by decide⟩, ?_⟩
      conv => whnf
      refine ⟨⟨rfl, by omega, by omega⟩, ?_⟩
      conv => whnf
      refine ⟨_, rfl, ask_row (r := [false, false, false, false, false, true, false, true]) (b := b) (by simp; omega) fun y hy => ?_⟩
      cases y
      · conv => whnf
        exact ⟨by kernel_rfl, 8 - (b + 1), by omega, _, _, ⟨b + 1, rfl, by omega, wrap_i64 (by omega), by rw [wp_succ, hy]; rfl⟩, rfl⟩
      · conv => whnf
        refine l01Power.ac _ (by omega) ?_
        conv => whnf
        exact ⟨by kernel_rfl, 8 - (b + 1), by omega, _, _, ⟨b + 1, rfl, by omega, wrap_i64 (by omega), by rw [wp_succ, hy]; exact wrap_u64 (wp_add (by omega)) ⟩, rfl⟩
    · conv => whnf
      obtain rfl : b = 8 := by omega
      exact ⟨by kernel_rfl, 2, by decide, .inr (.inr (.inr (.inr (.inr (.inr (.inl ⟨rfl, rfl⟩))))))⟩
  · conv => whnf
    refine cwF_loop (fun m st => ∃ z x : Int, (∃ b : Nat, m = 8 - b ∧ b ≤ 8 ∧ z = (b : Nat) ∧ x = wp [false, false, false, false, false, false, true, true] b) ∧ st = ⟨[iv 8, .un, .un, .un, .lp (6, 0) 2 0 0, bv false, .ls (32, 0) 1 0 8] ++ List.replicate 6 .un ++ [.lp (15, 0) 2 0 0, iv 6, uv x, iv z] ++ List.replicate 149 .un, mkOb [((6, 0), some (.arr false 2 [.agg [iv 0, nilV]])), ((32, 0), some (.arr false 1 [.ls (41, 1) 1 0 8, .ls (41, 2) 1 0 8, .ls (41, 3) 1 0 8, .ls (41, 4) 1 0 8, .ls (41, 5) 1 0 8, .ls (41, 6) 1 0 8, .ls (41, 7) 1 0 8, .ls (41, 8) 1 0 8])), ((15, 0), some (.arr false 2 [.agg [iv 8, .ls (161, 1) 1 0 6]])), ((161, 1), some (.arr true 1 [uv 255, uv 178, uv 212, uv 232, uv 144, uv 160])), ((41, 0), none), ((41, 1), some (.arr true 1 ([true, true, true, true, true, true, true, true].map bv))), ((41, 2), some (.arr true 1 ([false, true, false, false, true, true, false, true].map bv))), ((41, 3), some (.arr true 1 ([false, false, true, false, true, false, true, true].map bv))), ((41, 4), some (.arr true 1 ([false, false, false, true, false, true, true, true].map bv))), ((41, 5), some (.arr true 1 ([false, false, false, false, true, false, false, true].map bv))), ((41, 6), some (.arr true 1 ([false, false, false, false, false, true, false, true].map bv))), ((41, 7), some (.arr true 1 ([false, false, false, false, false, false, true, true].map bv))), ((41, 8), some (.arr true 1 ([false, false, false, false, false, false, false, true].map bv))), ((41, 9), none)]⟩) 8 (by kernel_rfl) ⟨_, _, ⟨0, rfl, by decide, rfl, rfl⟩, rfl⟩ ?_
    rintro m st ⟨z, x, ⟨b, rfl, hb, rfl, rfl⟩, rfl⟩
    skip
    conv => whnf
    refine vif_dec (fun h1 => ?_) (fun h1 => ?_)
    · conv => whnf
      refine ⟨⟨rfl, by decide, by decide⟩, ?_⟩
      conv => whnf
      refine ⟨⟨rfl, by omega, by omega⟩, ?_⟩
      conv => whnf
      refine ⟨_, rfl, ask_row (r := [false, false, false, false, false, false, true, true]) (b := b) (by simp; omega) fun y hy => ?_⟩
      cases y
      · conv => whnf
        exact ⟨by kernel_rfl, 8 - (b + 1), by omega, _, _, ⟨b + 1, rfl, by omega, wrap_i64 (by omega), by rw [wp_succ, hy]; rfl⟩, rfl⟩
      · conv => whnf
        refine l01Power.ac _ (by omega) ?_
        conv => whnf
        exact ⟨by kernel_rfl, 8 - (b + 1), by omega, _, _, ⟨b + 1, rfl, by omega, wrap_i64 (by omega), by rw [wp_succ, hy]; exact wrap_u64 (wp_add (by omega)) ⟩, rfl⟩
    · conv => whnf
      obtain rfl : b = 8 := by omega
      exact ⟨by kernel_rfl, 1, by decide, .inr (.inr (.inr (.inr (.inr (.inr (.inr (.inl ⟨rfl, rfl⟩)))))))⟩
  · conv => whnf
    refine cwF_loop (fun m st => ∃ z x : Int, (∃ b : Nat, m = 8 - b ∧ b ≤ 8 ∧ z = (b : Nat) ∧ x = wp [false, false, false, false, false, false, false, true] b) ∧ st = ⟨[iv 8, .un, .un, .un, .lp (6, 0) 2 0 0, bv false, .ls (32, 0) 1 0 8] ++ List.replicate 6 .un ++ [.lp (15, 0) 2 0 0, iv 7, uv x, iv z] ++ List.replicate 149 .un, mkOb [((6, 0), some (.arr false 2 [.agg [iv 0, nilV]])), ((32, 0), some (.arr false 1 [.ls (41, 1) 1 0 8, .ls (41, 2) 1 0 8, .ls (41, 3) 1 0 8, .ls (41, 4) 1 0 8, .ls (41, 5) 1 0 8, .ls (41, 6) 1 0 8, .ls (41, 7) 1 0 8, .ls (41, 8) 1 0 8])), ((15, 0), some (.arr false 2 [.agg [iv 8, .ls (161, 1) 1 0 7]])), ((161, 1), some (.arr true 1 [uv 255, uv 178, uv 212, uv 232, uv 144, uv 160, uv 192])), ((41, 0), none), ((41, 1), some (.arr true 1 ([true, true, true, true, true, true, true, true].map bv))), ((41, 2), some (.arr true 1 ([false, true, false, false, true, true, false, true].map bv))), ((41, 3), some (.arr true 1 ([false, false, true, false, true, false, true, true].map bv))), ((41, 4), some (.arr true 1 ([false, false, false, true, false, true, true, true].map bv))), ((41, 5), some (.arr true 1 ([false, false, false, false, true, false, false, true].map bv))), ((41, 6), some (.arr true 1 ([false, false, false, false, false, true, false, true].map bv))), ((41, 7), some (.arr true 1 ([false, false, false, false, false, false, true, true].map bv))), ((41, 8), some (.arr true 1 ([false, false, false, false, false, false, false, true].map bv))), ((41, 9), none)]⟩) 8 (by kernel_rfl) ⟨_, _, ⟨0, rfl, by decide, rfl, rfl⟩, rfl⟩ ?_
    rintro m st ⟨z, x, ⟨b, rfl, hb, rfl, rfl⟩, rfl⟩
    skip
    conv => whnf
    refine vif_dec (fun h1 => ?_) (fun h1 => ?_)
    · conv => whnf
      refine ⟨⟨rfl, by decide, by decide⟩, ?_⟩
      conv => whnf
      refine ⟨⟨rfl, by omega, by omega⟩, ?_⟩
      conv => whnf
      refine ⟨_, rfl, ask_row (r := [false, false, false, false, false, false, false, true]) (b := b) (by simp; omega) fun y hy => ?_⟩
      cases y
      · conv => whnf
        exact ⟨by kernel_rfl, 8 - (b + 1), by omega, _, _, ⟨b + 1, rfl, by omega, wrap_i64 (by omega), by rw [wp_succ, hy]; rfl⟩, rfl⟩
      · conv => whnf
        refine l01Power.ac _ (by omega) ?_
        conv => whnf
        exact ⟨by kernel_rfl, 8 - (b + 1), by omega, _, _, ⟨b + 1, rfl, by omega, wrap_i64 (by omega), by rw [wp_succ, hy]; exact wrap_u64 (wp_add (by omega)) ⟩, rfl⟩
    · conv => whnf
      obtain rfl : b = 8 := by omega
      exact ⟨by kernel_rfl, 0, by decide, .inr (.inr (.inr (.inr (.inr (.inr (.inr (.inr (⟨rfl, rfl⟩))))))))⟩
  conv => whnf
  refine LatOkS.acW 8 [255, 178, 212, 232, 144, 160, 192, 128] fun r hr => ?_
  obtain rfl : r = true := hr.2 (latB_P (by kernel_rfl))
  conv => whnf
  exact hK
end Go.Eng.T.L
