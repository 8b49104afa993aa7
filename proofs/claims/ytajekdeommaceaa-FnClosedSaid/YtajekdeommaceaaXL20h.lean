import Derived.Test.YtajekdeommaceaaXL18
import Derived.Test.YtajekdeommaceaaXLatTh
import Derived.Test.YtajekdeommaceaaXEng26
namespace Go.Eng.T
open Go.Proofs Go.Eng
set_option maxRecDepth 100000
set_option maxHeartbeats 0

theorem LatLeL.ac {N : Nat} {up : List Int} {a b : Int} (h : LatI N up) (ha : 0 ≤ a ∧ a < N) (hb : 0 ≤ b ∧ b < N) {K : V → List Obj → List Obj → Prop} (hK : ∀ r, bit (up.getD a.toNat default) b = r → K (bv r) [] []) : AC Try.prog 23 [latV N up, iv a, iv b] [] K :=
  LatLeI.ac N up a b fun r hr => hK r (by
    rw [Bool.eq_iff_iff, hr]
    exact ⟨fun k => ⟨⟨h, ha, hb⟩, k⟩, fun k => k.2⟩)

theorem join_eq {N : Int} {up : List Int} (hw : Words up) {a b j j' : Int} {u : Bool} (h : JoinP N up a b u j) (h' : JoinS N up a b u j') : j' = j := by
  by_cases c : LatI N up ∧ (0 ≤ a ∧ a < N) ∧ (0 ≤ b ∧ b < N)
  · rw [h.1 c, h'.1 ⟨(latI_iff hw).1 c.1, c.2⟩]
  · rw [h.2 c, h'.2 fun k => c ⟨(latI_iff hw).2 k.1, k.2⟩]

theorem join_lat {N : Int} {up : List Int} {a b j : Int} {u : Bool} (h : JoinP N up a b u j) (hj : ¬ j < 0) : LatI N up ∧ (0 ≤ a ∧ a < N) ∧ (0 ≤ b ∧ b < N) := by
  by_cases c : LatI N up ∧ (0 ≤ a ∧ a < N) ∧ (0 ≤ b ∧ b < N)
  · exact c
  · exact absurd (h.2 c) (by omega)

/-- Contracts that give a value that is known. -/
theorem LatLeV.ac {N : Nat} {up : List Int} {a b : Int} (h : LatI N up) (ha : 0 ≤ a ∧ a < N) (hb : 0 ≤ b ∧ b < N) (v : Bool) (hv : bit (up.getD a.toNat default) b = v) {K : V → List Obj → List Obj → Prop} (hK : K (bv v) [] []) : AC Try.prog 23 [latV N up, iv a, iv b] [] K :=
  LatLeL.ac h ha hb fun r hr => by rw [show r = v from hr.symm.trans hv]; exact hK
theorem LatJoinSJ.ac {N : Int} {up : List Int} (hw : Words up) {a b j : Int} (h : JoinP N up a b true j) {K : V → List Obj → List Obj → Prop} (hK : K (iv j) [] []) : AC Try.prog 19 [latV N up, iv a, iv b] [] K :=
  LatJoinS.ac N up a b fun r hr => by rw [join_eq hw h hr]; exact hK
theorem LatMeetSJ.ac {N : Int} {up : List Int} (hw : Words up) {a b j : Int} (h : JoinP N up a b false j) {K : V → List Obj → List Obj → Prop} (hK : K (iv j) [] []) : AC Try.prog 20 [latV N up, iv a, iv b] [] K :=
  LatMeetS.ac N up a b fun r hr => by rw [join_eq hw h hr]; exact hK
theorem LatJoinB.ac {M : Nat} {up : List Int} {a b j : Int} (hI : LatI M up) (ha : 0 ≤ a ∧ a < M) (hb : 0 ≤ b ∧ b < M) (ej : j = bound M up a b true) {K : V → List Obj → List Obj → Prop} (hK : K (iv j) [] []) : AC Try.prog 17 [latV M up, iv b, iv a] [] K :=
  LatJoinI.ac M up b a fun r hr => by rw [show r = j by rw [hr.1 ⟨hI, hb, ha⟩, Int.toNat_natCast, bound_symm, ← ej]]; exact hK

theorem ne_self (j : Int) : (j != j) = false := by simp
theorem eq_self (j : Int) : (j == j) = true := by simp

/-- A lattice whose words may change, lent to a call. -/
abbrev latL (N : Int) (up : List Int) : V := .agg [iv N, .ls (0, 0) 1 0 up.length]
theorem lendLat {N : Int} {up : List Int} {xs : List V} (h : LendA (0, 0) 1 (up.map uv) xs xs) : LendA (0, 0) 1 (up.map uv) (latL N up :: xs) (latV N up :: xs) :=
  .agg (.cons (.same List.not_mem_nil) (.cons (.all (by simp)) .nil)) h
theorem AC.lat0 {P : Program} {f : FuncId} {N : Int} {up : List Int} {K : V → List Obj → List Obj → Prop} (h : AC P f [latV N up] [] fun v o n => (v.noIs = true ∧ noIsO o = true ∧ noIsO n = true) ∧ K v (o ++ [upO up]) n) :
    AC P f [latL N up] [upO up] K := AC.borrow (objs := []) (lendLat .nil) (fun _ h => nomatch h) h
theorem AC.lat1 {P : Program} {f : FuncId} {N a : Int} {up : List Int} {K : V → List Obj → List Obj → Prop} (h : AC P f [latV N up, iv a] [] fun v o n => (v.noIs = true ∧ noIsO o = true ∧ noIsO n = true) ∧ K v (o ++ [upO up]) n) :
    AC P f [latL N up, iv a] [upO up] K := AC.borrow (objs := []) (lendLat (.cons (.same List.not_mem_nil) .nil)) (fun _ h => nomatch h) h
theorem AC.lat2 {P : Program} {f : FuncId} {N a b : Int} {up : List Int} {K : V → List Obj → List Obj → Prop} (h : AC P f [latV N up, iv a, iv b] [] fun v o n => (v.noIs = true ∧ noIsO o = true ∧ noIsO n = true) ∧ K v (o ++ [upO up]) n) :
    AC P f [latL N up, iv a, iv b] [upO up] K := AC.borrow (objs := []) (lendLat (.cons (.same List.not_mem_nil) (.cons (.same List.not_mem_nil) .nil))) (fun _ h => nomatch h) h

end Go.Eng.T
