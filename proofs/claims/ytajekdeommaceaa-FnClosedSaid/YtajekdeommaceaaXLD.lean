import Derived.Test.YtajekdeommaceaaXLatTh
import Derived.Test.YtajekdeommaceaaXLA
import Derived.Test.YtajekdeommaceaaXL18
import Derived.Test.YtajekdeommaceaaXEng26
namespace Go.Eng.T
open Go.Proofs Go.Eng
set_option maxRecDepth 100000

/-- The labels below k that are at or below c. -/
def downL (up : List Int) (c : Int) (k : Nat) : List Int := ((List.range k).filter fun (a : Nat) => bit (up.getD a default) c).map fun (a : Nat) => (a : Int)
theorem downL_zero {up : List Int} {c : Int} : downL up c 0 = [] := rfl
theorem downL_succ {up : List Int} {c : Int} {k : Nat} : downL up c (k + 1) = if bit (up.getD k default) c then downL up c k ++ [(k : Int)] else downL up c k := by
  unfold downL
  rw [List.range_succ, List.filter_append, List.map_append, List.filter_cons]
  split <;> simp
theorem downL_len {up : List Int} {c : Int} : ∀ {k : Nat}, (downL up c k).length ≤ k
  | 0 => by simp [downL_zero]
  | k + 1 => by
    have := downL_len (up := up) (c := c) (k := k)
    rw [downL_succ]; split
    · simp; omega
    · omega
theorem downL_mem {up : List Int} {c x : Int} {k : Nat} : x ∈ downL up c k ↔ 0 ≤ x ∧ x < k ∧ bit (up.getD x.toNat default) c = true := by
  simp only [downL, List.mem_map, List.mem_filter, List.mem_range]
  constructor
  · rintro ⟨a, ⟨h1, h2⟩, rfl⟩
    exact ⟨by omega, by omega, by rw [Int.toNat_natCast]; exact h2⟩
  · rintro ⟨h1, h2, h3⟩
    exact ⟨x.toNat, ⟨by omega, h3⟩, by omega⟩
theorem downL_sorted {up : List Int} {c : Int} {k : Nat} : (downL up c k).Pairwise (· < ·) := by
  unfold downL
  rw [List.pairwise_map]
  exact (List.pairwise_lt_range.filter _).imp fun h => by omega
theorem getD_mem {l : List Int} {i : Nat} (h : i < l.length) : l.getD i default ∈ l := by
  rw [List.getD_eq_getElem?_getD, List.getElem?_eq_getElem h]; exact List.getElem_mem h
theorem getD_lt {l : List Int} (h : l.Pairwise (· < ·)) {i j : Nat} (hij : i < j) (hj : j < l.length) : l.getD i default < l.getD j default := by
  rw [List.getD_eq_getElem?_getD, List.getD_eq_getElem?_getD, List.getElem?_eq_getElem hj, List.getElem?_eq_getElem (by omega)]
  exact List.pairwise_iff_getElem.1 h i j (by omega) hj hij

def joinL (N : Nat) (up : List Int) (s : Int) (l : List Int) : Int := l.foldl (fun x y => bound N up x y true) s
theorem joinL_ok {N : Nat} {up : List Int} (h : LatI N up) {c : Int} (hc : 0 ≤ c ∧ c < N) : ∀ (l : List Int) (s : Int), (∀ x ∈ l, (0 ≤ x ∧ x < N) ∧ bit (up.getD x.toNat default) c = true) → 0 ≤ s → s < N → bit (up.getD s.toNat default) c = true →
    (0 ≤ joinL N up s l ∧ joinL N up s l < N) ∧ bit (up.getD (joinL N up s l).toNat default) c = true ∧ bit (up.getD s.toNat default) (joinL N up s l) = true ∧ ∀ x ∈ l, bit (up.getD x.toNat default) (joinL N up s l) = true
  | [], s, _, s0, s1, hs => ⟨⟨s0, s1⟩, hs, by simpa [side, joinL] using side_refl (u := true) h ⟨s0, s1⟩, fun _ hx => nomatch hx⟩
  | y :: l, s, hl, s0, s1, hs => by
    obtain ⟨hy, hyc⟩ := hl y List.mem_cons_self
    have hb := (h.2.2.2.2.2 s y s0 s1 hy.1 hy.2).1
    rw [Int.toNat_natCast] at hb
    obtain ⟨b1, b2, b3, b4⟩ := bound_ok hb
    simp only [side, if_true] at b2 b3 b4
    obtain ⟨j1, j2, j3, j4⟩ := joinL_ok h hc l (bound N up s y true) (fun x hx => hl x (List.mem_cons_of_mem _ hx)) hb b1 (b4 c hc.1 hc.2 hs hyc)
    have tr : ∀ {x}, 0 ≤ x ∧ x < (N : Int) → bit (up.getD x.toNat default) (bound N up s y true) = true → bit (up.getD x.toNat default) (joinL N up s (y :: l)) = true := fun hx hxb => by
      have := side_trans (u := true) h hx ⟨hb, b1⟩ j1 (by simpa [side] using hxb) (by simpa [side] using j3)
      simp only [side, if_true] at this
      exact this
    refine ⟨j1, j2, tr ⟨s0, s1⟩ b2, fun x hx => ?_⟩
    rcases List.mem_cons.1 hx with rfl | hx
    · exact tr hy b3
    · exact j4 x hx

theorem joinL_down {N : Nat} {up : List Int} (h : LatI N up) {c : Int} (hc : 0 ≤ c ∧ c < N) : joinL N up (endTo N up false N) (downL up c N) = c := by
  have h1 := endTo_ok (u := false) h N (Nat.le_refl _)
  have h2 := endTo_side (u := false) h N (Nat.le_refl _) c hc.1 hc.2
  simp only [side, Bool.false_eq_true, if_false] at h2
  obtain ⟨j1, j2, j3, j4⟩ := joinL_ok h hc (downL up c N) (endTo N up false N) (fun x hx => by have := downL_mem.1 hx; exact ⟨⟨this.1, this.2.1⟩, this.2.2⟩) h1.1 h1.2 h2
  have h5 : c ∈ downL up c N := downL_mem.2 ⟨hc.1, hc.2, by simpa [side] using side_refl (u := true) h hc⟩
  exact side_anti (u := true) h j1 hc (by simpa [side] using j2) (by simpa [side] using j4 c h5)
theorem joinL_in {N : Nat} {up : List Int} (h : LatI N up) : ∀ (l : List Int) (s : Int), (∀ x ∈ l, 0 ≤ x ∧ x < (N : Int)) → 0 ≤ s → s < N → 0 ≤ joinL N up s l ∧ joinL N up s l < N
  | [], s, _, s0, s1 => ⟨s0, s1⟩
  | y :: l, s, hl, s0, s1 => by
    have hy := hl y List.mem_cons_self
    have hb := (h.2.2.2.2.2 s y s0 s1 hy.1 hy.2).1
    rw [Int.toNat_natCast] at hb
    exact joinL_in h l _ (fun x hx => hl x (List.mem_cons_of_mem _ hx)) hb (bound_ok hb).1
theorem joinL_snoc {N : Nat} {up : List Int} {s y : Int} {l : List Int} : joinL N up s (l ++ [y]) = bound N up (joinL N up s l) y true := by simp [joinL, List.foldl_append]
end Go.Eng.T

namespace Go.Eng.T
open Go.Proofs Go.Eng
set_option maxRecDepth 100000
set_option maxHeartbeats 0

abbrev nilS : V := .lit (.slice none 0 0)
/-- Loops at which a row that has grown goes over to its standing number. -/
def swF (ob : Store) (k : Key) : List Nat → List (Key × Key)
  | [] => []
  | s :: l => match ob (s, 0) with
    | some _ => [((s, 0), k)]
    | none => swF ob k l
def swL (l : List (Nat × Key × List Nat)) : Nat → Store → List (Key × Key) := fun n ob => match l with
  | [] => []
  | (m, k, ss) :: l => bif Nat.beq m n then swF ob k ss else swL l n ob

def annDown : Ann := { imm := immL [(53, [1])], keep := keepL [(5, [1, 2, 5, 14, 15], [(4, 0), (27, 1)])], sw := swL [(5, (27, 1), [27, 14])] }
abbrev downS (M : Nat) (up : List Int) (c a : Int) (l : List Int) : St :=
  ⟨[.un, iv c, .lp (4, 0) 2 0 0, .un, .un, .ls (27, 1) 1 0 l.length] ++ List.replicate 8 .un ++ [iv M, iv a] ++ List.replicate 12 .un, mkOb [((4, 0), some (.arr false 2 [latV M up])), ((27, 1), some (.arr true 1 (l.map iv)))]⟩

theorem LatDownI.ac (N : Int) (up : List Int) (c : Int) {K : V → List Obj → List Obj → Prop} (hK1 : (LatI N up ∧ 0 ≤ c ∧ c < N) → K (.ls (1, 0) 1 0 (downL up c N.toNat).length) [] [.arr true 1 ((downL up c N.toNat).map iv)]) (hK0 : ¬ (LatI N up ∧ 0 ≤ c ∧ c < N) → K nilS [] []) : AC Try.prog 25 [latV N up, iv c] [] K := by
  refine ac_body annDown [((4, 0), true), ((11, 0), true), ((14, 0), true), ((26, 0), true), ((27, 0), false), ((27, 1), false)] hm htt Try.func25 rfl (by kernel_rfl) rfl rfl ?_
  conv => whnf
  refine areLabels.ac _ _ [c] (by simp) fun r hr => ?_
  conv => whnf
  have e : (LatI N up ∧ ∀ x ∈ [c], 0 ≤ x ∧ x < N) ↔ (LatI N up ∧ (0 ≤ c ∧ c < N)) := by simp
  rw [e] at hr
  cases r
  · conv => whnf
    exact hK0 fun h => by have := hr.2 h; cases this
  conv => whnf
  have hL := hr.1 rfl
  obtain ⟨M, rfl⟩ : ∃ M : Nat, N = M := ⟨N.toNat, by have := hL.1.1; omega⟩
  have hl : (up.map uv).length = M := by rw [List.length_map]; have := hL.1.2.2.1; omega
  have hM := hL.1.2.1
  rw [Int.toNat_natCast] at hK1
  refine cwF_loop (fun n st => ∃ (a : Int) (l : List Int), (n = (M - a).toNat ∧ 0 ≤ a ∧ a ≤ M ∧ downL up c a.toNat = l) ∧ st = downS M up c a l) M (by kernel_rfl) ⟨0, [], ?_, rfl⟩ ?_
  · exact ⟨by simp, by omega, by omega, rfl⟩
  rintro n st ⟨a, l, ⟨rfl, a1, a2, el⟩, rfl⟩
  have ll := downL_len (up := up) (c := c) (k := a.toNat)
  rw [el] at ll
  conv => whnf
  refine vif_dec (fun a4 => ?_) (fun a4 => ?_)
  · conv => whnf
    refine le.ac _ _ a c (by omega) (by omega) fun w1 r1 => ?_
    have es : downL up c (a + 1).toNat = if w1 then l ++ [a] else l := by
      rw [show (a + 1).toNat = a.toNat + 1 by omega, downL_succ, r1, show ((a.toNat : Nat) : Int) = a by omega, el]
    conv => whnf
    cases w1
    · conv => whnf
      refine ⟨by kernel_rfl, (M - (a + 1)).toNat, by omega, _, l, ?_, rfl⟩
      rw [wrap_i64 (by omega)]; exact ⟨rfl, by omega, by omega, es⟩
    · conv => whnf
      refine ⟨⟨by decide, rfl, rfl, by rw [List.length_map]; omega, ⟨by show (_ + 1) * 8 ≤ _; omega, by show _ + 1 ≤ _; omega⟩, rfl, by decide⟩, fun l' es' hl he => ?_⟩
      obtain rfl : es' = (l ++ [a]).map iv := by rw [he, List.drop_zero, List.take_of_length_le (by simp), List.map_append]; rfl
      obtain rfl : l' = (l ++ [a]).length := by rw [hl]; simp
      conv => whnf
      refine ⟨by kernel_rfl, (M - (a + 1)).toNat, by omega, _, l ++ [a], ?_, rfl⟩
      rw [wrap_i64 (by omega)]; exact ⟨rfl, by omega, by omega, es⟩
  · conv => whnf
    have eA : a = M := by omega
    subst eA
    rw [Int.toNat_natCast] at el
    subst el
    exact hK1 hL
end Go.Eng.T

namespace Go.Eng.T
open Go.Proofs Go.Eng
set_option maxRecDepth 100000
set_option maxHeartbeats 0

def annDownS : Ann := { imm := immL [], keep := keepL [(3, [1, 2, 5, 6], [(4, 0), (31, 1)])], sw := swL [(3, (31, 1), [31, 9])] }
abbrev downSS (N : Int) (up : List Int) (c a : Int) (l : List Int) : St :=
  ⟨[.un, iv c, .lp (4, 0) 2 0 0, .un, .un, .ls (31, 1) 1 0 l.length, iv a] ++ List.replicate 24 .un, mkOb [((4, 0), some (.arr false 2 [latV N up])), ((31, 1), some (.arr true 1 (l.map iv)))]⟩

theorem LatDownS.ac (N : Int) (up : List Int) (c : Int) {K : V → List Obj → List Obj → Prop} (hK1 : (LatP N up ∧ 0 ≤ c ∧ c < N) → K (.ls (1, 0) 1 0 (downL up c N.toNat).length) [] [.arr true 1 ((downL up c N.toNat).map iv)]) (hK0 : ¬ (LatP N up ∧ 0 ≤ c ∧ c < N) → K (.ls (1, 0) 1 0 0) [] [.arr true 1 []]) : AC Try.prog 27 [latV N up, iv c] [] K := by
  refine ac_body annDownS [((4, 0), true), ((9, 0), true), ((30, 0), true), ((31, 0), false), ((31, 1), false)] hm htt Try.func27 rfl (by kernel_rfl) rfl rfl ?_
  conv => whnf
  refine cwF_loop (fun n st => ∃ (a : Int) (l : List Int), (n = (N - a).toNat ∧ 0 ≤ a ∧ (a = 0 ∨ LatP N up ∧ (0 ≤ c ∧ c < N) ∧ a ≤ N) ∧ downL up c a.toNat = l) ∧ st = downSS N up c a l) N.toNat (by kernel_rfl) ⟨0, [], ?_, rfl⟩ ?_
  · exact ⟨by simp, by omega, .inl rfl, rfl⟩
  rintro n st ⟨a, l, ⟨rfl, a1, a2, el⟩, rfl⟩
  have ll := downL_len (up := up) (c := c) (k := a.toNat)
  rw [el] at ll
  conv => whnf
  refine l01Label.ac _ _ _ fun r hr => ?_
  conv => whnf
  cases r
  · conv => whnf
    have no : ¬ (LatP N up ∧ 0 ≤ c ∧ c < N) := fun h => by have := hr.2 h; cases this
    obtain rfl : a = 0 := by
      rcases a2 with h | h
      · exact h
      · exact absurd ⟨h.1, h.2.1⟩ no
    obtain rfl : l = [] := by rw [← el]; rfl
    exact hK0 no
  have hL := hr.1 rfl
  obtain ⟨M, rfl⟩ : ∃ M : Nat, N = M := ⟨N.toNat, by have := hL.1.1; omega⟩
  have hl : (up.map uv).length = M := by rw [List.length_map]; have := hL.1.2.2.1; omega
  have hM := hL.1.2.1
  rw [Int.toNat_natCast] at hK1
  have a5 : a ≤ M := by omega
  conv => whnf
  refine vif_dec (fun a4 => ?_) (fun a4 => ?_)
  · conv => whnf
    refine ⟨⟨rfl, by omega, by omega⟩, ?_⟩
    conv => whnf
    refine ⟨_, map_get (by omega), ?_⟩
    conv => whnf
    refine l01Bit.ac _ _ fun w1 r1 => ?_
    have es : downL up c (a + 1).toNat = if w1 then l ++ [a] else l := by
      rw [show (a + 1).toNat = a.toNat + 1 by omega, downL_succ, r1, show ((a.toNat : Nat) : Int) = a by omega, el]
    conv => whnf
    cases w1
    · conv => whnf
      refine ⟨by kernel_rfl, (M - (a + 1)).toNat, by omega, _, l, ?_, rfl⟩
      rw [wrap_i64 (by omega)]; exact ⟨rfl, by omega, .inr ⟨hL.1, hL.2, by omega⟩, es⟩
    · conv => whnf
      refine ⟨⟨by decide, rfl, rfl, by rw [List.length_map]; omega, ⟨by show (_ + 1) * 8 ≤ _; omega, by show _ + 1 ≤ _; omega⟩, rfl, by decide⟩, fun l' es' hl he => ?_⟩
      obtain rfl : es' = (l ++ [a]).map iv := by rw [he, List.drop_zero, List.take_of_length_le (by simp), List.map_append]; rfl
      obtain rfl : l' = (l ++ [a]).length := by rw [hl]; simp
      conv => whnf
      refine ⟨by kernel_rfl, (M - (a + 1)).toNat, by omega, _, l ++ [a], ?_, rfl⟩
      rw [wrap_i64 (by omega)]; exact ⟨rfl, by omega, .inr ⟨hL.1, hL.2, by omega⟩, es⟩
  · conv => whnf
    have eA : a = M := by omega
    subst eA
    rw [Int.toNat_natCast] at el
    subst el
    exact hK1 hL

theorem same.ac (a b : List Int) (ha : a.length ≤ 1000000) {K : V → List Obj → List Obj → Prop} (hK : ∀ r, (r = true ↔ a = b) → K (bv r) [] []) : AC Try.prog 26 [.is 1 (a.map iv), .is 1 (b.map iv)] [] K := by
  have hla : (a.map iv).length = a.length := List.length_map ..
  have hlb : (b.map iv).length = b.length := List.length_map ..
  refine ac_body (ann [(4, [0, 1, 5], [])]) [] hm htt Try.func26 rfl (by kernel_rfl) rfl rfl ?_
  conv => whnf
  refine vif_bool (fun q => ?_) (fun q => ?_)
  · conv => whnf
    exact hK false ⟨fun h => (nomatch h), fun h => by subst h; simp at q⟩
  have q1 : a.length = b.length := by simp only [bne_eq_false_iff_eq] at q; omega
  conv => whnf
  refine cwF_loop (fun n st => ∃ i : Int, (n = (a.length - i).toNat ∧ 0 ≤ i ∧ i ≤ a.length ∧ ∀ j : Nat, j < i.toNat → a.getD j default = b.getD j default) ∧
    st = ⟨[.is 1 (a.map iv), .is 1 (b.map iv), .un, .un, .un, iv i] ++ List.replicate 20 .un, mkOb []⟩) a.length (by kernel_rfl) ⟨0, ?_, rfl⟩ ?_
  · exact ⟨by simp, by omega, by omega, fun j hj => by simp at hj⟩
  rintro n st ⟨i, ⟨rfl, i1, i2, i3⟩, rfl⟩
  conv => whnf
  refine vif_dec (fun i4 => ?_) (fun i4 => ?_)
  · conv => whnf
    refine ⟨⟨rfl, by omega, by omega⟩, ?_⟩
    conv => whnf
    refine ⟨_, map_get (by omega), ?_⟩
    conv => whnf
    refine ⟨⟨rfl, by omega, by omega⟩, ?_⟩
    conv => whnf
    refine ⟨_, map_get (by omega), ?_⟩
    conv => whnf
    refine ⟨by kernel_rfl, ?_⟩
    conv => whnf
    refine vif_bool (fun q => ?_) (fun q => ?_)
    · conv => whnf
      exact hK false ⟨fun h => (nomatch h), fun h => by subst h; simp at q⟩
    · conv => whnf
      refine ⟨by kernel_rfl, (a.length - (i + 1)).toNat, by omega, _, ?_, rfl⟩
      rw [wrap_i64 (by omega)]
      refine ⟨rfl, by omega, by omega, fun j hj => ?_⟩
      rcases (by omega : j < i.toNat ∨ j = i.toNat) with h | rfl
      · exact i3 j h
      · simpa using q
  · conv => whnf
    refine hK true ⟨fun _ => ?_, fun _ => rfl⟩
    refine List.ext_getElem q1 fun j h1 h2 => ?_
    have := i3 j (by omega)
    rwa [List.getD_eq_getElem?_getD, List.getD_eq_getElem?_getD, List.getElem?_eq_getElem h1, List.getElem?_eq_getElem h2] at this

theorem joinAll.ac (M : Nat) (up ls : List Int) (hL : LatI M up) (hs : ls.length ≤ 1000000) (hr : ∀ x ∈ ls, 0 ≤ x ∧ x < (M : Int)) {K : V → List Obj → List Obj → Prop} (hK : K (iv (joinL M up (endTo M up false M) ls)) [] []) : AC Try.prog 58 [latV M up, .is 1 (ls.map iv)] [] K := by
  have hl : (ls.map iv).length = ls.length := List.length_map ..
  have hM := hL.2.1
  have hu := hL.2.2.1
  refine ac_body (ann [(3, [2, 5, 14, 15, 16], [(4, 0)])]) [((4, 0), true)] hm htt Try.func58 rfl (by kernel_rfl) rfl rfl ?_
  conv => whnf
  refine ends.ac _ _ hL fun x y hx hy => ?_
  conv => whnf
  refine cwF_loop (fun n st => ∃ i s : Int, (n = (ls.length - i).toNat ∧ 0 ≤ i ∧ i ≤ ls.length ∧ s = joinL M up (endTo M up false M) (ls.take i.toNat)) ∧
    st = ⟨[.un, .un, .lp (4, 0) 2 0 0, .un, .un, iv s] ++ List.replicate 8 .un ++ [.is 1 (ls.map iv), iv (ls.map iv).length, iv i] ++ List.replicate 9 .un, mkOb [((4, 0), some (.arr false 2 [latV M up]))]⟩) ls.length (by kernel_rfl) ⟨_, _, ?_, rfl⟩ ?_
  · exact ⟨by simp, by omega, by omega, hx⟩
  rintro n st ⟨i, s, ⟨rfl, i1, i2, i3⟩, rfl⟩
  have h0 := endTo_ok (u := false) hL M (Nat.le_refl _)
  have hs' := joinL_in hL (ls.take i.toNat) _ (fun x hx => hr x (List.mem_of_mem_take hx)) h0.1 h0.2
  rw [← i3] at hs'
  conv => whnf
  refine vif_dec (fun i4 => ?_) (fun i4 => ?_)
  · conv => whnf
    refine ⟨⟨rfl, by omega, by omega⟩, ?_⟩
    conv => whnf
    refine ⟨_, map_get (by omega), ?_⟩
    conv => whnf
    refine join.ac _ _ _ _ (by omega) (by omega) hs' (hr _ (getD_mem (by omega))) fun w hw => ?_
    conv => whnf
    refine ⟨by kernel_rfl, (ls.length - (i + 1)).toNat, by omega, _, _, ?_, rfl⟩
    rw [wrap_i64 (by omega)]
    refine ⟨rfl, by omega, by omega, ?_⟩
    rw [show (i + 1).toNat = i.toNat + 1 by omega, List.take_add_one, List.getElem?_eq_getElem (by omega), Option.toList_some, joinL_snoc, ← i3, ← hw, List.getD_eq_getElem?_getD, List.getElem?_eq_getElem (by omega)]; rfl
  · conv => whnf
    rw [List.take_of_length_le (by omega)] at i3
    subst i3
    exact hK

theorem LatJoinAllI.ac (M : Nat) (up ls : List Int) (hL : LatI M up) (hs : ls.length ≤ 1000000) (hr : ∀ x ∈ ls, 0 ≤ x ∧ x < (M : Int)) {K : V → List Obj → List Obj → Prop} (hK : K (iv (joinL M up (endTo M up false M) ls)) [] []) : AC Try.prog 28 [latV M up, .is 1 (ls.map iv)] [] K := by
  refine ac_body (ann []) [((4, 0), true)] hm htt Try.func28 rfl (by kernel_rfl) rfl rfl ?_
  conv => whnf
  refine areLabels.ac _ _ ls hs fun r h => ?_
  obtain rfl : r = true := h.2 ⟨hL, hr⟩
  conv => whnf
  refine joinAll.ac M up ls hL hs hr ?_
  conv => whnf
  exact hK

theorem DrawLatDown.ac (D : List Int) (hd : Bytes D) (hl : D.length ≤ 1048576) {K : V → List Obj → List Obj → Prop}
    (hK : ∀ N up a, (-9223372036854775808 ≤ N ∧ N ≤ 9223372036854775807) → (-9223372036854775808 ≤ a ∧ a ≤ 9223372036854775807) → 1 ≤ up.length → up.length ≤ 9 → Words up → K (.tup [latO N up, iv a]) [] [upO up]) : AC Try.prog 24 [.is 1 (D.map encB)] [] K := by
  refine ac_body (ann []) [((4, 0), true), ((9, 0), true), ((7, 0), true), ((11, 0), false)] hm htt Try.func24 rfl (by kernel_rfl) rfl rfl ?_
  conv => whnf
  refine l01Open.ac D hd hl fun s hc => ?_
  conv => whnf
  refine badLat.ac lat.ac D 0 0 s (by omega) hc fun N up p1 s1 h1 h2 h3 h4 hw hc1 => ?_
  conv => whnf
  refine ⟨by kernel_rfl, ?_⟩
  conv => whnf
  refine label.ac D 9 p1 s1 N up ⟨h1, h2⟩ (by omega) (hc1.up (by omega)) fun a p2 s2 hc2 a1 a2 => ?_
  conv => whnf
  refine ⟨by kernel_rfl, ?_⟩
  conv => whnf
  exact hK N up a ⟨h1, h2⟩ ⟨a1, a2⟩ h3 h4 hw
end Go.Eng.T
