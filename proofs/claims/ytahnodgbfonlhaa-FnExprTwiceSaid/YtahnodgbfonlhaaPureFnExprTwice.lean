/- The law FnExprTwice answers true for every code: an expression evaluated twice and subtracted from itself gives 0 or the expression's own code, is valid, and is one deeper. Conditions: none beyond the given statement's. -/
import Derived.Test.YtahnodgbfonlhaaQFnExprTwicex5
namespace Go.Proofs.Ytahnodgbfonlhaa.Pure
open Go.RowKit Go.Proofs.Ytahnodgbfonlhaa.PFnExprTwice Go.Proofs.YtahnodgbfonlhaaW.PrintWords Go.Proofs.YtahnodgbfonlhaaW.PrintLast Go.Proofs.YtahnodgbfonlhaaW.PrintMore

theorem w64 {n : Int} (h0 : -9223372036854775808 ≤ n) (h1 : n ≤ 9223372036854775807) : wrap64 n = n := by unfold wrap64; omega
theorem w64_lo (n : Int) : -9223372036854775808 ≤ wrap64 n := by unfold wrap64; omega
theorem w64_hi (n : Int) : wrap64 n ≤ 9223372036854775807 := by unfold wrap64; omega

def Cur (M a s : Int) : Prop := 0 ≤ a ∧ a ≤ M ∧ 0 ≤ s ∧ s < 65521
def Bytes (bs : List Int) : Prop := ∀ x ∈ bs, 0 ≤ x ∧ x ≤ 255
theorem rd_byte {bs : List Int} (hb : Bytes bs) (i : Int) : 0 ≤ rd bs i ∧ rd bs i ≤ 255 := by
  unfold rd
  rw [List.getD_eq_getElem?_getD]
  rcases h : bs[i.toNat]? with _ | x
  · simp
  · exact hb x (List.mem_of_getElem? h)
theorem tm {x n : Int} (hx : 0 ≤ x) (hn : 2 ≤ n) : 0 ≤ Int.tmod x n ∧ Int.tmod x n < n := by
  rw [Int.tmod_eq_emod_of_nonneg hx]
  exact ⟨Int.emod_nonneg _ (by omega), Int.emod_lt_of_pos _ (by omega)⟩
theorem pick_ev {bs : List Int} (hb : Bytes bs) {M a s : Int} (n : Int) (hc : Cur M a s) (hM : M ≤ 1099511627776) (hl : bs.length ≤ 1099511627776000) :
    ∃ v a' s', spec_l01Cur_pick.f bs a s n = some (v, a', s') ∧ 0 ≤ v ∧ (v < n ∨ v = 0) ∧ Cur (M + 1) a' s' := by
  obtain ⟨h0, h1, h2, h3⟩ := hc
  unfold spec_l01Cur_pick.f
  by_cases c1 : n < 2
  · rw [if_pos c1]; exact ⟨_, _, _, rfl, by omega, by omega, by omega, by omega, h2, h3⟩
  rw [if_neg c1]
  have ea : wrap64 (a + 1) = a + 1 := w64 (by omega) (by omega)
  by_cases c2 : a < (bs.length : Int)
  · have hr := rd_byte hb a
    have ht := tm (x := wrap64 (rd bs a)) (n := n) (by rw [w64] <;> omega) (by omega)
    rw [if_pos c2, if_pos h0, if_neg (by omega), ea]
    exact ⟨_, _, _, rfl, ht.1, Or.inl ht.2, by omega, by omega, h2, h3⟩
  rw [if_neg c2]
  have e1 : wrap64 (s * 1103) = s * 1103 := w64 (by omega) (by omega)
  have e2 : wrap64 (s * 1103 + 12345) = s * 1103 + 12345 := w64 (by omega) (by omega)
  simp only [e1, e2, ea]
  have hm := tm (x := s * 1103 + 12345) (n := 65521) (by omega) (by omega)
  generalize Int.tmod (s * 1103 + 12345) 65521 = q at hm ⊢
  by_cases c3 : (bs.length : Int) > 0
  · have hd : 0 ≤ Int.tmod a (bs.length : Int) ∧ Int.tmod a (bs.length : Int) < (bs.length : Int) := by
      rw [Int.tmod_eq_emod_of_nonneg h0]
      exact ⟨Int.emod_nonneg _ (by omega), Int.emod_lt_of_pos _ (by omega)⟩
    have hr := rd_byte hb (Int.tmod a (bs.length : Int))
    have hq : 0 ≤ Int.tdiv q 7 ∧ Int.tdiv q 7 ≤ 65521 := by
      rw [Int.tdiv_eq_ediv_of_nonneg hm.1]; omega
    have ht := tm (x := wrap64 (wrap64 (Int.tdiv q 7) + wrap64 (rd bs (Int.tmod a (bs.length : Int))))) (n := n) (by rw [w64 (n := Int.tdiv q 7), w64 (n := rd bs _), w64] <;> omega) (by omega)
    rw [if_pos c3, if_neg (by omega), if_pos hd.1, if_pos hd.2, if_neg (by omega)]
    exact ⟨_, _, _, rfl, ht.1, Or.inl ht.2, by omega, by omega, hm.1, hm.2⟩
  · rw [if_neg c3, if_neg (by omega)]
    exact ⟨_, _, _, rfl, by simp, Or.inr (by simp), by omega, by omega, hm.1, hm.2⟩
theorem raw_ev {bs : List Int} (hb : Bytes bs) {M a s : Int} (hc : Cur M a s) (hM : M ≤ 1099511600000) (hl : bs.length ≤ 1099511627776000) :
    ∃ v a' s', spec_l01Cur_raw.f bs a s = some (v, a', s') ∧ -9223372036854775808 ≤ v ∧ v ≤ 9223372036854775807 ∧ Cur (M + 2) a' s' := by
  unfold spec_l01Cur_raw.f
  obtain ⟨v, a1, s1, e, hv, hv', hc1⟩ := pick_ev hb 8 hc (by omega) hl
  rw [e]; simp only [Option.bind_some]
  by_cases c0 : v = 0
  · rw [if_pos c0]
    obtain ⟨v2, a2, s2, e2, hv2, hv2', hc2⟩ := pick_ev hb 256 hc1 (by omega) hl
    rw [e2]; simp only [Option.bind_some]
    exact ⟨_, _, _, rfl, w64_lo _, w64_hi _, by unfold Cur at hc2 ⊢; omega⟩
  rw [if_neg c0]
  by_cases c1 : v = 1
  · rw [if_pos c1]
    obtain ⟨v2, a2, s2, e2, hv2, hv2', hc2⟩ := pick_ev hb 8 hc1 (by omega) hl
    rw [e2]; simp only [Option.bind_some]
    rw [if_pos hv2, if_pos (by simp; omega)]
    refine ⟨_, _, _, rfl, ?_, ?_, by unfold Cur at hc2 ⊢; omega⟩
    all_goals
      have : v2 = 0 ∨ v2 = 1 ∨ v2 = 2 ∨ v2 = 3 ∨ v2 = 4 ∨ v2 = 5 ∨ v2 = 6 ∨ v2 = 7 := by omega
      rcases this with rfl | rfl | rfl | rfl | rfl | rfl | rfl | rfl <;> decide
  rw [if_neg c1]
  obtain ⟨v2, a2, s2, e2, hv2, hv2', hc2⟩ := pick_ev hb 14 hc1 (by omega) hl
  rw [e2]; simp only [Option.bind_some]
  exact ⟨_, _, _, rfl, w64_lo _, w64_hi _, by unfold Cur at hc2 ⊢; omega⟩

/-! the draws -/
theorem Cur.mono {M M' a s : Int} (h : Cur M a s) (hM : M ≤ M') : Cur M' a s := by unfold Cur at *; omega
theorem once_ev {bs : List Int} (hb : Bytes bs) {M a s : Int} (n : Int) (hc : Cur M a s) (hM : M ≤ 1099511000000) (hl : bs.length ≤ 1099511627776000) :
    ∃ b a' s', spec_l01Cur_once.f bs a s n = some (b, a', s') ∧ Cur (M + 1) a' s' := by
  unfold spec_l01Cur_once.f
  obtain ⟨v, a1, s1, e, hv, hv', hc1⟩ := pick_ev hb n hc (by omega) hl
  rw [e, Option.bind_some]
  exact ⟨_, _, _, rfl, hc1⟩
theorem takes_ev (op : Int) : ∃ t, spec_l03Takes.f op = some t ∧ 0 ≤ t ∧ t ≤ 2 := by
  unfold spec_l03Takes.f
  split
  · exact ⟨_, rfl, by omega, by omega⟩
  split
  · exact ⟨_, rfl, by omega, by omega⟩
  · exact ⟨_, rfl, by omega, by omega⟩
theorem tok_ev {bs : List Int} (hb : Bytes bs) {M a s : Int} (n : Int) {k : Nat} (hk : 3 < k) (hc : Cur M a s) (hM : M ≤ 1000000) (hl : bs.length ≤ 1099511627776000) :
    ∃ x y a' s', spec_l01Cur_tok.f k bs a s n = some (x, y, a', s') ∧ Cur (M + 12) a' s' := by
  have h1 : ∀ (k : Nat) (x : Bool) (M a s : Int), 1 < k → Cur M a s → M ≤ 1000010 → ∃ x' y' a' s', spec_l01Cur_tok.j1 k x bs a s = some (x', y', a', s') ∧ Cur (M + 6) a' s' := by
    intro k x M a s hk hc hM
    obtain ⟨k, rfl⟩ : ∃ m, k = m + 1 := ⟨k - 1, by omega⟩
    rw [spec_l01Cur_tok.j1]
    by_cases c : x = true
    · rw [if_pos c]; exact ⟨_, _, _, _, rfl, hc.mono (by omega)⟩
    rw [if_neg c]
    obtain ⟨b, a1, s1, e, hc1⟩ := once_ev hb 2 hc (by omega) hl
    rw [e, Option.bind_some]; dsimp only
    by_cases cb : b = true
    · rw [if_pos cb]
      obtain ⟨v, a2, s2, e2, _, _, hc2⟩ := pick_ev hb 3 hc1 (by omega) hl
      rw [e2, Option.bind_some]
      exact ⟨_, _, _, _, rfl, hc2.mono (by omega)⟩
    rw [if_neg cb]
    obtain ⟨v, a2, s2, e2, _, _, hc2⟩ := pick_ev hb 5 hc1 (by omega) hl
    rw [e2, Option.bind_some]; dsimp only
    obtain ⟨v3, a3, s3, e3, _, _, hc3⟩ := raw_ev hb hc2 (by omega) hl
    rw [e3, Option.bind_some, Option.bind_some]; dsimp only
    obtain ⟨v4, a4, s4, e4, hv4, hv4', hc4⟩ := pick_ev hb 2 hc3 (by omega) hl
    rw [e4, Option.bind_some]; dsimp only
    rw [if_pos hv4, if_pos (by simp; omega)]
    exact ⟨_, _, _, _, rfl, hc4.mono (by omega)⟩
  have h0 : ∀ (k : Nat) (x : Bool) (M a s : Int), 2 < k → Cur M a s → M ≤ 1000005 → ∃ x' y' a' s', spec_l01Cur_tok.j0 k n x bs a s = some (x', y', a', s') ∧ Cur (M + 8) a' s' := by
    intro k x M a s hk hc hM
    obtain ⟨k, rfl⟩ : ∃ m, k = m + 1 := ⟨k - 1, by omega⟩
    rw [spec_l01Cur_tok.j0]
    by_cases c : x = true
    · rw [if_pos c]
      by_cases c2 : n > 0
      · rw [if_pos c2]
        obtain ⟨b, a1, s1, e, hc1⟩ := once_ev hb 5 hc (by omega) hl
        rw [e, Option.bind_some]; dsimp only
        obtain ⟨x', y', a', s', e1, hc'⟩ := h1 k b _ a1 s1 (by omega) hc1 (by omega)
        exact ⟨x', y', a', s', e1, hc'.mono (by omega)⟩
      · rw [if_neg c2]
        obtain ⟨x', y', a', s', e1, hc'⟩ := h1 k false _ a s (by omega) hc (by omega)
        exact ⟨x', y', a', s', e1, hc'.mono (by omega)⟩
    · rw [if_neg c]
      obtain ⟨v, a2, s2, e2, _, _, hc2⟩ := pick_ev hb 7 hc (by omega) hl
      rw [e2, Option.bind_some]
      exact ⟨_, _, _, _, rfl, hc2.mono (by omega)⟩
  unfold spec_l01Cur_tok.f
  by_cases c : n < 2
  · rw [if_pos c]
    obtain ⟨x', y', a', s', e1, hc'⟩ := h0 k true _ a s (by omega) hc (by omega)
    exact ⟨x', y', a', s', e1, hc'.mono (by omega)⟩
  · rw [if_neg c]
    obtain ⟨b, a1, s1, e, hc1⟩ := once_ev hb 3 hc (by omega) hl
    rw [e, Option.bind_some]; dsimp only
    obtain ⟨x', y', a', s', e1, hc'⟩ := h0 k b _ a1 s1 (by omega) hc1 (by omega)
    exact ⟨x', y', a', s', e1, hc'.mono (by omega)⟩
theorem expr_l1 {bs : List Int} (hb : Bytes bs) (hl : bs.length ≤ 1099511627776000) (d : Nat) : ∀ (k : Nat) (xs : List S72) (n M a s : Int), n ≤ d → d < k → xs ≠ [] → xs.length + d ≤ 100 → -1000 ≤ n → Cur M a s → M + d ≤ 1000100 →
    ∃ ys a' s', spec_l01Cur_expr.l1 k xs n bs a s = some (ys, a', s') ∧ ys ≠ [] ∧ ys.length ≤ 100 ∧ Cur (M + d) a' s' := by
  induction d with
  | zero =>
    intro k xs n M a s hn hk hx hxl hn0 hc hM
    obtain ⟨k, rfl⟩ : ∃ m, k = m + 1 := ⟨k - 1, by omega⟩
    rw [spec_l01Cur_expr.l1, if_neg (by omega)]
    exact ⟨_, _, _, rfl, hx, by omega, hc.mono (by omega)⟩
  | succ d ih =>
    intro k xs n M a s hn hk hx hxl hn0 hc hM
    obtain ⟨k, rfl⟩ : ∃ m, k = m + 1 := ⟨k - 1, by omega⟩
    rw [spec_l01Cur_expr.l1]
    by_cases c : n > 1
    · rw [if_pos c]
      obtain ⟨v, a1, s1, e, _, _, hc1⟩ := pick_ev hb 7 hc (by omega) hl
      rw [e, Option.bind_some, if_pos (by omega), w64 (n := n - 1) (by omega) (by omega)]
      obtain ⟨ys, a', s', h, h2, h3, h4⟩ := ih k (xs ++ [⟨wrap64 (4 + v), 0⟩]) (n - 1) (M + 1) a1 s1 (by omega) (by omega) (by simp) (by simp; omega) (by omega) hc1 (by omega)
      exact ⟨ys, a', s', h, h2, h3, h4.mono (by omega)⟩
    · rw [if_neg c]
      exact ⟨_, _, _, rfl, hx, by omega, hc.mono (by omega)⟩
theorem expr_l0 {bs : List Int} (hb : Bytes bs) (hl : bs.length ≤ 1099511627776000) (d : Nat) : ∀ (k : Nat) (xs : List S72) (n M a s : Int), n + d ≤ 10 → 20 + d < k → (xs = [] → n = 0) → xs.length + d ≤ 20 → -100 ≤ n - d → Cur M a s → M + 12 * d ≤ 1000 →
    ∃ ys a' s', spec_l01Cur_expr.l0 k xs n (d : Int) bs a s = some (ys, a', s') ∧ ys ≠ [] ∧ ys.length ≤ 100 ∧ Cur (M + 12 * d + 10) a' s' := by
  induction d with
  | zero =>
    intro k xs n M a s hn hk hx hxl hn0 hc hM
    obtain ⟨k, rfl⟩ : ∃ m, k = m + 1 := ⟨k - 1, by omega⟩
    rw [spec_l01Cur_expr.l0, if_neg (by omega)]
    by_cases c : n = 0
    · rw [if_pos c, if_pos (by omega)]
      exact ⟨_, _, _, rfl, by simp, by simp; omega, hc.mono (by omega)⟩
    · rw [if_neg c]
      obtain ⟨ys, a', s', h, h2, h3, h4⟩ := expr_l1 hb hl 10 k xs n M a s (by omega) (by omega) (fun h => c (hx h)) (by omega) (by omega) hc (by omega)
      exact ⟨ys, a', s', h, h2, h3, h4.mono (by omega)⟩
  | succ d ih =>
    intro k xs n M a s hn hk hx hxl hn0 hc hM
    obtain ⟨k, rfl⟩ : ∃ m, k = m + 1 := ⟨k - 1, by omega⟩
    rw [spec_l01Cur_expr.l0, if_pos (by omega)]
    obtain ⟨x, y, a1, s1, e, hc1⟩ := tok_ev hb n (k := k) (by omega) hc (by omega) hl
    obtain ⟨t, ht, ht0, ht2⟩ := takes_ev x
    rw [e, Option.bind_some]; dsimp only
    rw [ht, Option.bind_some, if_pos (by omega), w64 (n := n - t) (by omega) (by omega), w64 (n := n - t + 1) (by omega) (by omega), show wrap64 (((d + 1 : Nat) : Int) - 1) = (d : Int) from by rw [w64] <;> omega]
    obtain ⟨ys, a', s', h, h2, h3, h4⟩ := ih k (xs ++ [⟨x, y⟩]) (n - t + 1) (M + 12) a1 s1 (by omega) (by omega) (by simp) (by simp; omega) (by omega) hc1 (by omega)
    exact ⟨ys, a', s', h, h2, h3, h4.mono (by omega)⟩
theorem badExpr_ev {bs : List Int} (hb : Bytes bs) {M a s : Int} {k : Nat} (hk : 40 < k) (hc : Cur M a s) (hM : M ≤ 100) (hl : bs.length ≤ 1099511627776000) :
    ∃ xs a' s', spec_l01Cur_badExpr.f k bs a s = some (xs, a', s') ∧ xs.length ≤ 200 ∧ Cur (M + 130) a' s' := by
  unfold spec_l01Cur_badExpr.f spec_l01Cur_expr.f
  obtain ⟨v, a1, s1, e, hv, hv', hc1⟩ := pick_ev hb 8 hc (by omega) hl
  rw [e, Option.bind_some]; dsimp only
  obtain ⟨d, rfl⟩ := Int.eq_ofNat_of_zero_le hv
  obtain ⟨xs, a2, s2, e2, hx, hxl, hc2⟩ := expr_l0 hb hl d k [] 0 _ a1 s1 (by omega) (by omega) (by simp) (by simp; omega) (by omega) hc1 (by omega)
  have hc2 := hc2.mono (show _ ≤ M + 95 by omega)
  rw [e2, Option.bind_some]; dsimp only
  have hpos : 0 < xs.length := List.length_pos_iff.2 hx
  obtain ⟨v3, a3, s3, e3, hv3, hv3', hc3⟩ := pick_ev hb 12 hc2 (by omega) hl
  rw [e3, Option.bind_some]; dsimp only
  by_cases c0 : v3 = 0
  · rw [if_pos c0]
    obtain ⟨v4, a4, s4, e4, hv4, hv4', hc4⟩ := pick_ev hb 12 hc3 (by omega) hl
    rw [e4, Option.bind_some, if_pos (by omega)]
    exact ⟨_, _, _, rfl, by simp; omega, hc4.mono (by omega)⟩
  rw [if_neg c0]
  obtain ⟨v4, a4, s4, e4, hv4, hv4', hc4⟩ := pick_ev hb (xs.length : Int) hc3 (by omega) hl
  obtain ⟨v5, a5, s5, e5, _, _, hc5⟩ := raw_ev hb hc4 (by omega) hl
  by_cases c1 : v3 = 1
  · rw [if_pos c1, e4, Option.bind_some]; dsimp only
    rw [e5, Option.bind_some, Option.bind_some]; dsimp only
    obtain ⟨v6, a6, s6, e6, hv6, hv6', hc6⟩ := pick_ev hb 3 hc5 (by omega) hl
    rw [e6, Option.bind_some]; dsimp only
    rw [if_pos hv6, if_pos (by simp; omega), if_pos hv4, if_pos (by omega)]
    exact ⟨_, _, _, rfl, by simp; omega, hc6.mono (by omega)⟩
  rw [if_neg c1]
  by_cases c2 : v3 = 2
  · rw [if_pos c2, e4, Option.bind_some]; dsimp only
    rw [e5, Option.bind_some]; dsimp only
    rw [if_pos hv4, if_pos (by omega)]
    exact ⟨_, _, _, rfl, by simp; omega, hc5.mono (by omega)⟩
  rw [if_neg c2]
  by_cases c3 : v3 = 3
  · have hm : 0 ≤ 20 - mn 20 (xs.length : Int) ∧ 20 - mn 20 (xs.length : Int) ≤ 20 := by unfold mn; split <;> omega
    rw [if_pos c3, if_pos hm.1, if_pos (by omega)]
    exact ⟨_, _, _, rfl, by simp; omega, hc3.mono (by omega)⟩
  rw [if_neg c3]
  exact ⟨_, _, _, rfl, by omega, hc3.mono (by omega)⟩
theorem elem_ev {bs : List Int} (hb : Bytes bs) {M a s : Int} (hc : Cur M a s) (hM : M ≤ 100000) (hl : bs.length ≤ 1099511627776000) :
    ∃ x y z t a' s', spec_l01Cur_elem.f bs a s = some (x, y, z, t, a', s') := by
  unfold spec_l01Cur_elem.f
  obtain ⟨v1, a1, s1, e1, _, _, hc1⟩ := pick_ev hb 3 hc (by omega) hl
  rw [e1, Option.bind_some]; dsimp only
  obtain ⟨v2, a2, s2, e2, _, _, hc2⟩ := pick_ev hb 4 hc1 (by omega) hl
  rw [e2, Option.bind_some]; dsimp only
  obtain ⟨v3, a3, s3, e3, _, _, hc3⟩ := pick_ev hb 20 hc2 (by omega) hl
  rw [e3, Option.bind_some]; dsimp only
  obtain ⟨v4, a4, s4, e4, _, _, hc4⟩ := pick_ev hb 20 hc3 (by omega) hl
  rw [e4, Option.bind_some]; dsimp only
  obtain ⟨v5, a5, s5, e5, _, _, hc5⟩ := raw_ev hb hc4 (by omega) hl
  rw [e5, Option.bind_some, Option.bind_some]; dsimp only
  obtain ⟨v6, a6, s6, e6, hv6, hv6', hc6⟩ := pick_ev hb 3 hc5 (by omega) hl
  rw [e6, Option.bind_some]; dsimp only
  rw [if_pos hv6, if_pos (by simp; omega)]
  obtain ⟨v7, a7, s7, e7, _, _, _⟩ := pick_ev hb 40 hc6 (by omega) hl
  rw [e7, Option.bind_some]
  exact ⟨_, _, _, _, _, _, rfl⟩
theorem draw_ev {bs : List Int} (hb : Bytes bs) (hl : bs.length ≤ 1048576) {k : Nat} (hk : 40 < k) : ∃ xs x y z t, spec_DrawExprRun.f k bs = some (xs, x, y, z, t) ∧ xs.length ≤ 200 := by
  unfold spec_DrawExprRun.f spec_l01Open.f
  rw [Option.bind_some]; dsimp only
  have hc : Cur 0 0 (101 + (bs.length : Int) % 1000) := by unfold Cur; omega
  obtain ⟨xs, a1, s1, e, hx, hc1⟩ := badExpr_ev hb hk hc (by omega) (by omega)
  rw [e, Option.bind_some]; dsimp only
  obtain ⟨x, y, z, t, a2, s2, e2⟩ := elem_ev hb hc1 (by omega) (by omega)
  rw [e2, Option.bind_some]
  exact ⟨_, _, _, _, _, rfl, hx⟩
/-! depth -/
theorem w64s {i : Nat} (h : i ≤ 1099511627776000) : wrap64 ((i : Int) + 1) = ((i + 1 : Nat) : Int) := by rw [w64] <;> omega
theorem rdT_get {xs : List S72} {i : Nat} (h : i < xs.length) : rd_T72 xs (i : Int) = xs[i] := by
  unfold rd_T72
  rw [List.getD_eq_getElem?_getD]
  simp [List.getElem?_eq_getElem h]
theorem drop_cons {xs : List S72} {i : Nat} (h : i < xs.length) : xs.drop i = rd_T72 xs (i : Int) :: xs.drop (i + 1) := by
  rw [rdT_get h]; exact List.drop_eq_getElem_cons h
def tk (op : Int) : Int := if op ≤ 3 then 0 else if op = 11 then 1 else 2
theorem tk_bd (op : Int) : 0 ≤ tk op ∧ tk op ≤ 2 := by
  unfold tk
  split
  · omega
  · split <;> omega
theorem takes_tk (op : Int) : spec_l03Takes.f op = some (tk op) := by
  unfold spec_l03Takes.f tk
  split
  · rfl
  · split <;> rfl
theorem takes_tk2 (op n : Int) : impl_Tok_takes.f op n = some (tk op) := by
  unfold impl_Tok_takes.f tk
  split
  · rfl
  · split <;> rfl
def TOk (t : S72) (n : Int) : Prop := (0 ≤ t.f0 ∧ t.f0 ≤ 11) ∧ (t.f0 = 0 ∨ t.f1 = 0) ∧ tk t.f0 ≤ n
noncomputable def dep : List S72 → Int → Int → Int
  | [], n, m => if n = 1 then m else -1
  | t :: r, n, m => open Classical in if TOk t n then dep r (n - tk t.f0 + 1) (mx m (n - tk t.f0 + 1)) else -1
theorem specDepth_l (xs : List S72) (hx : xs.length ≤ 1000) (d : Nat) : ∀ (i k : Nat) (n m : Int), i + d = xs.length → d < k → 0 ≤ n → n ≤ i →
    spec_l03Depth.l0 k xs n m (i : Int) = some (dep (xs.drop i) n m) := by
  induction d with
  | zero =>
    intro i k n m hi hk h0 hn
    obtain ⟨k, rfl⟩ : ∃ m, k = m + 1 := ⟨k - 1, by omega⟩
    rw [spec_l03Depth.l0, if_neg (by omega), List.drop_eq_nil_of_le (by omega), dep]
    split <;> rfl
  | succ d ih =>
    intro i k n m hi hk h0 hn
    obtain ⟨k, rfl⟩ : ∃ m, k = m + 1 := ⟨k - 1, by omega⟩
    rw [spec_l03Depth.l0, if_pos (by omega), if_pos (by omega), drop_cons (by omega), dep, takes_tk, Option.bind_some, Option.bind_some]
    generalize rd_T72 xs (i : Int) = t
    have hb := tk_bd t.f0
    have hih := ih (i + 1) k (n - tk t.f0 + 1) (mx m (n - tk t.f0 + 1)) (by omega) (by omega)
    by_cases c1 : t.f0 < 0
    · rw [if_pos c1, if_neg (fun h => by have := h.1; omega)]
    rw [if_neg c1]
    by_cases c2 : t.f0 > 11
    · rw [if_pos c2, if_neg (fun h => by have := h.1; omega)]
    rw [if_neg c2]
    by_cases c4 : tk t.f0 > n
    · have hno : ¬ TOk t n := fun h => by have := h.2.2; omega
      simp only [if_pos c4, if_neg hno]
      split
      · rfl
      · split <;> rfl
    have hih := hih (by omega) (by omega)
    simp only [if_neg c4]
    rw [w64 (n := n - tk t.f0) (by omega) (by omega), w64 (n := n - tk t.f0 + 1) (by omega) (by omega), w64s (by omega), hih]
    by_cases c3 : t.f0 = 0
    · rw [if_pos c3, if_pos ⟨⟨by omega, by omega⟩, Or.inl c3, by omega⟩]
    rw [if_neg c3]
    by_cases c5 : t.f1 = 0
    · rw [if_pos c5, if_pos ⟨⟨by omega, by omega⟩, Or.inr c5, by omega⟩]
    · rw [if_neg c5, if_neg (fun h => by have := h.2.1; omega)]
theorem implDepth_l (xs : List S72) (hx : xs.length ≤ 1000) (d : Nat) : ∀ (i k : Nat) (n m : Int), i + d = xs.length → d < k → 0 ≤ n → n ≤ i →
    impl_depth.l0 k n m xs (xs.length : Int) (i : Int) = some (dep (xs.drop i) n m) := by
  induction d with
  | zero =>
    intro i k n m hi hk h0 hn
    obtain ⟨k, rfl⟩ : ∃ m, k = m + 1 := ⟨k - 1, by omega⟩
    rw [impl_depth.l0, if_neg (by omega), List.drop_eq_nil_of_le (by omega), dep]
    split <;> rfl
  | succ d ih =>
    intro i k n m hi hk h0 hn
    obtain ⟨k, rfl⟩ : ∃ m, k = m + 1 := ⟨k - 1, by omega⟩
    rw [impl_depth.l0, if_pos (by omega), if_pos (by omega), if_pos (by omega), drop_cons (by omega), dep, takes_tk2, Option.bind_some, Option.bind_some]
    generalize rd_T72 xs (i : Int) = t
    have hb := tk_bd t.f0
    have hih := ih (i + 1) k (n - tk t.f0 + 1) (mx m (n - tk t.f0 + 1)) (by omega) (by omega)
    unfold impl_in.f
    by_cases c1 : t.f0 < 0
    · rw [if_neg (show ¬ 0 ≤ t.f0 by omega), Option.bind_some, if_neg (by simp), if_neg (fun h => by have := h.1; omega)]
    rw [if_pos (show 0 ≤ t.f0 by omega), Option.bind_some]
    by_cases c2 : t.f0 > 11
    · rw [if_neg (by simp; omega), if_neg (fun h => by have := h.1; omega)]
    rw [if_pos (by simp; omega)]
    by_cases c4 : tk t.f0 > n
    · have hno : ¬ TOk t n := fun h => by have := h.2.2; omega
      simp only [if_pos (show n < tk t.f0 by omega), if_neg hno]
      split
      · rfl
      · split <;> rfl
    have hih := hih (by omega) (by omega)
    simp only [if_neg (show ¬ n < tk t.f0 by omega)]
    rw [w64 (n := 1 - tk t.f0) (by omega) (by omega), w64 (n := n + (1 - tk t.f0)) (by omega) (by omega), w64s (by omega), show n + (1 - tk t.f0) = n - tk t.f0 + 1 from by omega, hih]
    by_cases c3 : t.f0 = 0
    · rw [if_pos c3, if_pos ⟨⟨by omega, by omega⟩, Or.inl c3, by omega⟩]
    rw [if_neg c3]
    by_cases c5 : t.f1 = 0
    · rw [if_pos c5, if_pos ⟨⟨by omega, by omega⟩, Or.inr c5, by omega⟩]
    · rw [if_neg c5, if_neg (fun h => by have := h.2.1; omega)]
noncomputable def D (xs : List S72) : Int := if xs.length < 1 ∨ xs.length > 20 then -1 else dep xs 0 0
theorem specDepth_ev {xs : List S72} (hx : xs.length ≤ 1000) {k : Nat} (hk : 1100 < k) : spec_l03Depth.f k xs = some (D xs) := by
  obtain ⟨k, rfl⟩ : ∃ m, k = m + 1 := ⟨k - 1, by omega⟩
  have h := specDepth_l xs hx xs.length 0 k 0 0 (by omega) (by omega) (by omega) (by omega)
  unfold spec_l03Depth.f D
  by_cases c : (xs.length : Int) < 1
  · rw [if_pos c, spec_l03Depth.j0, if_pos rfl, if_pos (Or.inl (by omega))]
  rw [if_neg c, spec_l03Depth.j0]
  by_cases c2 : (xs.length : Int) > 20
  · rw [if_pos (by simpa using c2), if_pos (Or.inr (by omega))]
  · rw [if_neg (by simpa using c2), if_neg (by omega)]; simpa using h
theorem implDepth_ev {xs : List S72} (hx : xs.length ≤ 1000) {k : Nat} (hk : 1100 < k) : impl_depth.f k xs = some (D xs) := by
  have h := implDepth_l xs hx xs.length 0 k 0 0 (by omega) (by omega) (by omega) (by omega)
  unfold impl_depth.f D impl_in.f
  by_cases c : (xs.length : Int) < 1
  · rw [if_neg (by omega), Option.bind_some, if_neg (by simp), if_pos (Or.inl (by omega))]
  rw [if_pos (by omega), Option.bind_some]
  by_cases c2 : (xs.length : Int) > 20
  · rw [if_neg (by simp; omega), if_pos (Or.inr (by omega))]
  · rw [if_pos (by simp; omega), if_neg (by omega)]; simpa using h
noncomputable def nd : List S72 → Int → Option Int
  | [], n => some n
  | t :: r, n => open Classical in if TOk t n then nd r (n - tk t.f0 + 1) else none
def pk : List S72 → Int → Int
  | [], _ => 0
  | t :: r, n => mx (n - tk t.f0 + 1) (pk r (n - tk t.f0 + 1))
theorem mx_assoc (a b c : Int) : mx (mx a b) c = mx a (mx b c) := by
  unfold mx
  by_cases h1 : a < b <;> by_cases h2 : b < c <;> by_cases h3 : a < c <;> simp only [h1, h2, h3, if_true, if_false] <;> omega
theorem dep_eq : ∀ (x : List S72) (n m : Int), 0 ≤ m → dep x n m = if nd x n = some 1 then mx m (pk x n) else -1
  | [], n, m, hm => by
    unfold dep nd pk
    by_cases c : n = 1
    · rw [if_pos c, if_pos (by rw [c]), show mx m 0 = m from by unfold mx; split <;> omega]
    · rw [if_neg c, if_neg (by simpa using c)]
  | t :: r, n, m, hm => by
    unfold dep nd pk
    by_cases c : TOk t n
    · rw [if_pos c, if_pos c, dep_eq r _ _ (by have := c.2.2; unfold mx; split <;> omega), mx_assoc]
    · rw [if_neg c, if_neg c, if_neg (by simp)]
theorem nd_append : ∀ (x y : List S72) (n : Int), nd (x ++ y) n = (nd x n).bind (nd y)
  | [], y, n => by simp [nd]
  | t :: r, y, n => by
    rw [List.cons_append, nd, nd]
    by_cases c : TOk t n
    · rw [if_pos c, if_pos c, nd_append r y]
    · rw [if_neg c, if_neg c]; rfl
theorem nd_shift : ∀ (x : List S72) (n n' c : Int), 0 ≤ c → nd x n = some n' → nd x (n + c) = some (n' + c)
  | [], n, n', c, hc, h => by rw [nd] at h ⊢; injection h with h; rw [h]
  | t :: r, n, n', c, hc, h => by
    rw [nd] at h ⊢
    by_cases k : TOk t n
    · rw [if_pos k] at h
      rw [if_pos ⟨k.1, k.2.1, by have := k.2.2; omega⟩]
      have := nd_shift r _ _ c hc h
      rw [show n + c - tk t.f0 + 1 = n - tk t.f0 + 1 + c from by omega]; exact this
    · rw [if_neg k] at h; cases h
theorem pk_append : ∀ (x y : List S72) (n n' : Int), nd x n = some n' → 0 ≤ n → pk (x ++ y) n = mx (pk x n) (pk y n') ∧ 0 ≤ pk x n ∧ (x ≠ [] → 1 ≤ pk x n) ∧ 0 ≤ n'
  | [], y, n, n', h, h0 => by
    rw [nd] at h; injection h with h; subst h
    refine ⟨?_, by simp [pk], by simp, h0⟩
    have : ∀ (l : List S72) (n : Int), 0 ≤ pk l n := by
      intro l; induction l with
      | nil => intro n; simp [pk]
      | cons t r ih => intro n; have := ih (n - tk t.f0 + 1); rw [pk]; unfold mx; split <;> omega
    have := this y n
    rw [List.nil_append, pk]; unfold mx; split <;> omega
  | t :: r, y, n, n', h, h0 => by
    rw [nd] at h
    by_cases k : TOk t n
    · rw [if_pos k] at h
      have k3 := k.2.2
      obtain ⟨h1, h2, h3, h4⟩ := pk_append r y _ _ h (by omega)
      rw [List.cons_append, pk, pk, h1, mx_assoc]
      refine ⟨rfl, ?_, fun _ => ?_, h4⟩
      all_goals (unfold mx; split <;> omega)
    · rw [if_neg k] at h; cases h
theorem pk_shift : ∀ (x : List S72) (n n' c : Int), x ≠ [] → 0 ≤ c → 0 ≤ n → nd x n = some n' → pk x (n + c) = pk x n + c
  | [], _, _, _, h, _, _, _ => absurd rfl h
  | t :: r, n, n', c, _, hc, h0, h => by
    rw [nd] at h
    by_cases k : TOk t n
    · rw [if_pos k] at h
      have k3 := k.2.2
      rw [pk, pk, show n + c - tk t.f0 + 1 = n - tk t.f0 + 1 + c from by omega]
      cases r with
      | nil => simp only [pk]; unfold mx; split <;> split <;> omega
      | cons u r =>
        rw [pk_shift (u :: r) _ _ c (by simp) hc (by omega) h]
        unfold mx; split <;> split <;> omega
    · rw [if_neg k] at h; cases h
theorem pk_le : ∀ (x : List S72) (n : Int), pk x n ≤ mx 0 n + x.length
  | [], n => by unfold pk mx; split <;> simp <;> omega
  | t :: r, n => by
    have h := pk_le r (n - tk t.f0 + 1)
    have hb := tk_bd t.f0
    rw [pk, List.length_cons]
    unfold mx at h ⊢
    split at h <;> split <;> split <;> omega
theorem D_cases (xs : List S72) : D xs = -1 ∨ 1 ≤ D xs ∧ nd xs 0 = some 1 ∧ 1 ≤ xs.length ∧ xs.length ≤ 20 ∧ D xs = pk xs 0 := by
  unfold D
  by_cases c : xs.length < 1 ∨ xs.length > 20
  · rw [if_pos c]; exact Or.inl rfl
  rw [if_neg c, dep_eq _ _ _ (by omega)]
  by_cases h : nd xs 0 = some 1
  · rw [if_pos h]
    have := pk_append xs [] 0 1 h (by omega)
    have h1 := this.2.2.1 (by intro he; subst he; simp at c)
    refine Or.inr ⟨?_, h, by omega, by omega, ?_⟩
    all_goals (unfold mx; split <;> omega)
  · rw [if_neg h]; exact Or.inl rfl
/-! running -/
theorem truth_ev (b : Bool) : impl_truth.f b = some (if b = true then 1 else 0) := by unfold impl_truth.f; split <;> rfl
def ap (op a b : Int) : Int × Int := (impl_apply.f 1 op a b).getD (0, 0)
theorem apply_ev (op a b : Int) {k : Nat} (hk : 0 < k) : impl_apply.f k op a b = some (ap op a b) := by
  have h : ∃ r, ∀ k, impl_apply.f (k + 1) op a b = some r := by
    unfold impl_apply.f
    simp only [impl_added.f, impl_minus.f, Option.bind_some]
    by_cases c4 : op = 4
    · simp only [if_pos c4]; split
      · exact ⟨_, fun _ => rfl⟩
      · exact ⟨_, fun _ => rfl⟩
    simp only [if_neg c4]
    by_cases c5 : op = 5
    · simp only [if_pos c5]; split
      · exact ⟨_, fun _ => rfl⟩
      · exact ⟨_, fun _ => rfl⟩
    simp only [if_neg c5]
    by_cases c6 : op = 6
    · simp only [if_pos c6]
      have ht : ∃ q, impl_times.f a b = some q := by
        unfold impl_times.f
        repeat' split
        all_goals exact ⟨_, rfl⟩
      obtain ⟨q, hq⟩ := ht
      rw [hq]; simp only [Option.bind_some]
      split
      · exact ⟨_, fun _ => rfl⟩
      · exact ⟨_, fun _ => rfl⟩
    simp only [if_neg c6]
    by_cases c7 : op = 7
    · simp only [if_pos c7]
      by_cases cb : b = 0
      · simp only [if_pos cb]; exact ⟨_, fun _ => rfl⟩
      simp only [if_neg cb, impl_apply.j0]
      by_cases ca : a = -9223372036854775808
      · simp only [if_pos ca]
        by_cases cm : (b != -1) = true
        · simp only [if_pos cm]; exact ⟨_, fun _ => rfl⟩
        · simp only [if_neg cm]; exact ⟨_, fun _ => rfl⟩
      · simp only [if_neg ca, if_true]; exact ⟨_, fun _ => rfl⟩
    simp only [if_neg c7, truth_ev, Option.bind_some]
    by_cases c8 : op = 8
    · simp only [if_pos c8]; exact ⟨_, fun _ => rfl⟩
    simp only [if_neg c8]
    by_cases c9 : op = 9
    · simp only [if_pos c9]; exact ⟨_, fun _ => rfl⟩
    simp only [if_neg c9]
    by_cases c10 : op = 10
    · simp only [if_pos c10]
      by_cases ca : a = 0
      · simp only [if_pos ca]; exact ⟨_, fun _ => rfl⟩
      · simp only [if_neg ca]; exact ⟨_, fun _ => rfl⟩
    simp only [if_neg c10]; exact ⟨_, fun _ => rfl⟩
  obtain ⟨r, hr⟩ := h
  obtain ⟨k, rfl⟩ : ∃ m, k = m + 1 := ⟨k - 1, by omega⟩
  rw [hr k]; unfold ap; rw [hr 0]; rfl
theorem ap_sub (v : Int) : ap 5 v v = (0, 0) := by
  unfold ap impl_apply.f impl_minus.f
  rw [if_neg (by omega), if_pos rfl, Option.bind_some, show v - v = 0 from by omega, show wrap64 0 = 0 from w64 (by omega) (by omega)]
  simp
def ps (_e0 e1 e2 e3 : Int) (t : S72) : Int := if t.f0 = 1 then e1 else if t.f0 = 2 then e2 else if t.f0 = 3 then e3 else t.f1
theorem push_ev (a b e0 e1 e2 e3 : Int) : impl_Tok_push.f a b e0 e1 e2 e3 = some (ps e0 e1 e2 e3 ⟨a, b⟩) := by
  unfold impl_Tok_push.f ps
  split
  · rfl
  split
  · rfl
  split <;> rfl
def ex (p : S72 → Int) : List S72 → List Int → Int × List Int
  | [], s => (0, s)
  | t :: r, s => if tk t.f0 = 0 then ex p r (s ++ [p t])
    else if tk t.f0 = 1 then ex p r (s.set (s.length - 1) (if (rd s ((s.length - 1 : Nat) : Int) == 0) = true then 1 else 0))
    else if (ap t.f0 (rd s ((s.length - 2 : Nat) : Int)) (rd s ((s.length - 1 : Nat) : Int))).2 = 0 then ex p r (s.take (s.length - 2) ++ [(ap t.f0 (rd s ((s.length - 2 : Nat) : Int)) (rd s ((s.length - 1 : Nat) : Int))).1])
    else ((ap t.f0 (rd s ((s.length - 2 : Nat) : Int)) (rd s ((s.length - 1 : Nat) : Int))).2, [])
theorem run_l (xs : List S72) (hx : xs.length ≤ 1000) (e0 e1 e2 e3 : Int) (d : Nat) : ∀ (i k : Nat) (s : List Int) (n' : Int), i + d = xs.length → d + 1 < k → s.length ≤ i → nd (xs.drop i) (s.length : Int) = some n' → 1 ≤ n' →
    impl_run.l0 k s xs (xs.length : Int) (i : Int) e0 e1 e2 e3 = some (if (ex (ps e0 e1 e2 e3) (xs.drop i) s).1 = 0 then (rd (ex (ps e0 e1 e2 e3) (xs.drop i) s).2 0, 0) else (0, (ex (ps e0 e1 e2 e3) (xs.drop i) s).1)) := by
  induction d with
  | zero =>
    intro i k s n' hi hk hs hn h1
    obtain ⟨k, rfl⟩ : ∃ m, k = m + 1 := ⟨k - 1, by omega⟩
    rw [List.drop_eq_nil_of_le (by omega)] at hn ⊢
    rw [nd] at hn; injection hn with hn
    rw [impl_run.l0, if_neg (by omega), if_pos (by omega), ex, if_pos rfl]
  | succ d ih =>
    intro i k s n' hi hk hs hn h1
    obtain ⟨k, rfl⟩ : ∃ m, k = m + 1 := ⟨k - 1, by omega⟩
    rw [drop_cons (by omega)] at hn ⊢
    rw [nd] at hn
    rw [impl_run.l0, if_pos (by omega), if_pos (by omega), if_pos (by omega), takes_tk2, Option.bind_some, ex, w64s (by omega)]
    generalize hg : rd_T72 xs (i : Int) = t at hn ⊢
    by_cases ok : TOk t s.length
    · rw [if_pos ok] at hn
      have hb := tk_bd t.f0
      have k3 := ok.2.2
      by_cases c0 : tk t.f0 = 0
      · rw [c0] at hn
        rw [if_pos c0, if_pos c0, push_ev, Option.bind_some, if_pos (by omega)]
        exact ih (i + 1) k (s ++ [ps e0 e1 e2 e3 t]) n' (by omega) (by omega) (by simp; omega) (by simpa using hn) h1
      rw [if_neg c0, if_neg c0]
      by_cases c1 : tk t.f0 = 1
      · rw [c1] at hn k3
        rw [if_pos c1, if_pos c1, show wrap64 ((s.length : Int) - 1) = ((s.length - 1 : Nat) : Int) from by rw [w64] <;> omega, if_pos (by omega), if_pos (by omega), truth_ev, Option.bind_some]
        refine ih (i + 1) k _ n' (by omega) (by omega) (by simp; omega) ?_ h1
        rw [List.length_set, show (s.length : Int) = (s.length : Int) - 1 + 1 from by omega]; exact hn
      have c2 : tk t.f0 = 2 := by omega
      rw [c2] at hn k3
      rw [if_neg c1, if_neg c1, show wrap64 ((s.length : Int) - 2) = ((s.length - 2 : Nat) : Int) from by rw [w64] <;> omega, show wrap64 ((s.length : Int) - 1) = ((s.length - 1 : Nat) : Int) from by rw [w64] <;> omega, if_pos (by omega), if_pos (by omega), if_pos (by omega), if_pos (by omega), apply_ev _ _ _ (by omega), Option.bind_some]
      generalize ap t.f0 (rd s ((s.length - 2 : Nat) : Int)) (rd s ((s.length - 1 : Nat) : Int)) = q
      by_cases cq : q.2 = 0
      · rw [if_pos cq, if_pos cq, if_pos (by omega), Option.bind_some, if_pos (by simp; omega)]
        refine ih (i + 1) k _ n' (by omega) (by omega) (by simp; omega) ?_ h1
        have hl : (s.take (s.length - 2) ++ [q.1]).length = s.length - 1 := by simp; omega
        have el : ((((s.length - 2 : Nat) : Int)).toNat) = s.length - 2 := by omega
        rw [el, hl, show ((s.length - 1 : Nat) : Int) = (s.length : Int) - 2 + 1 from by omega]; exact hn
      · rw [if_neg cq, if_neg cq, if_neg cq]
    · rw [if_neg ok] at hn; cases hn
theorem rd_app (p s : List Int) (j : Nat) : rd (p ++ s) ((p.length + j : Nat) : Int) = rd s (j : Int) := by
  unfold rd
  rw [List.getD_eq_getElem?_getD, List.getD_eq_getElem?_getD, Int.toNat_natCast, Int.toNat_natCast, List.getElem?_append_right (by omega), show p.length + j - p.length = j from by omega]
theorem ex_shift (f : S72 → Int) : ∀ (x : List S72) (p s : List Int) (n' : Int), nd x (s.length : Int) = some n' →
    ex f x (p ++ s) = (if (ex f x s).1 = 0 then (0, p ++ (ex f x s).2) else ((ex f x s).1, [])) ∧ ((ex f x s).1 = 0 → ((ex f x s).2.length : Int) = n')
  | [], p, s, n', h => by
    rw [nd] at h; injection h with h
    rw [ex, ex, if_pos rfl]; exact ⟨rfl, fun _ => h⟩
  | t :: r, p, s, n', h => by
    rw [nd] at h
    by_cases ok : TOk t s.length
    · rw [if_pos ok] at h
      have hb := tk_bd t.f0
      have k3 := ok.2.2
      rw [ex, ex]
      by_cases c0 : tk t.f0 = 0
      · rw [c0] at h
        rw [if_pos c0, if_pos c0, List.append_assoc]
        exact ex_shift f r p (s ++ [f t]) n' (by simpa using h)
      rw [if_neg c0, if_neg c0]
      by_cases c1 : tk t.f0 = 1
      · rw [c1] at h k3
        rw [if_pos c1, if_pos c1]
        have e1 : (p ++ s).length - 1 = p.length + (s.length - 1) := by simp; omega
        rw [e1, rd_app p s _, List.set_append_right _ _ (by omega), show p.length + (s.length - 1) - p.length = s.length - 1 from by omega]
        refine ex_shift f r p _ n' ?_
        rw [List.length_set, show (s.length : Int) = (s.length : Int) - 1 + 1 from by omega]; exact h
      have c2 : tk t.f0 = 2 := by omega
      rw [c2] at h k3
      rw [if_neg c1, if_neg c1]
      have e1 : (p ++ s).length - 1 = p.length + (s.length - 1) := by simp; omega
      have e2 : (p ++ s).length - 2 = p.length + (s.length - 2) := by simp; omega
      rw [e1, e2, rd_app p s _, rd_app p s _]
      generalize ap t.f0 (rd s ((s.length - 2 : Nat) : Int)) (rd s ((s.length - 1 : Nat) : Int)) = q
      by_cases cq : q.2 = 0
      · rw [if_pos cq, if_pos cq, List.take_append, List.take_of_length_le (by omega), show p.length + (s.length - 2) - p.length = s.length - 2 from by omega, List.append_assoc]
        refine ex_shift f r p _ n' ?_
        have hl : (s.take (s.length - 2) ++ [q.1]).length = s.length - 1 := by simp; omega
        rw [hl, show ((s.length - 1 : Nat) : Int) = (s.length : Int) - 2 + 1 from by omega]; exact h
      · rw [if_neg cq, if_neg cq, if_neg cq]; exact ⟨rfl, fun h => absurd h cq⟩
    · rw [if_neg ok] at h; cases h
theorem ex_append (f : S72 → Int) : ∀ (x y : List S72) (s : List Int), ex f (x ++ y) s = if (ex f x s).1 = 0 then ex f y (ex f x s).2 else ((ex f x s).1, [])
  | [], y, s => by rw [List.nil_append, ex, if_pos rfl]
  | t :: r, y, s => by
    rw [List.cons_append, ex, ex]
    by_cases c0 : tk t.f0 = 0
    · rw [if_pos c0, if_pos c0]; exact ex_append f r y _
    rw [if_neg c0, if_neg c0]
    by_cases c1 : tk t.f0 = 1
    · rw [if_pos c1, if_pos c1]; exact ex_append f r y _
    rw [if_neg c1, if_neg c1]
    generalize ap t.f0 (rd s ((s.length - 2 : Nat) : Int)) (rd s ((s.length - 1 : Nat) : Int)) = q
    by_cases cq : q.2 = 0
    · rw [if_pos cq, if_pos cq]; exact ex_append f r y _
    · rw [if_neg cq, if_neg cq, if_neg cq]
theorem run_ev {xs : List S72} (h : nd xs 0 = some 1) (hx : xs.length ≤ 1000) (e0 e1 e2 e3 : Int) {k : Nat} (hk : 1100 < k) :
    impl_run.f k xs e0 e1 e2 e3 = some (if (ex (ps e0 e1 e2 e3) xs []).1 = 0 then (rd (ex (ps e0 e1 e2 e3) xs []).2 0, 0) else (0, (ex (ps e0 e1 e2 e3) xs []).1)) := by
  have := run_l xs hx e0 e1 e2 e3 xs.length 0 k [] 1 (by omega) (by omega) (by simp) (by simpa using h) (by omega)
  unfold impl_run.f
  simpa using this
theorem FnExprTwice : laws_FnExprTwice.Pure := by
  intro l0 _ _ hwf
  have hb : Bytes l0 := by
    intro x hx
    have := hwf x hx
    simp [Lit.wf, IntKind.min, IntKind.max, IntKind.signed, IntKind.bits] at this
    omega
  refine ⟨5000, ?_⟩
  unfold laws_FnExprTwice.f laws_big.f
  rw [Option.bind_some]
  by_cases hbig : (l0.length : Int) > 1048576
  · rw [if_pos (by simpa using hbig)]
  rw [if_neg (by simpa using hbig)]
  obtain ⟨xs, e0, e1, e2, e3, hd, hx⟩ := draw_ev hb (by omega) (k := 5000) (by omega)
  rw [hd, Option.bind_some]; dsimp only
  have hdx := implDepth_ev (xs := xs) (by omega) (k := 4999) (by omega)
  have hsx := specDepth_ev (xs := xs) (by omega) (k := 5000) (by omega)
  have hsx' := specDepth_ev (xs := xs) (by omega) (k := 4999) (by omega)
  have hc := D_cases xs
  have hsame : laws_FnExprTwice.j0 5000 xs true e0 e1 e2 e3 = some true := by
    rw [laws_FnExprTwice.j0, if_pos rfl]
    unfold impl_ExprOk.f impl_isExpr.f spec_ExprOk.f
    rw [hdx, hsx', Option.bind_some, Option.bind_some, Option.bind_some, Option.bind_some]
    rcases hc with hc | hc
    · rw [hc]; rfl
    · have h1 : D xs > 0 := by omega
      have h2 : D xs ≥ 0 := by omega
      simp [h1, h2]
  unfold spec_ExprOk.f
  rw [hsx, Option.bind_some, Option.bind_some]
  rcases hc with hc | ⟨hc1, hc2, hc3, hc4, hc5⟩
  · rw [hc, if_neg (by simp)]; exact hsame
  rw [if_pos (by simp; omega)]
  by_cases c9 : wrap64 (2 * (xs.length : Int)) ≥ 20
  · rw [show decide (wrap64 (2 * (xs.length : Int)) ≥ 20) = true from decide_eq_true c9]; exact hsame
  rw [show decide (wrap64 (2 * (xs.length : Int)) ≥ 20) = false from decide_eq_false c9]
  rw [w64 (by omega) (by omega)] at c9
  have hne : xs ≠ [] := by intro he; subst he; simp at hc3
  rw [laws_FnExprTwice.j0, if_neg (by simp), Option.bind_some, if_pos (by simp; omega), Option.bind_some, List.nil_append, if_pos (by omega), Option.bind_some, if_pos (by simp; omega), Option.bind_some]
  generalize hy : xs ++ xs ++ [(⟨5, 0⟩ : S72)] = y
  have hyl : y.length = 2 * xs.length + 1 := by rw [← hy]; simp; omega
  have hn1 := nd_shift xs 0 1 1 (by omega) hc2
  have hsub : nd [(⟨5, 0⟩ : S72)] 2 = some 1 := by
    rw [nd, if_pos ⟨⟨by decide, by decide⟩, Or.inr rfl, by decide⟩]; rfl
  have hyn : nd y 0 = some 1 := by
    rw [← hy, nd_append, nd_append, hc2, Option.bind_some]
    rw [show (1 : Int) = 0 + 1 from rfl, hn1, Option.bind_some]; exact hsub
  have hDy : D y = D xs + 1 := by
    rcases D_cases y with h | ⟨_, _, _, _, h⟩
    · exfalso
      unfold D at h
      rw [if_neg (by omega), dep_eq _ _ _ (by omega), if_pos hyn] at h
      have := (pk_append y [] 0 1 hyn (by omega)).2.1
      unfold mx at h; split at h <;> omega
    · have p1 := (pk_append xs (xs ++ [(⟨5, 0⟩ : S72)]) 0 1 hc2 (by omega)).1
      have p2 := (pk_append xs [(⟨5, 0⟩ : S72)] 1 2 hn1 (by omega)).1
      have p3 := pk_shift xs 0 1 1 hne (by omega) (by omega) hc2
      have p4 : pk [(⟨5, 0⟩ : S72)] 2 = 1 := rfl
      rw [h, ← hy, List.append_assoc, p1, p2, show (1 : Int) = 0 + 1 from rfl, p3, p4, hc5]
      unfold mx; split <;> split <;> omega
  have hdy := implDepth_ev (xs := y) (by omega) (k := 4999) (by omega)
  unfold impl_ExprRun.f impl_ExprOk.f impl_isExpr.f impl_ExprDepth.f
  rw [hdx, hdy, run_ev hc2 (by omega) _ _ _ _ (by omega), run_ev hyn (by omega) _ _ _ _ (by omega)]
  have hs := ex_shift (ps e0 e1 e2 e3) xs [] [] 1 (by simpa using hc2)
  have hrun : ex (ps e0 e1 e2 e3) y [] = if (ex (ps e0 e1 e2 e3) xs []).1 = 0 then (0, [0]) else ((ex (ps e0 e1 e2 e3) xs []).1, []) := by
    rw [← hy, ex_append, ex_append]
    by_cases c : (ex (ps e0 e1 e2 e3) xs []).1 = 0
    · have hl := hs.2 c
      obtain ⟨v, hv⟩ : ∃ v, (ex (ps e0 e1 e2 e3) xs []).2 = [v] := by
        match h : (ex (ps e0 e1 e2 e3) xs []).2, hl with
        | [v], _ => exact ⟨v, rfl⟩
      have hs2 := (ex_shift (ps e0 e1 e2 e3) xs [v] [] 1 (by simpa using hc2)).1
      rw [List.append_nil, if_pos c, hv] at hs2
      rw [if_pos c, if_pos c, hv, hs2, if_pos rfl]
      show ex (ps e0 e1 e2 e3) [⟨5, 0⟩] [v, v] = (0, [0])
      rw [ex, if_neg (by decide), if_neg (by decide)]
      show (if (ap 5 v v).2 = 0 then ex (ps e0 e1 e2 e3) [] ([] ++ [(ap 5 v v).1]) else ((ap 5 v v).2, [])) = (0, [0])
      rw [ap_sub]; rfl
    · rw [if_neg c, if_neg c, if_neg c]
  have hX : decide (D xs > 0) = true := decide_eq_true (by omega)
  have hY : decide (D y > 0) = true := decide_eq_true (by omega)
  have hpl := pk_le xs 0
  rw [← hc5, show mx 0 0 = 0 from rfl] at hpl
  have hW : (D y == wrap64 (D xs + 1)) = true := by rw [hDy, w64 (by omega) (by omega)]; simp
  have hrd : rd [0] 0 = 0 := rfl
  by_cases c : (ex (ps e0 e1 e2 e3) xs []).1 = 0
  · simp only [hX, hY, hrun, if_pos c, if_true, Option.bind_some, hW, hrd]
  · simp only [hX, hY, hrun, if_neg c, if_true, Option.bind_some, hW]

end Go.Proofs.Ytahnodgbfonlhaa.Pure
