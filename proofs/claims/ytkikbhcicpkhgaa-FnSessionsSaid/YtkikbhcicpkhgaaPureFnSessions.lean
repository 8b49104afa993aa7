/- The law FnSessions answers true for every code: inserting windows with merging does not depend on their order, nor on whether sessions were formed before they are joined, and every time lies in a session. Conditions: none beyond the given statement's. -/
import Derived.Test.YtkikbhcicpkhgaaQFnSessionsx12
namespace Go.Proofs.Ytkikbhcicpkhgaa.Pure
open Go.RowKit Go.Proofs.Ytkikbhcicpkhgaa.PFnSessions Go.Proofs.YtkikbhcicpkhgaaW.PrintWords Go.Proofs.YtkikbhcicpkhgaaW.PrintLast Go.Proofs.YtkikbhcicpkhgaaW.PrintMore

theorem w64 {n : Int} (h0 : -9223372036854775808 ≤ n) (h1 : n ≤ 9223372036854775807) : wrap64 n = n := by unfold wrap64; omega
theorem w64_lo (n : Int) : -9223372036854775808 ≤ wrap64 n := by unfold wrap64; omega
theorem w64_hi (n : Int) : wrap64 n ≤ 9223372036854775807 := by unfold wrap64; omega

def Cur (M a s : Int) : Prop := 0 ≤ a ∧ a ≤ M ∧ 0 ≤ s ∧ s < 65521
def Bytes (bs : List Int) : Prop := ∀ x ∈ bs, 0 ≤ x ∧ x ≤ 255
theorem rd_byte {bs : List Int} (hb : Bytes bs) (i : Int) : 0 ≤ rd bs i ∧ rd bs i ≤ 255 := by
  unfold rd
  rw [List.getD_eq_getElem?_getD]
  rcases h : bs[i.toNat]? with _ | x
  · simp
  · exact hb x (List.mem_of_getElem? h)
theorem tm {x n : Int} (hx : 0 ≤ x) (hn : 2 ≤ n) : 0 ≤ Int.tmod x n ∧ Int.tmod x n < n := by
  rw [Int.tmod_eq_emod_of_nonneg hx]
  exact ⟨Int.emod_nonneg _ (by omega), Int.emod_lt_of_pos _ (by omega)⟩
theorem pick_ev {bs : List Int} (hb : Bytes bs) {M a s : Int} (n : Int) (hc : Cur M a s) (hM : M ≤ 1099511627776) (hl : bs.length ≤ 1099511627776000) :
    ∃ v a' s', spec_l01Cur_pick.f bs a s n = some (v, a', s') ∧ 0 ≤ v ∧ (v < n ∨ v = 0) ∧ Cur (M + 1) a' s' := by
  obtain ⟨h0, h1, h2, h3⟩ := hc
  unfold spec_l01Cur_pick.f
  by_cases c1 : n < 2
  · rw [if_pos c1]; exact ⟨_, _, _, rfl, by omega, by omega, by omega, by omega, h2, h3⟩
  rw [if_neg c1]
  have ea : wrap64 (a + 1) = a + 1 := w64 (by omega) (by omega)
  by_cases c2 : a < (bs.length : Int)
  · have hr := rd_byte hb a
    have ht := tm (x := wrap64 (rd bs a)) (n := n) (by rw [w64] <;> omega) (by omega)
    rw [if_pos c2, if_pos h0, if_neg (by omega), ea]
    exact ⟨_, _, _, rfl, ht.1, Or.inl ht.2, by omega, by omega, h2, h3⟩
  rw [if_neg c2]
  have e1 : wrap64 (s * 1103) = s * 1103 := w64 (by omega) (by omega)
  have e2 : wrap64 (s * 1103 + 12345) = s * 1103 + 12345 := w64 (by omega) (by omega)
  simp only [e1, e2, ea]
  have hm := tm (x := s * 1103 + 12345) (n := 65521) (by omega) (by omega)
  generalize Int.tmod (s * 1103 + 12345) 65521 = q at hm ⊢
  by_cases c3 : (bs.length : Int) > 0
  · have hd : 0 ≤ Int.tmod a (bs.length : Int) ∧ Int.tmod a (bs.length : Int) < (bs.length : Int) := by
      rw [Int.tmod_eq_emod_of_nonneg h0]
      exact ⟨Int.emod_nonneg _ (by omega), Int.emod_lt_of_pos _ (by omega)⟩
    have hr := rd_byte hb (Int.tmod a (bs.length : Int))
    have hq : 0 ≤ Int.tdiv q 7 ∧ Int.tdiv q 7 ≤ 65521 := by
      rw [Int.tdiv_eq_ediv_of_nonneg hm.1]; omega
    have ht := tm (x := wrap64 (wrap64 (Int.tdiv q 7) + wrap64 (rd bs (Int.tmod a (bs.length : Int))))) (n := n) (by rw [w64 (n := Int.tdiv q 7), w64 (n := rd bs _), w64] <;> omega) (by omega)
    rw [if_pos c3, if_neg (by omega), if_pos hd.1, if_pos hd.2, if_neg (by omega)]
    exact ⟨_, _, _, rfl, ht.1, Or.inl ht.2, by omega, by omega, hm.1, hm.2⟩
  · rw [if_neg c3, if_neg (by omega)]
    exact ⟨_, _, _, rfl, by simp, Or.inr (by simp), by omega, by omega, hm.1, hm.2⟩
theorem raw_ev {bs : List Int} (hb : Bytes bs) {M a s : Int} (hc : Cur M a s) (hM : M ≤ 1099511600000) (hl : bs.length ≤ 1099511627776000) :
    ∃ v a' s', spec_l01Cur_raw.f bs a s = some (v, a', s') ∧ -9223372036854775808 ≤ v ∧ v ≤ 9223372036854775807 ∧ Cur (M + 2) a' s' := by
  unfold spec_l01Cur_raw.f
  obtain ⟨v, a1, s1, e, hv, hv', hc1⟩ := pick_ev hb 8 hc (by omega) hl
  rw [e]; simp only [Option.bind_some]
  by_cases c0 : v = 0
  · rw [if_pos c0]
    obtain ⟨v2, a2, s2, e2, hv2, hv2', hc2⟩ := pick_ev hb 256 hc1 (by omega) hl
    rw [e2]; simp only [Option.bind_some]
    exact ⟨_, _, _, rfl, w64_lo _, w64_hi _, by unfold Cur at hc2 ⊢; omega⟩
  rw [if_neg c0]
  by_cases c1 : v = 1
  · rw [if_pos c1]
    obtain ⟨v2, a2, s2, e2, hv2, hv2', hc2⟩ := pick_ev hb 8 hc1 (by omega) hl
    rw [e2]; simp only [Option.bind_some]
    rw [if_pos hv2, if_pos (by simp; omega)]
    refine ⟨_, _, _, rfl, ?_, ?_, by unfold Cur at hc2 ⊢; omega⟩
    all_goals
      have : v2 = 0 ∨ v2 = 1 ∨ v2 = 2 ∨ v2 = 3 ∨ v2 = 4 ∨ v2 = 5 ∨ v2 = 6 ∨ v2 = 7 := by omega
      rcases this with rfl | rfl | rfl | rfl | rfl | rfl | rfl | rfl <;> decide
  rw [if_neg c1]
  obtain ⟨v2, a2, s2, e2, hv2, hv2', hc2⟩ := pick_ev hb 14 hc1 (by omega) hl
  rw [e2]; simp only [Option.bind_some]
  exact ⟨_, _, _, rfl, w64_lo _, w64_hi _, by unfold Cur at hc2 ⊢; omega⟩

/-! sessions -/
theorem rdT_get {xs : List S105} {i : Nat} (h : i < xs.length) : rd_T105 xs (i : Int) = xs[i] := by
  unfold rd_T105
  rw [List.getD_eq_getElem?_getD]
  simp [List.getElem?_eq_getElem h]
theorem w64s {i : Nat} (h : i ≤ 1099511627776000) : wrap64 ((i : Int) + 1) = ((i + 1 : Nat) : Int) := by rw [w64] <;> omega
def WOk (a b : Int) : Prop := 0 ≤ a ∧ a < b ∧ b ≤ 1100
def SOK : Int → List S105 → Prop
  | _, [] => True
  | lo, w :: r => lo ≤ w.f0 ∧ WOk w.f0 w.f1 ∧ SOK w.f1 r
theorem iff_dec {p : Prop} [Decidable p] {q : Prop} (h : p ↔ q) : decide p = true ↔ q := by simpa using h
theorem win_ev (a b : Int) : ∃ t, spec_l06Win.f a b = some t ∧ (t = true ↔ WOk a b) := by
  unfold spec_l06Win.f WOk
  by_cases h : a ≥ 0
  · by_cases h2 : a < b
    · rw [if_pos h, if_pos h2]; exact ⟨_, rfl, by simp; omega⟩
    · rw [if_pos h, if_neg h2]; exact ⟨_, rfl, by simp; omega⟩
  · rw [if_neg h]; exact ⟨_, rfl, by simp; omega⟩
theorem isWin_ev (a b : Int) : ∃ t, impl_isWin.f a b = some t ∧ (t = true ↔ WOk a b) := by
  unfold impl_isWin.f WOk
  by_cases h : 0 ≤ a
  · by_cases h2 : a < b
    · rw [if_pos h, if_pos h2]; exact ⟨_, rfl, by simp; omega⟩
    · rw [if_pos h, if_neg h2]; exact ⟨_, rfl, by simp; omega⟩
  · rw [if_neg h]; exact ⟨_, rfl, by simp; omega⟩
def lo (xs : List S105) (i : Nat) : Int := if i = 0 then 0 else (rd_T105 xs ((i - 1 : Nat) : Int)).f1
theorem drop_cons {xs : List S105} {i : Nat} (h : i < xs.length) : xs.drop i = rd_T105 xs (i : Int) :: xs.drop (i + 1) := by
  rw [rdT_get h]; exact List.drop_eq_getElem_cons h
theorem lo_succ (xs : List S105) (i : Nat) : lo xs (i + 1) = (rd_T105 xs (i : Int)).f1 := by unfold lo; simp
theorem sok_zero_le {w : S105} {l : Int} (h : WOk w.f0 w.f1) (hl : l ≤ 0) : l ≤ w.f0 := by unfold WOk at h; omega
theorem specSessOk_l (xs : List S105) (hx : xs.length ≤ 1099511627776000) (d : Nat) : ∀ (i k : Nat), i + d = xs.length → d < k →
    ∃ t, spec_SessOk.l0 k xs (i : Int) = some t ∧ (t = true ↔ SOK (lo xs i) (xs.drop i)) := by
  induction d with
  | zero =>
    intro i k hi hk
    obtain ⟨k, rfl⟩ : ∃ m, k = m + 1 := ⟨k - 1, by omega⟩
    refine ⟨true, by simp only [spec_SessOk.l0]; rw [if_neg (by omega)], ?_⟩
    rw [List.drop_eq_nil_of_le (by omega)]; simp [SOK]
  | succ d ih =>
    intro i k hi hk
    obtain ⟨k, rfl⟩ : ∃ m, k = m + 1 := ⟨k - 1, by omega⟩
    obtain ⟨t, ht, hti⟩ := ih (i + 1) k (by omega) (by omega)
    obtain ⟨u, hu, hui⟩ := win_ev (rd_T105 xs (i : Int)).f0 (rd_T105 xs (i : Int)).f1
    simp only [spec_SessOk.l0]
    rw [if_pos (by omega), if_pos (by omega), hu, drop_cons (by omega)]
    simp only [Option.bind_some, SOK]
    rw [lo_succ] at hti
    have e1 : wrap64 ((i : Int) + 1) = ((i + 1 : Nat) : Int) := by rw [w64] <;> omega
    have e2 : wrap64 ((i : Int) - 1) = (i : Int) - 1 := by rw [w64] <;> omega
    rw [e1, e2]
    cases u with
    | false =>
      refine ⟨false, by simp, ?_⟩
      simp only [Bool.false_eq_true, false_iff] at hui ⊢
      exact fun h => hui h.2.1
    | true =>
      have hw := hui.1 rfl
      rw [if_pos rfl]
      by_cases hp : (i : Int) > 0
      · have el : (i : Int) - 1 = ((i - 1 : Nat) : Int) := by omega
        have elo : lo xs i = (rd_T105 xs ((i - 1 : Nat) : Int)).f1 := by unfold lo; rw [if_neg (by omega)]
        rw [if_pos hp, if_pos (by omega), if_pos (by omega), el, elo]
        by_cases hc : (rd_T105 xs (i : Int)).f0 < (rd_T105 xs ((i - 1 : Nat) : Int)).f1
        · rw [if_pos hc]
          refine ⟨false, rfl, ?_⟩
          simp only [Bool.false_eq_true, false_iff]
          intro h; omega
        · rw [if_neg hc]
          exact ⟨t, ht, by rw [hti]; exact ⟨fun h => ⟨by omega, hw, h⟩, fun h => h.2.2⟩⟩
      · rw [if_neg hp]
        have elo : lo xs i = 0 := by unfold lo; rw [if_pos (by omega)]
        exact ⟨t, ht, by rw [hti, elo]; exact ⟨fun h => ⟨sok_zero_le hw (by omega), hw, h⟩, fun h => h.2.2⟩⟩
def OKL (xs : List S105) : Prop := xs.length ≤ 300 ∧ SOK 0 xs
theorem specSessOk_ev {xs : List S105} {k : Nat} (hk : 300 < k) : ∃ t, spec_SessOk.f k xs = some t ∧ (t = true ↔ OKL xs) := by
  unfold spec_SessOk.f OKL
  by_cases h : (xs.length : Int) > 300
  · rw [if_pos h]; exact ⟨false, rfl, by simp; omega⟩
  · rw [if_neg h]
    obtain ⟨t, ht, hti⟩ := specSessOk_l xs (by omega) xs.length 0 k (by omega) (by omega)
    exact ⟨t, ht, by rw [hti]; simp [lo]; omega⟩
theorem areSess_l (xs : List S105) (hx : xs.length ≤ 1099511627776000) (d : Nat) : ∀ (i k : Nat), i + d = xs.length → d < k →
    ∃ t, impl_areSess.l0 k xs xs (xs.length : Int) (i : Int) = some t ∧ (t = true ↔ xs.length ≤ 300 ∧ SOK (lo xs i) (xs.drop i)) := by
  induction d with
  | zero =>
    intro i k hi hk
    obtain ⟨k, rfl⟩ : ∃ m, k = m + 1 := ⟨k - 1, by omega⟩
    refine ⟨decide ((xs.length : Int) ≤ 300), by simp only [impl_areSess.l0]; rw [if_neg (by omega)], ?_⟩
    rw [List.drop_eq_nil_of_le (by omega)]; simp [SOK]; omega
  | succ d ih =>
    intro i k hi hk
    obtain ⟨k, rfl⟩ : ∃ m, k = m + 1 := ⟨k - 1, by omega⟩
    obtain ⟨t, ht, hti⟩ := ih (i + 1) k (by omega) (by omega)
    obtain ⟨u, hu, hui⟩ := isWin_ev (rd_T105 xs (i : Int)).f0 (rd_T105 xs (i : Int)).f1
    simp only [impl_areSess.l0]
    rw [if_pos (by omega), if_pos (by omega), if_pos (by omega), hu, drop_cons (by omega)]
    simp only [Option.bind_some, SOK]
    rw [lo_succ] at hti
    have e1 : wrap64 ((i : Int) + 1) = ((i + 1 : Nat) : Int) := by rw [w64] <;> omega
    have e2 : wrap64 ((i : Int) - 1) = (i : Int) - 1 := by rw [w64] <;> omega
    rw [e1, e2]
    cases u with
    | false =>
      refine ⟨false, by simp, ?_⟩
      simp only [Bool.false_eq_true, false_iff] at hui ⊢
      exact fun h => hui h.2.2.1
    | true =>
      have hw := hui.1 rfl
      rw [if_pos rfl]
      by_cases hp : (i : Int) > 0
      · have el : (i : Int) - 1 = ((i - 1 : Nat) : Int) := by omega
        have elo : lo xs i = (rd_T105 xs ((i - 1 : Nat) : Int)).f1 := by unfold lo; rw [if_neg (by omega)]
        rw [if_pos hp, if_pos (by omega), if_pos (by omega), el, elo]
        by_cases hc : (rd_T105 xs (i : Int)).f0 < (rd_T105 xs ((i - 1 : Nat) : Int)).f1
        · rw [if_pos hc]
          refine ⟨false, rfl, ?_⟩
          simp only [Bool.false_eq_true, false_iff]
          intro h; omega
        · rw [if_neg hc]
          exact ⟨t, ht, by rw [hti]; exact ⟨fun h => ⟨h.1, by omega, hw, h.2⟩, fun h => ⟨h.1, h.2.2.2⟩⟩⟩
      · rw [if_neg hp]
        have elo : lo xs i = 0 := by unfold lo; rw [if_pos (by omega)]
        exact ⟨t, ht, by rw [hti, elo]; exact ⟨fun h => ⟨h.1, sok_zero_le hw (by omega), hw, h.2⟩, fun h => ⟨h.1, h.2.2.2⟩⟩⟩
theorem areSess_ev {xs : List S105} {k : Nat} (hx : xs.length ≤ 1099511627776000) (hk : xs.length < k) : ∃ t, impl_areSess.f k xs = some t ∧ (t = true ↔ OKL xs) := by
  unfold impl_areSess.f OKL
  obtain ⟨t, ht, hti⟩ := areSess_l xs hx xs.length 0 k (by omega) (by omega)
  exact ⟨t, ht, by rw [hti]; simp [lo]⟩
/-! inserting -/
def Meet (s0 s1 a b : Int) : Prop := s0 < b ∧ a < s1
theorem meet_ev (s0 s1 a b : Int) : ∃ t, spec_l06Meet.f s0 s1 a b = some t ∧ (t = true ↔ Meet s0 s1 a b) := by
  unfold spec_l06Meet.f Meet
  by_cases h : s0 < b
  · rw [if_pos h]; exact ⟨_, rfl, by simp; omega⟩
  · rw [if_neg h]; exact ⟨_, rfl, by simp; omega⟩
theorem over_ev (s0 s1 a b : Int) : ∃ t, impl_Win_overlaps.f s0 s1 a b = some t ∧ (t = true ↔ Meet s0 s1 a b) := by
  unfold impl_Win_overlaps.f Meet
  by_cases h : s0 < b
  · rw [if_pos h]; exact ⟨_, rfl, by simp; omega⟩
  · rw [if_neg h]; exact ⟨_, rfl, by simp; omega⟩
def ins : List S105 → Int → Int → List S105
  | [], a, b => [⟨a, b⟩]
  | s :: r, a, b => if s.f0 < b ∧ a < s.f1 then ins r (mn s.f0 a) (mx s.f1 b) else if s.f1 ≤ a then s :: ins r a b else ⟨a, b⟩ :: s :: r
theorem mn_comm (a b : Int) : mn a b = mn b a := by unfold mn; split <;> split <;> omega
theorem mx_comm (a b : Int) : mx a b = mx b a := by unfold mx; split <;> split <;> omega
theorem eta105 (s : S105) : (⟨s.f0, s.f1⟩ : S105) = s := rfl
theorem sok_far : ∀ {r : List S105} {l : Int}, SOK l r → ∀ s ∈ r, l ≤ s.f0 ∧ s.f0 < s.f1
  | [], _, _, s, h => by cases h
  | w :: r, l, ⟨h1, h2, h3⟩, s, h => by
    rcases List.mem_cons.1 h with rfl | h
    · exact ⟨h1, h2.2.1⟩
    · have := sok_far h3 s h
      exact ⟨by unfold WOk at h2; omega, this.2⟩
theorem ins_len : ∀ (r : List S105) (a b : Int), (ins r a b).length ≤ r.length + 1
  | [], _, _ => by simp [ins]
  | s :: r, a, b => by
    unfold ins
    split
    · have := ins_len r (mn s.f0 a) (mx s.f1 b); simp; omega
    split
    · have := ins_len r a b; simp; omega
    · simp
theorem mn_le1 (a b : Int) : mn a b ≤ a := by unfold mn; split <;> omega
theorem mn_le2 (a b : Int) : mn a b ≤ b := by unfold mn; split <;> omega
theorem mx_le1 (a b : Int) : a ≤ mx a b := by unfold mx; split <;> omega
theorem mx_le2 (a b : Int) : b ≤ mx a b := by unfold mx; split <;> omega
theorem wok_merge {a b c d : Int} (h : WOk a b) (k : WOk c d) : WOk (mn a c) (mx b d) := by
  unfold WOk mn mx at *; split <;> split <;> omega
theorem ins_sok : ∀ (r : List S105) (l a b : Int), SOK l r → l ≤ a → WOk a b → SOK l (ins r a b)
  | [], l, a, b, _, h, hw => ⟨h, hw, trivial⟩
  | s :: r, l, a, b, ⟨h1, h2, h3⟩, h, hw => by
    unfold ins
    split
    · have h3' : SOK l r := by
        cases r with
        | nil => trivial
        | cons q r => exact ⟨by have := h3.1; unfold WOk at h2; omega, h3.2⟩
      exact ins_sok r l _ _ h3' (by unfold mn; split <;> omega) (wok_merge h2 hw)
    split
    · exact ⟨h1, h2, ins_sok r s.f1 a b h3 (by omega) hw⟩
    · exact ⟨h, hw, by show b ≤ s.f0; omega, h2, h3⟩
/-- Everything that was there, and the window, lies in one of the list. -/
theorem ins_in : ∀ (r : List S105) (a b : Int), (∃ m ∈ ins r a b, m.f0 ≤ a ∧ b ≤ m.f1) ∧ ∀ s ∈ r, ∃ m ∈ ins r a b, m.f0 ≤ s.f0 ∧ s.f1 ≤ m.f1
  | [], a, b => ⟨⟨⟨a, b⟩, by simp [ins], by simp⟩, fun s h => by cases h⟩
  | s :: r, a, b => by
    unfold ins
    split
    · obtain ⟨⟨m, hm, h1, h2⟩, hr⟩ := ins_in r (mn s.f0 a) (mx s.f1 b)
      have := mn_le1 s.f0 a; have := mn_le2 s.f0 a; have := mx_le1 s.f1 b; have := mx_le2 s.f1 b
      refine ⟨⟨m, hm, by omega, by omega⟩, fun q hq => ?_⟩
      rcases List.mem_cons.1 hq with rfl | hq
      · exact ⟨m, hm, by omega, by omega⟩
      · exact hr q hq
    split
    · obtain ⟨⟨m, hm, h⟩, hr⟩ := ins_in r a b
      refine ⟨⟨m, by simp [hm], h⟩, fun q hq => ?_⟩
      rcases List.mem_cons.1 hq with rfl | hq
      · exact ⟨q, by simp, by omega, by omega⟩
      · obtain ⟨m', hm', h'⟩ := hr q hq
        exact ⟨m', by simp [hm'], h'⟩
    · refine ⟨⟨⟨a, b⟩, by simp, by simp⟩, fun q hq => ⟨q, by simp [List.mem_cons.1 hq], by omega, by omega⟩⟩
/-! the two loops -/
theorem specAdd_l (xs : List S105) (hx : xs.length ≤ 1099511627776) (d : Nat) : ∀ (i k : Nat) (hd tl : List S105) (a b l : Int), i + d = xs.length → d < k →
    hd.length ≤ i → tl.length ≤ i → a < b → SOK l (xs.drop i) → (tl ≠ [] → b ≤ l) →
    ∃ out, spec_SessAdd.l0 k xs hd tl (i : Int) a b = some (if out.length > 300 then [] else out, decide (out.length ≤ 300)) ∧ out = hd ++ (if tl = [] then ins (xs.drop i) a b else ⟨a, b⟩ :: tl ++ xs.drop i) := by
  induction d with
  | zero =>
    intro i k hd tl a b l hi hk hh ht hab hs hl
    obtain ⟨k, rfl⟩ : ∃ m, k = m + 1 := ⟨k - 1, by omega⟩
    refine ⟨hd ++ [(⟨a, b⟩ : S105)] ++ tl, ?_, ?_⟩
    · simp only [spec_SessAdd.l0]
      rw [if_neg (by omega), if_pos (by omega)]
      simp only [Option.bind_some]
      rw [if_pos (by simp; omega)]
      by_cases h3 : ((hd ++ [(⟨a, b⟩ : S105)] ++ tl).length : Int) > 300
      · rw [if_pos h3, if_pos (by omega)]; simp only [Option.some.injEq, Prod.mk.injEq, true_and]; symm; rw [decide_eq_false_iff_not]; omega
      · rw [if_neg h3, if_neg (by omega)]; simp only [Option.some.injEq, Prod.mk.injEq, true_and]; symm; rw [decide_eq_true_iff]; omega
    · rw [List.drop_eq_nil_of_le (by omega)]
      by_cases e : tl = []
      · subst e; simp [ins]
      · rw [if_neg e]; simp
  | succ d ih =>
    intro i k hd tl a b l hi hk hh ht hab hs hl
    obtain ⟨k, rfl⟩ : ∃ m, k = m + 1 := ⟨k - 1, by omega⟩
    rw [drop_cons (by omega)] at hs ⊢
    generalize hg : rd_T105 xs (i : Int) = s at hs ⊢
    obtain ⟨h1, h2, h3⟩ := hs
    have hw := h2
    unfold WOk at hw
    obtain ⟨u, hu, hui⟩ := meet_ev s.f0 s.f1 a b
    simp only [spec_SessAdd.l0]
    rw [if_pos (by omega), if_pos (by omega), hg, hu, w64s (by omega)]
    simp only [Option.bind_some]
    have hs' : SOK l (xs.drop (i + 1)) := by
      cases hr : xs.drop (i + 1) with
      | nil => trivial
      | cons q r => rw [hr] at h3; exact ⟨by have := h3.1; omega, h3.2⟩
    by_cases c1 : s.f0 < b ∧ a < s.f1
    · rw [if_pos (hui.2 c1)]
      have et : tl = [] := by
        apply Classical.byContradiction; intro hne; have := hl hne; omega
      subst et
      obtain ⟨out, ho, ho2⟩ := ih (i + 1) k hd [] (mn s.f0 a) (mx s.f1 b) l (by omega) (by omega) (by omega) (by simp) (by have := mn_le1 s.f0 a; have := mx_le1 s.f1 b; omega) hs' (by simp)
      refine ⟨out, ho, ?_⟩
      rw [ho2, if_pos rfl, if_pos rfl]
      conv => rhs; unfold ins
      rw [if_pos c1]
    · rw [if_neg (fun h => c1 (hui.1 h))]
      by_cases c2 : s.f1 ≤ a
      · have et : tl = [] := by
          apply Classical.byContradiction; intro hne; have := hl hne; omega
        subst et
        rw [if_pos c2, if_pos (by omega)]
        obtain ⟨out, ho, ho2⟩ := ih (i + 1) k (hd ++ [s]) [] a b s.f1 (by omega) (by omega) (by simp; omega) (by simp) hab h3 (by simp)
        refine ⟨out, ho, ?_⟩
        rw [ho2, if_pos rfl, if_pos rfl]
        conv => rhs; unfold ins
        rw [if_neg c1, if_pos c2]; simp
      · rw [if_neg c2, if_pos (by omega)]
        obtain ⟨out, ho, ho2⟩ := ih (i + 1) k hd (tl ++ [s]) a b s.f1 (by omega) (by omega) (by omega) (by simp; omega) hab h3 (by intro _; omega)
        refine ⟨out, ho, ?_⟩
        rw [ho2, if_neg (by simp)]
        by_cases e : tl = []
        · subst e; rw [if_pos rfl]
          conv => rhs; unfold ins
          rw [if_neg c1, if_neg c2]; simp
        · rw [if_neg e]; simp
theorem implAdd_l (xs : List S105) (hx : xs.length ≤ 1099511627776) (d : Nat) : ∀ (i k : Nat) (out : List S105) (put : Bool) (a b l : Int), i + d = xs.length → d < k →
    out.length ≤ 2 * i → a < b → SOK l (xs.drop i) → (put = true → b ≤ l) →
    ∃ o, impl_sessAdd.l0 k out put xs (xs.length : Int) (i : Int) a b = some (o, decide (o.length ≤ 300)) ∧ o = out ++ (if put = true then xs.drop i else ins (xs.drop i) a b) := by
  induction d with
  | zero =>
    intro i k out put a b l hi hk hh hab hs hl
    obtain ⟨k, rfl⟩ : ∃ m, k = m + 1 := ⟨k - 1, by omega⟩
    rw [List.drop_eq_nil_of_le (by omega)]
    simp only [impl_sessAdd.l0]
    rw [if_neg (by omega)]
    cases put with
    | true => exact ⟨out, by rw [if_pos rfl]; simp; omega, by simp⟩
    | false =>
      refine ⟨out ++ [(⟨a, b⟩ : S105)], ?_, by simp [ins]⟩
      rw [if_neg (by simp), if_pos (by omega)]; simp; omega
  | succ d ih =>
    intro i k out put a b l hi hk hh hab hs hl
    obtain ⟨k, rfl⟩ : ∃ m, k = m + 1 := ⟨k - 1, by omega⟩
    rw [drop_cons (by omega)] at hs ⊢
    generalize hg : rd_T105 xs (i : Int) = s at hs ⊢
    obtain ⟨h1, h2, h3⟩ := hs
    have hw := h2
    unfold WOk at hw
    obtain ⟨u, hu, hui⟩ := over_ev s.f0 s.f1 a b
    simp only [impl_sessAdd.l0]
    rw [if_pos (by omega), if_pos (by omega), if_pos (by omega), hg, hu, w64s (by omega)]
    simp only [Option.bind_some]
    have hs' : SOK l (xs.drop (i + 1)) := by
      cases hr : xs.drop (i + 1) with
      | nil => trivial
      | cons q r => rw [hr] at h3; exact ⟨by have := h3.1; omega, h3.2⟩
    by_cases c1 : s.f0 < b ∧ a < s.f1
    · rw [if_pos (hui.2 c1)]
      cases put with
      | true => have := hl rfl; omega
      | false =>
        obtain ⟨o, ho, ho2⟩ := ih (i + 1) k out false (mn a s.f0) (mx b s.f1) l (by omega) (by omega) (by omega) (by have := mn_le1 a s.f0; have := mx_le1 b s.f1; omega) hs' (by simp)
        refine ⟨o, ho, ?_⟩
        rw [ho2, if_neg (by simp), if_neg (by simp), mn_comm a, mx_comm b]
        conv => rhs; unfold ins
        rw [if_pos c1]
    · rw [if_neg (fun h => c1 (hui.1 h))]
      cases put with
      | true =>
        have hb := hl rfl
        rw [if_pos (by omega), if_pos rfl, if_pos (by omega)]
        obtain ⟨o, ho, ho2⟩ := ih (i + 1) k (out ++ [s]) true a b s.f1 (by omega) (by omega) (by simp; omega) hab h3 (by intro _; omega)
        exact ⟨o, ho, by rw [ho2]; simp⟩
      | false =>
        by_cases c2 : s.f0 ≥ b
        · rw [if_pos c2, if_neg (by simp), if_pos (by simp; omega)]
          obtain ⟨o, ho, ho2⟩ := ih (i + 1) k (out ++ [⟨a, b⟩, s]) true a b s.f1 (by omega) (by omega) (by simp; omega) hab h3 (by intro _; omega)
          refine ⟨o, ho, ?_⟩
          rw [ho2, if_pos rfl, if_neg (by simp)]
          conv => rhs; unfold ins
          rw [if_neg c1, if_neg (by omega)]; simp
        · rw [if_neg c2, if_pos (by omega)]
          obtain ⟨o, ho, ho2⟩ := ih (i + 1) k (out ++ [s]) false a b s.f1 (by omega) (by omega) (by simp; omega) hab h3 (by simp)
          refine ⟨o, ho, ?_⟩
          rw [ho2, if_neg (by simp), if_neg (by simp)]
          conv => rhs; unfold ins
          rw [if_neg c1, if_pos (by omega)]; simp
noncomputable def addL (xs : List S105) (a b : Int) : List S105 × Bool := open Classical in
  if OKL xs ∧ WOk a b then (if (ins xs a b).length > 300 then [] else ins xs a b, decide ((ins xs a b).length ≤ 300)) else ([], false)
theorem specAdd_ev {xs : List S105} {a b : Int} {k : Nat} (hx : xs.length ≤ 1000) (hk : 2000 < k) : spec_SessAdd.f k xs a b = some (addL xs a b) := by
  unfold spec_SessAdd.f addL
  obtain ⟨t, ht, hti⟩ := specSessOk_ev (xs := xs) (k := k) (by omega)
  obtain ⟨k, rfl⟩ : ∃ m, k = m + 1 := ⟨k - 1, by omega⟩
  rw [ht]; simp only [Option.bind_some]
  by_cases h1 : OKL xs
  · obtain rfl := hti.2 h1
    obtain ⟨u, hu, hui⟩ := win_ev a b
    rw [if_pos rfl, hu]; simp only [Option.bind_some, spec_SessAdd.j0]
    by_cases h2 : WOk a b
    · obtain rfl := hui.2 h2
      rw [if_neg (by simp), if_pos ⟨h1, h2⟩]
      obtain ⟨o, ho, ho2⟩ := specAdd_l xs (by omega) xs.length 0 k [] [] a b 0 (by omega) (by omega) (by simp) (by simp) h2.2.1 (by simpa using h1.2) (by simp)
      simp at ho2; subst ho2; simpa using ho
    · have hu2 : u = false := by cases u <;> simp_all
      subst hu2
      rw [if_pos (by simp), if_neg (fun h => h2 h.2)]
  · have ht2 : t = false := by cases t <;> simp_all
    subst ht2
    rw [if_neg (by simp), if_neg (fun h => h1 h.1)]; simp only [spec_SessAdd.j0]; rw [if_pos trivial]
theorem Cur.mono {M M' a s : Int} (h : Cur M a s) (hM : M ≤ M') : Cur M' a s := by unfold Cur at *; omega
theorem size_ev {bs : List Int} (hb : Bytes bs) {M a s : Int} (n : Int) (h0 : 0 ≤ n) (h1 : n ≤ 1000) (hc : Cur M a s) (hM : M ≤ 1099511000000) (hl : bs.length ≤ 1099511627776000) :
    ∃ v a' s', spec_l01Cur_size.f bs a s n = some (v, a', s') ∧ 0 ≤ v ∧ v ≤ n ∧ Cur (M + 1) a' s' := by
  unfold spec_l01Cur_size.f
  have e1 : wrap64 ((bs.length : Int) / 8) = (bs.length : Int) / 8 := w64 (by omega) (by omega)
  have e2 : wrap64 (1 + (bs.length : Int) / 8) = 1 + (bs.length : Int) / 8 := w64 (by omega) (by omega)
  have hm := mn_le1 n (1 + (bs.length : Int) / 8)
  have hm2 : 0 ≤ mn n (1 + (bs.length : Int) / 8) := by unfold mn; split <;> omega
  rw [e1, e2, w64 (by omega) (by omega)]
  clear e1 e2
  obtain ⟨v, a1, s1, e, hv, hv', hc1⟩ := pick_ev hb (mn n (1 + (bs.length : Int) / 8) + 1) hc (by omega) hl
  rw [e]; simp only [Option.bind_some]
  exact ⟨_, _, _, rfl, hv, by omega, hc1⟩
theorem same_l (xs : List S105) (hx : xs.length ≤ 1099511627776) (d : Nat) : ∀ (i k : Nat), i + d = xs.length → d < k → laws_sameWins.l0 k xs xs (i : Int) = some true := by
  induction d with
  | zero =>
    intro i k hi hk
    obtain ⟨k, rfl⟩ : ∃ m, k = m + 1 := ⟨k - 1, by omega⟩
    simp only [laws_sameWins.l0]; rw [if_neg (by omega)]
  | succ d ih =>
    intro i k hi hk
    obtain ⟨k, rfl⟩ : ∃ m, k = m + 1 := ⟨k - 1, by omega⟩
    simp only [laws_sameWins.l0]; rw [if_pos (by omega), if_pos (by omega), if_pos (by omega), if_neg (by simp), w64s (by omega)]
    exact ih (i + 1) k (by omega) (by omega)
theorem same_ev {xs : List S105} {k : Nat} (hx : xs.length ≤ 1000) (hk : 1000 < k) : laws_sameWins.f k xs xs = some true := by
  unfold laws_sameWins.f
  rw [if_pos rfl]
  exact same_l xs (by omega) xs.length 0 k (by omega) (by omega)
theorem sok_mem : ∀ {r : List S105} {l : Int}, SOK l r → ∀ s ∈ r, WOk s.f0 s.f1
  | w :: r, l, ⟨h1, h2, h3⟩, s, h => by
    rcases List.mem_cons.1 h with rfl | h
    · exact h2
    · exact sok_mem h3 s h
theorem sok_one : ∀ {r : List S105} {l : Int}, SOK l r → ∀ p ∈ r, ∀ q ∈ r, ∀ t, p.f0 ≤ t → t < p.f1 → q.f0 ≤ t → t < q.f1 → p = q
  | w :: r, l, ⟨h1, h2, h3⟩, p, hp, q, hq, t, a, b, c, d => by
    rcases List.mem_cons.1 hp with rfl | hp2
    · rcases List.mem_cons.1 hq with rfl | hq2
      · rfl
      · have := sok_far h3 q hq2; omega
    · rcases List.mem_cons.1 hq with rfl | hq2
      · have := sok_far h3 p hp2; omega
      · exact sok_one h3 p hp2 q hq2 t a b c d
theorem at_l (xs : List S105) (t : Int) (hx : xs.length ≤ 1099511627776) (hw : ∀ s ∈ xs, WOk s.f0 s.f1) (d : Nat) : ∀ (i k : Nat), i + d = xs.length → d < k → (∃ m ∈ xs.drop i, m.f0 ≤ t ∧ t < m.f1) →
    ∃ n, ∃ h : n < xs.length, impl_sessAt.l0 k t xs (xs.length : Int) (i : Int) = some (n : Int) ∧ xs[n].f0 ≤ t ∧ t < xs[n].f1 := by
  induction d with
  | zero =>
    intro i k hi hk ⟨m, hm, _⟩
    rw [List.drop_eq_nil_of_le (by omega)] at hm; cases hm
  | succ d ih =>
    intro i k hi hk hm
    obtain ⟨k, rfl⟩ : ∃ m, k = m + 1 := ⟨k - 1, by omega⟩
    have hwi := hw _ (List.getElem_mem (show i < xs.length by omega))
    rw [List.drop_eq_getElem_cons (by omega)] at hm
    simp only [impl_sessAt.l0]
    rw [if_pos (by omega), if_pos (by omega), if_pos (by omega), rdT_get (by omega), w64s (by omega)]
    unfold impl_Win_has.f impl_in.f
    unfold WOk at hwi
    rw [w64 (n := (xs[i]'(by omega)).f1 - 1) (by omega) (by omega)]
    by_cases c : (xs[i]'(by omega)).f0 ≤ t
    · rw [if_pos c]; simp only [Option.bind_some]
      by_cases c2 : t ≤ (xs[i]'(by omega)).f1 - 1
      · rw [if_pos (by simpa using c2)]
        exact ⟨i, by omega, rfl, c, by omega⟩
      · rw [if_neg (by simpa using c2)]
        refine ih (i + 1) k (by omega) (by omega) ?_
        obtain ⟨m, hm, h1, h2⟩ := hm
        rcases List.mem_cons.1 hm with rfl | hm
        · omega
        · exact ⟨m, hm, h1, h2⟩
    · rw [if_neg c]; simp only [Option.bind_some]
      rw [if_neg (by simp)]
      refine ih (i + 1) k (by omega) (by omega) ?_
      obtain ⟨m, hm, h1, h2⟩ := hm
      rcases List.mem_cons.1 hm with rfl | hm
      · omega
      · exact ⟨m, hm, h1, h2⟩
theorem once_ev {bs : List Int} (hb : Bytes bs) {M a s : Int} (n : Int) (hc : Cur M a s) (hM : M ≤ 1099511000000) (hl : bs.length ≤ 1099511627776000) :
    ∃ b a' s', spec_l01Cur_once.f bs a s n = some (b, a', s') ∧ Cur (M + 1) a' s' := by
  unfold spec_l01Cur_once.f
  obtain ⟨v, a1, s1, e, hv, hv', hc1⟩ := pick_ev hb n hc (by omega) hl
  rw [e, Option.bind_some]
  exact ⟨_, _, _, rfl, hc1⟩
theorem wdef_ev {bs : List Int} (hb : Bytes bs) {M a s : Int} {k : Nat} (hk : 3 < k) (hc : Cur M a s) (hM : M ≤ 1000000) (hl : bs.length ≤ 1099511627776000) :
    ∃ x y z a' s', spec_l01Cur_win.f k bs a s = some (x, y, z, a', s') ∧ Cur (M + 10) a' s' := by
  have hj : ∀ (k : Nat) (x y z M a s : Int), 1 < k → Cur M a s → M ≤ 1000010 → ∃ x' y' z' a' s', spec_l01Cur_win.j0 k bs a s x y z = some (x', y', z', a', s') ∧ Cur (M + 3) a' s' := by
    intro k x y z M a s hk hc hM
    obtain ⟨k, rfl⟩ : ∃ m, k = m + 1 := ⟨k - 1, by omega⟩
    rw [spec_l01Cur_win.j0]
    by_cases c : x = 2
    · rw [if_pos c]
      obtain ⟨b, a1, s1, e, hc1⟩ := once_ev hb 2 hc (by omega) hl
      rw [e, Option.bind_some]; dsimp only
      by_cases cb : b = true
      · rw [if_pos cb]
        obtain ⟨v, a2, s2, e2, _, _, hc2⟩ := pick_ev hb y hc1 (by omega) hl
        rw [e2, Option.bind_some]
        exact ⟨_, _, _, _, _, rfl, hc2.mono (by omega)⟩
      · rw [if_neg cb]; exact ⟨_, _, _, _, _, rfl, hc1.mono (by omega)⟩
    · rw [if_neg c]; exact ⟨_, _, _, _, _, rfl, hc.mono (by omega)⟩
  unfold spec_l01Cur_win.f
  obtain ⟨v, a1, s1, e, hv, hv', hc1⟩ := pick_ev hb 3 hc (by omega) hl
  rw [e, Option.bind_some, Option.bind_some]; dsimp only
  obtain ⟨v2, a2, s2, e2, hv2, hv2', hc2⟩ := pick_ev hb 4 hc1 (by omega) hl
  rw [e2, Option.bind_some]; dsimp only
  rw [if_pos hv2, if_pos (by simp; omega)]
  obtain ⟨b, a3, s3, e3, hc3⟩ := once_ev hb 2 hc2 (by omega) hl
  rw [e3, Option.bind_some]; dsimp only
  by_cases cb : b = true
  · rw [if_pos cb]
    obtain ⟨v4, a4, s4, e4, _, _, hc4⟩ := pick_ev hb 12 hc3 (by omega) hl
    rw [e4, Option.bind_some]; dsimp only
    obtain ⟨x, y, z, a', s', h, h2⟩ := hj k (wrap64 (1 + v)) (wrap64 (1 + v4)) 0 _ a4 s4 (by omega) hc4 (by omega)
    exact ⟨x, y, z, a', s', h, h2.mono (by omega)⟩
  · rw [if_neg cb]
    obtain ⟨x, y, z, a', s', h, h2⟩ := hj k (wrap64 (1 + v)) (rd [1, 5, 10, 100] v2) 0 _ a3 s3 (by omega) hc3 (by omega)
    exact ⟨x, y, z, a', s', h, h2.mono (by omega)⟩
theorem badWin_ev {bs : List Int} (hb : Bytes bs) {M a s : Int} {k : Nat} (hk : 3 < k) (hc : Cur M a s) (hM : M ≤ 100000) (hl : bs.length ≤ 1099511627776000) :
    ∃ x y z a' s', spec_l01Cur_badWin.f k bs a s = some (x, y, z, a', s') ∧ Cur (M + 20) a' s' := by
  unfold spec_l01Cur_badWin.f
  obtain ⟨x, y, z, a1, s1, e, hc1⟩ := wdef_ev hb hk hc (by omega) hl
  rw [e, Option.bind_some]; dsimp only
  obtain ⟨v2, a2, s2, e2, hv2, hv2', hc2⟩ := pick_ev hb 12 hc1 (by omega) hl
  rw [e2, Option.bind_some]; dsimp only
  obtain ⟨v3, a3, s3, e3, _, _, hc3⟩ := raw_ev hb hc2 (by omega) hl
  obtain ⟨v4, a4, s4, e4, hv4, hv4', hc4⟩ := pick_ev hb 3 hc3 (by omega) hl
  by_cases c0 : v2 = 0
  · rw [if_pos c0, e3, Option.bind_some, Option.bind_some]; dsimp only
    rw [e4, Option.bind_some]; dsimp only
    rw [if_pos hv4, if_pos (by simp; omega)]
    exact ⟨_, _, _, _, _, rfl, hc4.mono (by omega)⟩
  rw [if_neg c0]
  by_cases c1 : v2 = 1
  · rw [if_pos c1, e3, Option.bind_some, Option.bind_some]; dsimp only
    rw [e4, Option.bind_some]; dsimp only
    rw [if_pos hv4, if_pos (by simp; omega)]
    exact ⟨_, _, _, _, _, rfl, hc4.mono (by omega)⟩
  rw [if_neg c1]
  by_cases c2 : v2 = 2
  · rw [if_pos c2, e3, Option.bind_some, Option.bind_some]; dsimp only
    rw [e4, Option.bind_some]; dsimp only
    rw [if_pos hv4, if_pos (by simp; omega)]
    exact ⟨_, _, _, _, _, rfl, hc4.mono (by omega)⟩
  rw [if_neg c2]
  exact ⟨_, _, _, _, _, rfl, hc2.mono (by omega)⟩
theorem time_ev {bs : List Int} (hb : Bytes bs) {M a s : Int} (hc : Cur M a s) (hM : M ≤ 1000000) (hl : bs.length ≤ 1099511627776000) :
    ∃ x a' s', spec_l01Cur_time.f bs a s = some (x, a', s') ∧ Cur (M + 10) a' s' := by
  unfold spec_l01Cur_time.f
  obtain ⟨v, a1, s1, e, hv, hv', hc1⟩ := pick_ev hb 60 hc (by omega) hl
  rw [e, Option.bind_some]; dsimp only
  obtain ⟨v2, a2, s2, e2, hv2, hv2', hc2⟩ := pick_ev hb 60 hc1 (by omega) hl
  rw [e2, Option.bind_some]; dsimp only
  obtain ⟨v3, a3, s3, e3, _, _, hc3⟩ := raw_ev hb hc2 (by omega) hl
  rw [e3, Option.bind_some, Option.bind_some]; dsimp only
  obtain ⟨v4, a4, s4, e4, hv4, hv4', hc4⟩ := pick_ev hb 5 hc3 (by omega) hl
  rw [e4, Option.bind_some]; dsimp only
  rw [if_pos hv4, if_pos (by simp; omega)]
  exact ⟨_, _, _, rfl, hc4.mono (by omega)⟩
def WDef (kd sz st : Int) : Prop := 1 ≤ sz ∧ sz ≤ 100 ∧ ((kd = 1 ∨ kd = 3) ∧ st = 0 ∨ kd = 2 ∧ 1 ≤ st ∧ st ≤ sz ∧ sz ≤ 8 * st)
theorem isWinDef_ev (kd sz st : Int) {k : Nat} (hk : 1 < k) : ∃ t, impl_isWinDef.f k kd sz st = some t ∧ (t = true ↔ WDef kd sz st) := by
  obtain ⟨k, rfl⟩ : ∃ m, k = m + 1 := ⟨k - 1, by omega⟩
  unfold impl_isWinDef.f impl_in.f WDef
  by_cases c1 : 1 ≤ sz
  · rw [if_pos c1, Option.bind_some]
    by_cases c2 : sz ≤ 100
    · rw [if_pos (by simpa using c2)]
      by_cases c3 : kd = 1
      · rw [if_pos c3]; subst c3
        simp only [impl_isWinDef.j0]
        rw [if_pos (by simp)]
        refine ⟨_, rfl, ?_⟩
        simp; omega
      · rw [if_neg c3]
        simp only [impl_isWinDef.j0]
        by_cases c4 : kd = 3
        · subst c4
          rw [if_pos (by simp)]
          refine ⟨_, rfl, ?_⟩
          simp; omega
        · rw [if_neg (by simpa using c4)]
          by_cases c5 : kd = 2
          · rw [if_pos c5]; unfold impl_in.f
            by_cases c6 : 1 ≤ st
            · rw [if_pos c6, Option.bind_some]
              by_cases c7 : st ≤ sz
              · rw [if_pos (by simpa using c7), w64 (by omega) (by omega)]
                refine ⟨_, rfl, ?_⟩
                simp; omega
              · rw [if_neg (by simpa using c7)]
                refine ⟨_, rfl, ?_⟩
                simp; omega
            · rw [if_neg c6, Option.bind_some, if_neg (by simp)]
              refine ⟨_, rfl, ?_⟩
              simp; omega
          · rw [if_neg c5]
            refine ⟨_, rfl, ?_⟩
            simp; omega
    · rw [if_neg (by simpa using c2)]
      refine ⟨_, rfl, ?_⟩
      simp; omega
  · rw [if_neg c1, Option.bind_some, if_neg (by simp)]
    refine ⟨_, rfl, ?_⟩
    simp; omega
theorem specWinOk_ev (kd sz st : Int) {k : Nat} (hk : 1 < k) : ∃ t, spec_WinOk.f k kd sz st = some t ∧ (t = true ↔ WDef kd sz st) := by
  obtain ⟨k, rfl⟩ : ∃ m, k = m + 1 := ⟨k - 1, by omega⟩
  unfold spec_WinOk.f WDef
  simp only [spec_WinOk.j0]
  by_cases c1 : kd < 1
  · rw [if_pos c1, if_pos trivial]; refine ⟨_, rfl, ?_⟩; simp; omega
  rw [if_neg c1]
  by_cases c2 : kd > 3
  · rw [if_pos c2, if_pos trivial]; refine ⟨_, rfl, ?_⟩; simp; omega
  rw [if_neg c2]
  by_cases c3 : sz < 1
  · rw [if_pos c3, if_pos trivial]; refine ⟨_, rfl, ?_⟩; simp; omega
  rw [if_neg c3]
  by_cases c4 : sz > 100
  · rw [if_pos (by simpa using c4)]; refine ⟨_, rfl, ?_⟩; simp; omega
  rw [if_neg (by simpa using c4)]
  by_cases c5 : kd = 2
  · rw [if_pos c5]
    by_cases c6 : st ≥ 1
    · rw [if_pos c6]
      by_cases c7 : st ≤ sz
      · rw [if_pos c7, w64 (by omega) (by omega)]; refine ⟨_, rfl, ?_⟩; simp; omega
      · rw [if_neg c7]; refine ⟨_, rfl, ?_⟩; simp; omega
    · rw [if_neg c6]; refine ⟨_, rfl, ?_⟩; simp; omega
  · rw [if_neg c5]; refine ⟨_, rfl, ?_⟩; simp; omega
theorem isTime_ev (t : Int) : ∃ b, impl_isTime.f t = some b ∧ (b = true ↔ (0 ≤ t ∧ t ≤ 1000)) := by
  unfold impl_isTime.f impl_in.f
  by_cases c : 0 ≤ t
  · rw [if_pos c, Option.bind_some]; refine ⟨_, rfl, ?_⟩; simp; omega
  · rw [if_neg c, Option.bind_some]; refine ⟨_, rfl, ?_⟩; simp; omega
theorem specTime_ev (t : Int) : ∃ b, spec_l05Time.f t = some b ∧ (b = true ↔ (0 ≤ t ∧ t ≤ 1000)) := by
  unfold spec_l05Time.f
  by_cases c : t ≥ 0
  · rw [if_pos c]; refine ⟨_, rfl, ?_⟩; simp; omega
  · rw [if_neg c]; refine ⟨_, rfl, ?_⟩; simp; omega

/-! what insertions do together -/
theorem sok_le {l l' : Int} : ∀ {r : List S105}, SOK l r → l' ≤ l → SOK l' r
  | [], _, _ => trivial
  | w :: r, ⟨h1, h2, h3⟩, h => ⟨by omega, h2, h3⟩
theorem ins_low {X : List S105} {l a b : Int} (h : SOK l X) (hb : b ≤ l) (hab : a < b) : ins X a b = ⟨a, b⟩ :: X := by
  cases X with
  | nil => rfl
  | cons x r =>
    obtain ⟨h1, h2, _⟩ := h
    unfold WOk at h2
    unfold ins
    rw [if_neg (by omega), if_neg (by omega)]
theorem ins_meet {s : S105} {r : List S105} {a b : Int} (h : s.f0 < b ∧ a < s.f1) : ins (s :: r) a b = ins r (mn s.f0 a) (mx s.f1 b) := by
  conv => lhs; unfold ins
  rw [if_pos h]
theorem ins_after {s : S105} {r : List S105} {a b : Int} (h : s.f1 ≤ a) : ins (s :: r) a b = s :: ins r a b := by
  conv => lhs; unfold ins
  rw [if_neg (by omega), if_pos h]
theorem ins_before {s : S105} {r : List S105} {a b : Int} (h : b ≤ s.f0) (h2 : s.f0 < s.f1) (h3 : a < b) : ins (s :: r) a b = ⟨a, b⟩ :: s :: r := by
  conv => lhs; unfold ins
  rw [if_neg (by omega), if_neg (by omega)]
theorem mn_assoc (a b c : Int) : mn (mn a b) c = mn a (mn b c) := by
  unfold mn
  by_cases h1 : b < a <;> by_cases h2 : c < b <;> by_cases h3 : c < a <;> simp only [h1, h2, h3, if_true, if_false] <;> omega
theorem mx_assoc (a b c : Int) : mx (mx a b) c = mx a (mx b c) := by
  unfold mx
  by_cases h1 : a < b <;> by_cases h2 : b < c <;> by_cases h3 : a < c <;> simp only [h1, h2, h3, if_true, if_false] <;> omega
theorem mn_iff (a b c : Int) : c ≤ mn a b ↔ c ≤ a ∧ c ≤ b := by unfold mn; split <;> omega
theorem mn_lt (a b c : Int) : mn a b < c ↔ a < c ∨ b < c := by unfold mn; split <;> omega
theorem mx_lt (a b c : Int) : c < mx a b ↔ c < a ∨ c < b := by unfold mx; split <;> omega
-- Two windows that overlap go in as one.
theorem ins_merge : ∀ (X : List S105) (l a b c d : Int), SOK l X → WOk a b → WOk c d → a < d → c < b → ins (ins X a b) c d = ins X (mn a c) (mx b d)
  | [], l, a, b, c, d, _, h1, h2, h3, h4 => by
    rw [show ins [] a b = [⟨a, b⟩] from rfl, ins_meet ⟨h3, h4⟩]
  | s :: r, l, a, b, c, d, ⟨k1, k2, k3⟩, h1, h2, h3, h4 => by
    have hs := k2
    have hab := h1
    have hcd := h2
    unfold WOk at hs hab hcd
    by_cases A1 : s.f0 < b ∧ a < s.f1
    · rw [ins_meet A1, ins_merge r _ _ _ _ _ k3 (wok_merge k2 h1) h2 (by rw [mn_lt]; omega) (by rw [mx_lt]; omega), ins_meet (by rw [mx_lt, mn_lt]; omega), mn_assoc, mx_assoc]
    by_cases A2 : s.f1 ≤ a
    · rw [ins_after A2]
      by_cases B1 : s.f0 < d ∧ c < s.f1
      · rw [ins_meet B1, ins_merge r _ _ _ _ _ k3 h1 (wok_merge k2 h2) (by rw [mx_lt]; omega) (by rw [mn_lt]; omega), ins_meet (by rw [mx_lt, mn_lt]; omega)]
        rw [← mn_assoc, mn_comm a s.f0, mn_assoc, ← mx_assoc, mx_comm b s.f1, mx_assoc]
      · have B2 : s.f1 ≤ c := by omega
        rw [ins_after B2, ins_merge r _ _ _ _ _ k3 h1 h2 h3 h4, ins_after (by rw [mn_iff]; omega)]
    · have A3 : b ≤ s.f0 := by omega
      rw [ins_before A3 hs.2.1 hab.2.1, ins_meet (s := ⟨a, b⟩) ⟨h3, h4⟩]
theorem ins_comm1 : ∀ (X : List S105) (l a b c d : Int), SOK l X → WOk a b → WOk c d → b ≤ c → ins (ins X a b) c d = ins (ins X c d) a b
  | [], l, a, b, c, d, _, h1, h2, h3 => by
    have hab := h1
    have hcd := h2
    unfold WOk at hab hcd
    rw [show ins [] a b = [⟨a, b⟩] from rfl, show ins [] c d = [⟨c, d⟩] from rfl, ins_after (s := ⟨a, b⟩) h3, ins_before (s := ⟨c, d⟩) h3 hcd.2.1 hab.2.1]; rfl
  | s :: r, l, a, b, c, d, ⟨k1, k2, k3⟩, h1, h2, h3 => by
    have hs := k2
    have hab := h1
    have hcd := h2
    unfold WOk at hs hab hcd
    by_cases A1 : s.f0 < b ∧ a < s.f1
    · rw [ins_meet A1]
      by_cases B1 : s.f0 < d ∧ c < s.f1
      · rw [ins_meet B1, ins_merge r _ _ _ _ _ k3 (wok_merge k2 h1) h2 (by rw [mn_lt]; omega) (by rw [mx_lt]; omega), ins_merge r _ _ _ _ _ k3 (wok_merge k2 h2) h1 (by rw [mn_lt]; omega) (by rw [mx_lt]; omega)]
        rw [mn_assoc, mn_assoc, mn_comm a c, mx_assoc, mx_assoc, mx_comm b d]
      · have B2 : s.f1 ≤ c := by omega
        rw [ins_after B2, ins_meet A1]
        -- the merged window may now reach the other one
        by_cases O : mx s.f1 b ≤ c
        · exact ins_comm1 r _ _ _ _ _ k3 (wok_merge k2 h1) h2 O
        · have hO : mx s.f1 b = b ∨ mx s.f1 b = s.f1 := by unfold mx; split <;> simp
          omega
    by_cases A2 : s.f1 ≤ a
    · have B2 : s.f1 ≤ c := by omega
      rw [ins_after A2, ins_after B2, ins_after B2, ins_after A2, ins_comm1 r _ _ _ _ _ k3 h1 h2 h3]
    · have A3 : b ≤ s.f0 := by omega
      rw [ins_before A3 hs.2.1 hab.2.1, ins_after (s := ⟨a, b⟩) h3]
      by_cases B1 : s.f0 < d ∧ c < s.f1
      · rw [ins_meet B1]
        refine (ins_low (l := mn s.f0 c) (ins_sok r _ _ _ (sok_le k3 (by have := mn_le1 s.f0 c; omega)) (Int.le_refl _) (wok_merge k2 h2)) ?_ hab.2.1).symm
        rw [mn_iff]; omega
      by_cases B2 : s.f1 ≤ c
      · rw [ins_after B2, ins_before A3 hs.2.1 hab.2.1]
      · rw [ins_before (s := s) (by omega) hs.2.1 hcd.2.1, ins_before (s := ⟨c, d⟩) h3 hcd.2.1 hab.2.1]
theorem ins_comm {X : List S105} {l a b c d : Int} (h : SOK l X) (h1 : WOk a b) (h2 : WOk c d) : ins (ins X a b) c d = ins (ins X c d) a b := by
  by_cases k1 : b ≤ c
  · exact ins_comm1 X l a b c d h h1 h2 k1
  by_cases k2 : d ≤ a
  · exact (ins_comm1 X l c d a b h h2 h1 k2).symm
  · rw [ins_merge X l a b c d h h1 h2 (by omega) (by omega), ins_merge X l c d a b h h2 h1 (by omega) (by omega), mn_comm a c, mx_comm b d]
def allIns (X ws : List S105) : List S105 := ws.foldl (fun acc w => ins acc w.f0 w.f1) X
def Ws (ws : List S105) : Prop := ∀ w ∈ ws, WOk w.f0 w.f1
theorem allIns_cons (X : List S105) (w : S105) (ws : List S105) : allIns X (w :: ws) = allIns (ins X w.f0 w.f1) ws := rfl
theorem allIns_snoc (X : List S105) (w : S105) (ws : List S105) : allIns X (ws ++ [w]) = ins (allIns X ws) w.f0 w.f1 := by simp [allIns]
theorem allIns_append (X ws vs : List S105) : allIns X (ws ++ vs) = allIns (allIns X ws) vs := by simp [allIns]
theorem wok_lo {a b : Int} (h : WOk a b) : 0 ≤ a := h.1
theorem allIns_sok : ∀ (ws X : List S105), Ws ws → SOK 0 X → SOK 0 (allIns X ws)
  | [], X, _, h => h
  | w :: ws, X, hw, h => allIns_sok ws _ (fun v hv => hw v (by simp [hv])) (ins_sok X 0 _ _ h (wok_lo (hw w (by simp))) (hw w (by simp)))
theorem allIns_len : ∀ (ws X : List S105), (allIns X ws).length ≤ X.length + ws.length
  | [], X => by simp [allIns]
  | w :: ws, X => by
    have := allIns_len ws (ins X w.f0 w.f1)
    have := ins_len X w.f0 w.f1
    rw [allIns_cons]; simp; omega
theorem allIns_ins : ∀ (ws X : List S105) (a b : Int), Ws ws → SOK 0 X → WOk a b → allIns (ins X a b) ws = ins (allIns X ws) a b
  | [], _, _, _, _, _, _ => rfl
  | w :: ws, X, a, b, hw, h, h1 => by
    have hw0 := hw w (by simp)
    rw [allIns_cons, ins_comm h h1 hw0, allIns_ins ws _ a b (fun v hv => hw v (by simp [hv])) (ins_sok X 0 _ _ h (wok_lo hw0) hw0) h1, allIns_cons]
theorem allIns_reverse : ∀ (ws X : List S105), Ws ws → SOK 0 X → allIns X ws.reverse = allIns X ws
  | [], _, _, _ => rfl
  | w :: ws, X, hw, h => by
    have hw' : Ws ws := fun v hv => hw v (by simp [hv])
    rw [List.reverse_cons, allIns_snoc, allIns_reverse ws X hw' h, allIns_cons, allIns_ins ws X _ _ hw' h (hw w (by simp))]
theorem allIns_of_ins : ∀ (Y A : List S105) (l a b : Int), SOK 0 A → 0 ≤ l → SOK l Y → WOk a b → allIns A (ins Y a b) = ins (allIns A Y) a b
  | [], A, l, a, b, _, _, _, _ => rfl
  | s :: r, A, l, a, b, hA, hl, ⟨k1, k2, k3⟩, h1 => by
    have hs := k2
    have hab := h1
    unfold WOk at hs hab
    have hA' := ins_sok A 0 _ _ hA (wok_lo k2) k2
    have hr : Ws r := sok_mem k3
    by_cases A1 : s.f0 < b ∧ a < s.f1
    · rw [ins_meet A1, allIns_of_ins r A s.f1 _ _ hA (by omega) k3 (wok_merge k2 h1), allIns_cons, allIns_ins r A _ _ hr hA k2, ins_merge _ 0 _ _ _ _ (allIns_sok r A hr hA) k2 h1 A1.1 A1.2]
    by_cases A2 : s.f1 ≤ a
    · rw [ins_after A2, allIns_cons, allIns_of_ins r _ s.f1 a b hA' (by omega) k3 h1, allIns_cons]
    · rw [ins_before (by omega) hs.2.1 hab.2.1, allIns_cons, allIns_ins (s :: r) A a b (sok_mem (l := l) ⟨k1, k2, k3⟩) hA h1]
theorem allIns_join (A : List S105) (hA : SOK 0 A) : ∀ (ws : List S105), Ws ws → ∀ n, ws.length = n → allIns A (allIns [] ws) = allIns A ws := by
  intro ws hw n hn
  induction n generalizing ws with
  | zero => rw [List.length_eq_zero_iff.1 hn]; rfl
  | succ n ih =>
    have hne : ws ≠ [] := by intro e; subst e; cases hn
    obtain ⟨vs, w, rfl⟩ : ∃ vs w, ws = vs ++ [w] := ⟨ws.dropLast, ws.getLast hne, (List.dropLast_concat_getLast hne).symm⟩
    have hv : Ws vs := fun v h => hw v (by simp [h])
    rw [allIns_snoc, allIns_of_ins _ A 0 _ _ hA (by omega) (allIns_sok vs [] hv trivial) (hw w (by simp)), ih vs hv (by simpa using hn), allIns_snoc]
theorem allIns_in : ∀ (ws X : List S105), (∀ s ∈ X, ∃ m ∈ allIns X ws, m.f0 ≤ s.f0 ∧ s.f1 ≤ m.f1) ∧ ∀ w ∈ ws, ∃ m ∈ allIns X ws, m.f0 ≤ w.f0 ∧ w.f1 ≤ m.f1
  | [], X => ⟨fun s hs => ⟨s, hs, by omega, by omega⟩, fun w hw => by cases hw⟩
  | w :: ws, X => by
    obtain ⟨h1, h2⟩ := allIns_in ws (ins X w.f0 w.f1)
    obtain ⟨⟨m0, hm0, g1, g2⟩, i2⟩ := ins_in X w.f0 w.f1
    rw [allIns_cons]
    refine ⟨fun s hs => ?_, fun v hv => ?_⟩
    · obtain ⟨m, hm, k1, k2⟩ := i2 s hs
      obtain ⟨m', hm', k3, k4⟩ := h1 m hm
      exact ⟨m', hm', by omega, by omega⟩
    · rcases List.mem_cons.1 hv with rfl | hv
      · obtain ⟨m', hm', k3, k4⟩ := h1 m0 hm0
        exact ⟨m', hm', by omega, by omega⟩
      · exact h2 v hv

/-! sessions of times -/
def ws (sz : Int) (times : List Int) : List S105 := times.map fun t => ⟨t, t + sz⟩
def TOk (times : List Int) : Prop := ∀ t ∈ times, 0 ≤ t ∧ t ≤ 1000
theorem ws_ok {sz : Int} (h1 : 1 ≤ sz) (h2 : sz ≤ 100) {times : List Int} (h : TOk times) : Ws (ws sz times) := by
  intro w hw
  obtain ⟨t, ht, rfl⟩ := List.mem_map.1 hw
  have := h t ht
  unfold WOk; simp only; omega
theorem rd_get {xs : List Int} {i : Nat} (h : i < xs.length) : rd xs (i : Int) = xs[i] := by
  unfold rd
  rw [List.getD_eq_getElem?_getD]
  simp [List.getElem?_eq_getElem h]
theorem drop_consI {xs : List Int} {i : Nat} (h : i < xs.length) : xs.drop i = rd xs (i : Int) :: xs.drop (i + 1) := by
  rw [rd_get h]; exact List.drop_eq_getElem_cons h
theorem tok_cons (t : Int) (r : List Int) : TOk (t :: r) ↔ (0 ≤ t ∧ t ≤ 1000) ∧ TOk r := by
  unfold TOk; simp
theorem specWins3 {sz t : Int} {k : Nat} (hk : 3 < k) (hd : WDef 3 sz 0) (h : 0 ≤ t ∧ t ≤ 1000) : spec_WinsOf.f k 3 sz 0 t = some [⟨t, t + sz⟩] := by
  obtain ⟨k, rfl⟩ : ∃ m, k = m + 1 := ⟨k - 1, by omega⟩
  unfold spec_WinsOf.f
  obtain ⟨b, hb, hbi⟩ := specWinOk_ev 3 sz 0 (k := k + 1) (by omega)
  obtain ⟨b2, hb2, hbi2⟩ := specTime_ev t
  rw [hb, hbi.2 hd, Option.bind_some, if_pos rfl, hb2, hbi2.2 h, Option.bind_some, spec_WinsOf.j0, if_neg (by simp), if_neg (by omega), if_pos rfl]
  clear hb hbi hb2 hbi2
  unfold WDef at hd
  rw [w64 (by omega) (by omega)]
theorem specSessOf_l {sz : Int} (hd : WDef 3 sz 0) (times : List Int) (hl : times.length ≤ 300) (d : Nat) : ∀ (i k : Nat) (acc : List S105), i + d = times.length → 3000 + d < k → SOK 0 acc → acc.length ≤ i →
    (TOk (times.drop i) → spec_SessOf.l0 k times acc (i : Int) 3 sz 0 = some (allIns acc (ws sz (times.drop i)), true)) ∧ (¬ TOk (times.drop i) → spec_SessOf.l0 k times acc (i : Int) 3 sz 0 = some ([], false)) := by
  have hd' := hd
  unfold WDef at hd'
  induction d with
  | zero =>
    intro i k acc hi hk hs ha
    obtain ⟨k, rfl⟩ : ∃ m, k = m + 1 := ⟨k - 1, by omega⟩
    rw [List.drop_eq_nil_of_le (by omega), spec_SessOf.l0, if_neg (by omega)]
    exact ⟨fun _ => rfl, fun h => absurd (by intro t ht; cases ht) h⟩
  | succ d ih =>
    intro i k acc hi hk hs ha
    obtain ⟨k, rfl⟩ : ∃ m, k = m + 1 := ⟨k - 1, by omega⟩
    rw [drop_consI (by omega), tok_cons, spec_SessOf.l0, if_pos (by omega), if_pos (by omega)]
    generalize rd times (i : Int) = t
    obtain ⟨b, hb, hbi⟩ := specTime_ev t
    rw [hb, Option.bind_some]
    by_cases ht : 0 ≤ t ∧ t ≤ 1000
    · obtain rfl := hbi.2 ht
      clear hb hbi
      have hw : WOk t (t + sz) := by unfold WOk; omega
      have hok : OKL acc ∧ WOk t (t + sz) := ⟨⟨by omega, hs⟩, hw⟩
      have hlen := ins_len acc t (t + sz)
      have hadd : addL acc t (t + sz) = (ins acc t (t + sz), true) := by
        unfold addL; rw [if_pos hok, if_neg (by omega), decide_eq_true (by omega)]
      rw [if_pos rfl, specWins3 (by omega) hd ht, Option.bind_some, if_pos (by simp)]
      rw [show rd_T105 [(⟨t, t + sz⟩ : S105)] 0 = ⟨t, t + sz⟩ from rfl]
      dsimp only
      rw [specAdd_ev (by omega) (by omega), hadd, Option.bind_some, w64s (by omega)]
      dsimp only
      obtain ⟨y1, y2⟩ := ih (i + 1) k (ins acc t (t + sz)) (by omega) (by omega) (ins_sok acc 0 _ _ hs ht.1 hw) (by omega)
      exact ⟨fun h => y1 h.2, fun h => y2 (fun h' => h ⟨ht, h'⟩)⟩
    · have hf : b = false := eq_false_of_ne_true (fun h => ht (hbi.1 h))
      subst hf
      rw [if_neg (by simp)]
      exact ⟨fun h => absurd h.1 ht, fun _ => rfl⟩
theorem implWins3 {sz t : Int} {k : Nat} (hd : WDef 3 sz 0) (h : 0 ≤ t ∧ t ≤ 1000) : impl_winsOf.f k 3 sz 0 t = some [⟨t, t + sz⟩] := by
  unfold WDef at hd
  unfold impl_winsOf.f
  rw [if_neg (by omega), if_pos rfl, w64 (by omega) (by omega)]
theorem implAdd1 {xs : List S105} {a b : Int} {k : Nat} (hs : SOK 0 xs) (hx : xs.length ≤ 1000) (hab : a < b) (hk : 1000 < k) : impl_sessAdd.f k xs a b = some (ins xs a b, decide ((ins xs a b).length ≤ 300)) := by
  obtain ⟨o, ho, ho2⟩ := implAdd_l xs (by omega) xs.length 0 k [] false a b 0 (by omega) (by omega) (by simp) hab (by simpa using hs) (by simp)
  simp at ho2; subst ho2
  unfold impl_sessAdd.f
  simpa using ho
theorem sessAll_l (vs : List S105) (hv : Ws vs) (hl : vs.length ≤ 1000) (d : Nat) : ∀ (i k : Nat) (acc : List S105), i + d = vs.length → 2000 + d < k → SOK 0 acc → acc.length + d ≤ 300 →
    impl_sessAll.l0 k acc vs (vs.length : Int) (i : Int) = some (allIns acc (vs.drop i), true) := by
  induction d with
  | zero =>
    intro i k acc hi hk hs ha
    obtain ⟨k, rfl⟩ : ∃ m, k = m + 1 := ⟨k - 1, by omega⟩
    rw [List.drop_eq_nil_of_le (by omega), impl_sessAll.l0, if_neg (by omega)]; rfl
  | succ d ih =>
    intro i k acc hi hk hs ha
    obtain ⟨k, rfl⟩ : ∃ m, k = m + 1 := ⟨k - 1, by omega⟩
    have hw := hv _ (List.getElem_mem (show i < vs.length by omega))
    rw [← rdT_get (by omega)] at hw
    have hlen := ins_len acc (rd_T105 vs (i : Int)).f0 (rd_T105 vs (i : Int)).f1
    rw [drop_cons (by omega), allIns_cons, impl_sessAll.l0, if_pos (by omega), if_pos (by omega), if_pos (by omega), implAdd1 hs (by omega) hw.2.1 (by omega), Option.bind_some]
    dsimp only
    rw [if_pos (decide_eq_true (by omega)), w64s (by omega)]
    exact ih (i + 1) k _ (by omega) (by omega) (ins_sok acc 0 _ _ hs (wok_lo hw) hw) (by omega)
theorem sessAll_ev {xs vs : List S105} (hv : Ws vs) (hs : SOK 0 xs) (hl : xs.length + vs.length ≤ 300) {k : Nat} (hk : 3000 < k) : impl_sessAll.f k xs vs = some (allIns xs vs, true) := by
  have := sessAll_l vs hv (by omega) vs.length 0 k xs (by omega) (by omega) hs (by omega)
  unfold impl_sessAll.f
  rw [Option.bind_some, if_pos (by simp; omega), List.nil_append]
  simpa using this
theorem implSessOf_l {sz : Int} (hd : WDef 3 sz 0) (times : List Int) (hl : times.length ≤ 300) (d : Nat) : ∀ (i k : Nat) (acc : List S105), i + d = times.length → 4000 + d < k → Ws acc → acc.length = i →
    (TOk (times.drop i) → impl_SessOf.l0 k acc times (times.length : Int) (i : Int) 3 sz 0 = some (allIns [] (acc ++ ws sz (times.drop i)), true)) ∧ (¬ TOk (times.drop i) → impl_SessOf.l0 k acc times (times.length : Int) (i : Int) 3 sz 0 = some ([], false)) := by
  have hd' := hd
  unfold WDef at hd'
  induction d with
  | zero =>
    intro i k acc hi hk hs ha
    obtain ⟨k, rfl⟩ : ∃ m, k = m + 1 := ⟨k - 1, by omega⟩
    rw [List.drop_eq_nil_of_le (by omega), impl_SessOf.l0, if_neg (by omega)]
    refine ⟨fun _ => ?_, fun h => absurd (by intro t ht; cases ht) h⟩
    rw [sessAll_ev (xs := []) (k := k) hs trivial (by simp; omega) (by omega), Option.bind_some]
    simp [ws]
  | succ d ih =>
    intro i k acc hi hk hs ha
    obtain ⟨k, rfl⟩ : ∃ m, k = m + 1 := ⟨k - 1, by omega⟩
    rw [drop_consI (by omega), tok_cons, impl_SessOf.l0, if_pos (by omega), if_pos (by omega), if_pos (by omega)]
    generalize rd times (i : Int) = t
    obtain ⟨b, hb, hbi⟩ := isTime_ev t
    rw [hb, Option.bind_some]
    by_cases ht : 0 ≤ t ∧ t ≤ 1000
    · obtain rfl := hbi.2 ht
      clear hb hbi
      rw [if_pos rfl, implWins3 hd ht, Option.bind_some, if_pos (by simp; omega), w64s (by omega)]
      have hw : Ws (acc ++ [⟨t, t + sz⟩]) := by
        intro w hw
        rcases List.mem_append.1 hw with hw | hw
        · exact hs w hw
        · simp only [List.mem_singleton] at hw; subst hw; unfold WOk; simp only; omega
      obtain ⟨y1, y2⟩ := ih (i + 1) k (acc ++ [⟨t, t + sz⟩]) (by omega) (by omega) hw (by simp; omega)
      refine ⟨fun h => ?_, fun h => y2 (fun h' => h ⟨ht, h'⟩)⟩
      rw [y1 h.2]; simp [ws]
    · have hf : b = false := eq_false_of_ne_true (fun h => ht (hbi.1 h))
      subst hf
      rw [if_neg (by simp)]
      exact ⟨fun h => absurd h.1 ht, fun _ => rfl⟩
def Good (kd sz st : Int) (times : List Int) : Prop := WDef kd sz st ∧ kd = 3 ∧ times.length ≤ 300 ∧ TOk times
theorem good3 {kd sz st : Int} (h : WDef kd sz st) (h3 : kd = 3) : kd = 3 ∧ st = 0 := by
  unfold WDef at h; omega
theorem specSessOf_ev (kd sz st : Int) (times : List Int) {k : Nat} (hk : 5000 < k) :
    (Good kd sz st times → spec_SessOf.f k kd sz st times = some (allIns [] (ws sz times), true)) ∧ (¬ Good kd sz st times → spec_SessOf.f k kd sz st times = some ([], false)) := by
  obtain ⟨k, rfl⟩ : ∃ m, k = m + 1 := ⟨k - 1, by omega⟩
  obtain ⟨b, hb, hbi⟩ := specWinOk_ev kd sz st (k := k + 1) (by omega)
  unfold spec_SessOf.f
  rw [hb, Option.bind_some]
  by_cases hd : WDef kd sz st
  · obtain rfl := hbi.2 hd
    rw [if_pos rfl]
    by_cases h3 : kd = 3
    · rw [if_pos h3]
      obtain ⟨rfl, rfl⟩ := good3 hd h3
      rw [spec_SessOf.j0]
      by_cases hl : (times.length : Int) > 300
      · rw [if_pos (decide_eq_true hl)]
        exact ⟨fun h => by have := h.2.2.1; omega, fun _ => rfl⟩
      · rw [if_neg (by simpa using hl)]
        obtain ⟨y1, y2⟩ := specSessOf_l hd times (by omega) times.length 0 k [] (by omega) (by omega) trivial (by simp)
        simp only [List.drop_zero, Int.natCast_zero] at y1 y2
        exact ⟨fun h => y1 h.2.2.2, fun h => y2 (fun h' => h ⟨hd, rfl, by omega, h'⟩)⟩
    · rw [if_neg h3, spec_SessOf.j0, if_pos rfl]
      exact ⟨fun h => absurd h.2.1 h3, fun _ => rfl⟩
  · have hf : b = false := eq_false_of_ne_true (fun h => hd (hbi.1 h))
    subst hf
    rw [if_neg (by simp), spec_SessOf.j0, if_pos rfl]
    exact ⟨fun h => absurd h.1 hd, fun _ => rfl⟩
theorem implSessOf_ev (kd sz st : Int) (times : List Int) {k : Nat} (hk : 5000 < k) :
    (Good kd sz st times → impl_SessOf.f k kd sz st times = some (allIns [] (ws sz times), true)) ∧ (¬ Good kd sz st times → impl_SessOf.f k kd sz st times = some ([], false)) := by
  obtain ⟨k, rfl⟩ : ∃ m, k = m + 1 := ⟨k - 1, by omega⟩
  obtain ⟨b, hb, hbi⟩ := isWinDef_ev kd sz st (k := k + 1) (by omega)
  unfold impl_SessOf.f
  rw [hb, Option.bind_some]
  by_cases hd : WDef kd sz st
  · obtain rfl := hbi.2 hd
    rw [if_pos rfl]
    by_cases h3 : kd = 3
    · rw [if_pos h3]
      obtain ⟨rfl, rfl⟩ := good3 hd h3
      rw [impl_SessOf.j0]
      by_cases hl : (times.length : Int) > 300
      · rw [if_pos (decide_eq_true hl)]
        exact ⟨fun h => by have := h.2.2.1; omega, fun _ => rfl⟩
      · rw [if_neg (by simpa using hl)]
        obtain ⟨y1, y2⟩ := implSessOf_l hd times (by omega) times.length 0 k [] (by omega) (by omega) (fun w hw => by cases hw) rfl
        simp only [List.drop_zero, Int.natCast_zero, List.nil_append] at y1 y2
        exact ⟨fun h => y1 h.2.2.2, fun h => y2 (fun h' => h ⟨hd, rfl, by omega, h'⟩)⟩
    · rw [if_neg h3, impl_SessOf.j0, if_pos rfl]
      exact ⟨fun h => absurd h.2.1 h3, fun _ => rfl⟩
  · have hf : b = false := eq_false_of_ne_true (fun h => hd (hbi.1 h))
    subst hf
    rw [if_neg (by simp), impl_SessOf.j0, if_pos rfl]
    exact ⟨fun h => absurd h.1 hd, fun _ => rfl⟩
/-! the draws -/
theorem drawSess_l {bs : List Int} (hb : Bytes bs) (hl : bs.length ≤ 1099511627776000) (kd sz st : Int) (d : Nat) : ∀ (k : Nat) (xs : List Int) (M a s : Int), d < k → xs.length + d ≤ 100 → Cur M a s → M + d ≤ 100000 →
    ∃ times, spec_DrawSessOf.l0 k xs (d : Int) bs a s kd sz st = some (kd, sz, st, times) ∧ times.length ≤ 400 := by
  induction d with
  | zero =>
    intro k xs M a s hk hx hc hM
    obtain ⟨k, rfl⟩ : ∃ m, k = m + 1 := ⟨k - 1, by omega⟩
    rw [spec_DrawSessOf.l0, if_neg (by omega)]
    obtain ⟨v, a1, s1, e, hv, hv', hc1⟩ := pick_ev hb 12 hc (by omega) hl
    rw [e, Option.bind_some]; dsimp only
    by_cases c0 : v = 0
    · rw [if_pos c0]
      obtain ⟨t, a2, s2, e2, _⟩ := time_ev hb hc1 (by omega) hl
      rw [e2, Option.bind_some, if_pos (by omega)]
      exact ⟨_, rfl, by simp; omega⟩
    rw [if_neg c0]
    by_cases c1 : v = 1
    · rw [if_pos c1]
      obtain ⟨v2, a2, s2, e2, hv2, hv2', _⟩ := pick_ev hb 2 hc1 (by omega) hl
      rw [e2, Option.bind_some]; dsimp only
      rw [w64 (by omega) (by omega), if_pos (by omega), if_pos (by omega)]
      exact ⟨_, rfl, by simp; omega⟩
    rw [if_neg c1]
    exact ⟨_, rfl, by omega⟩
  | succ d ih =>
    intro k xs M a s hk hx hc hM
    obtain ⟨k, rfl⟩ : ∃ m, k = m + 1 := ⟨k - 1, by omega⟩
    rw [spec_DrawSessOf.l0, if_pos (by omega)]
    obtain ⟨v, a1, s1, e, hv, hv', hc1⟩ := pick_ev hb 60 hc (by omega) hl
    rw [e, Option.bind_some, if_pos (by omega), show wrap64 (((d + 1 : Nat) : Int) - 1) = (d : Int) from by rw [w64] <;> omega]
    exact ih k (xs ++ [v]) (M + 1) a1 s1 (by omega) (by simp; omega) hc1 (by omega)
theorem draw_ev {bs : List Int} (hb : Bytes bs) (hl : bs.length ≤ 1048576) {k : Nat} (hk : 200 < k) : ∃ kd sz st times, spec_DrawSessOf.f k bs = some (kd, sz, st, times) ∧ times.length ≤ 400 := by
  have hj : ∀ (M a s kd sz st : Int), Cur M a s → M ≤ 1000 → ∃ kd' sz' st' times, spec_DrawSessOf.j0 k bs a s kd sz st = some (kd', sz', st', times) ∧ times.length ≤ 400 := by
    intro M a s kd sz st hc hM
    obtain ⟨k, rfl⟩ : ∃ m, k = m + 1 := ⟨k - 1, by omega⟩
    rw [spec_DrawSessOf.j0]
    obtain ⟨v, a1, s1, e, hv, hv', hc1⟩ := size_ev hb 20 (by omega) (by omega) hc (by omega) (by omega)
    rw [e, Option.bind_some]; dsimp only
    obtain ⟨d, rfl⟩ := Int.eq_ofNat_of_zero_le hv
    obtain ⟨times, h, h2⟩ := drawSess_l hb (by omega) kd sz st d k [] _ a1 s1 (by omega) (by simp; omega) hc1 (by omega)
    exact ⟨_, _, _, _, h, h2⟩
  unfold spec_DrawSessOf.f spec_l01Open.f
  rw [Option.bind_some]; dsimp only
  have hc : Cur 0 0 (101 + (bs.length : Int) % 1000) := by unfold Cur; omega
  obtain ⟨v, a1, s1, e, hv, hv', hc1⟩ := pick_ev hb 9 hc (by omega) (by omega)
  rw [e, Option.bind_some]; dsimp only
  obtain ⟨b, a2, s2, e2, hc2⟩ := once_ev hb 6 hc1 (by omega) (by omega)
  rw [e2, Option.bind_some]; dsimp only
  by_cases cb : b = true
  · rw [if_pos cb]
    obtain ⟨x, y, z, a3, s3, e3, hc3⟩ := badWin_ev hb (k := k) (by omega) hc2 (by omega) (by omega)
    rw [e3, Option.bind_some]; dsimp only
    exact hj _ _ _ _ _ _ hc3 (by omega)
  · rw [if_neg cb]
    exact hj _ _ _ _ _ _ hc2 (by omega)
theorem pick_step {bs : List Int} (hb : Bytes bs) (hp : 0 < bs.length) (hl : bs.length ≤ 1048576) (n x : Int) (j k : Nat) (h0 : 0 ≤ x) (h1 : x ≤ 1000000) (hj : j < 3) :
    ∃ x', laws_pick.l0 (k + 1) bs 3 n x (j : Int) = laws_pick.l0 k bs 3 n x' ((j + 1 : Nat) : Int) ∧ 0 ≤ x' ∧ x' ≤ 31 * x + 255 := by
  have hd : 0 ≤ Int.tmod (wrap64 (3 + (j : Int))) (bs.length : Int) ∧ Int.tmod (wrap64 (3 + (j : Int))) (bs.length : Int) < (bs.length : Int) := by
    rw [w64 (by omega) (by omega), Int.tmod_eq_emod_of_nonneg (by omega)]
    exact ⟨Int.emod_nonneg _ (by omega), Int.emod_lt_of_pos _ (by omega)⟩
  have hr := rd_byte hb (Int.tmod (wrap64 (3 + (j : Int))) (bs.length : Int))
  rw [laws_pick.l0, if_pos (by omega), if_neg (by omega), if_pos hd.1, if_pos hd.2, w64s (by omega)]
  refine ⟨_, rfl, ?_⟩
  rw [w64 (n := 31 * x) (by omega) (by omega), w64 (n := rd bs _) (by omega) (by omega), w64 (by omega) (by omega)]
  omega
theorem lawPick_ev {bs : List Int} (hb : Bytes bs) (hl : bs.length ≤ 1048576) (n : Int) (hn : 1 ≤ n) {k : Nat} (hk : 6 < k) : ∃ v, laws_pick.f k bs 3 n = some v ∧ 0 ≤ v ∧ v < n := by
  obtain ⟨k, rfl⟩ : ∃ m, k = m + 5 := ⟨k - 5, by omega⟩
  unfold laws_pick.f
  by_cases h : (bs.length : Int) = 0
  · rw [if_pos h, laws_pick.j0, if_pos rfl]; exact ⟨0, rfl, by omega, by omega⟩
  rw [if_neg h, laws_pick.j0]
  by_cases h2 : n < 2
  · rw [if_pos (decide_eq_true h2)]; exact ⟨0, rfl, by omega, by omega⟩
  rw [if_neg (by simpa using h2)]
  obtain ⟨x1, e1, g1, g1'⟩ := pick_step hb (by omega) hl n 0 0 (k + 3) (by omega) (by omega) (by omega)
  obtain ⟨x2, e2, g2, g2'⟩ := pick_step hb (by omega) hl n x1 1 (k + 2) (by omega) (by omega) (by omega)
  obtain ⟨x3, e3, g3, g3'⟩ := pick_step hb (by omega) hl n x2 2 (k + 1) (by omega) (by omega) (by omega)
  simp only [Int.natCast_zero] at e1
  rw [e1, e2, e3, laws_pick.l0, if_neg (by omega), if_neg (by omega), w64 (by omega) (by omega)]
  have := tm (x := x3 + 3) (n := n) (by omega) (by omega)
  exact ⟨_, rfl, this.1, this.2⟩
/-! the law -/
theorem sessAt_ev {more : List S105} (ho : OKL more) {t : Int} (hm : ∃ m ∈ more, m.f0 ≤ t ∧ t < m.f1) {k : Nat} (hk : 2000 < k) : ∃ n : Nat, impl_SessAt.f k more t = some (n : Int) := by
  unfold impl_SessAt.f impl_sessAt.f
  have h3 : more.length ≤ 300 := ho.1
  obtain ⟨b, hb, hbi⟩ := areSess_ev (xs := more) (k := k) (by omega) (by omega)
  obtain rfl := hbi.2 ho
  obtain ⟨n, hn, h, _⟩ := at_l more t (by omega) (sok_mem ho.2) more.length 0 k (by omega) (by omega) (by simpa using hm)
  simp only [Int.natCast_zero] at h
  rw [hb, Option.bind_some, if_pos rfl, h, Option.bind_some]
  exact ⟨n, rfl⟩
theorem law_l1 (times : List Int) (more : List S105) (ho : OKL more) (hin : ∀ t ∈ times, ∃ m ∈ more, m.f0 ≤ t ∧ t < m.f1) (hl : times.length ≤ 400) (d : Nat) : ∀ (i k : Nat), i + d = times.length → 3000 + d < k →
    laws_FnSessions.l1 k times more more true true true more true (i : Int) = some true := by
  have h3 : more.length ≤ 300 := ho.1
  induction d with
  | zero =>
    intro i k hi hk
    obtain ⟨k, rfl⟩ : ∃ m, k = m + 1 := ⟨k - 1, by omega⟩
    rw [laws_FnSessions.l1, if_neg (by omega), if_pos rfl, if_pos rfl, if_pos rfl, if_pos rfl, same_ev (k := k) (by omega) (by omega), Option.bind_some, if_pos rfl, Option.bind_some, if_pos rfl]
    unfold impl_SessOk.f
    obtain ⟨b, hb, hbi⟩ := areSess_ev (xs := more) (k := k) (by omega) (by omega)
    rw [hb, hbi.2 ho, Option.bind_some, Option.bind_some]
  | succ d ih =>
    intro i k hi hk
    obtain ⟨k, rfl⟩ : ∃ m, k = m + 1 := ⟨k - 1, by omega⟩
    obtain ⟨n, hn⟩ := sessAt_ev ho (hin _ (List.getElem_mem (show i < times.length by omega))) (k := k) (by omega)
    rw [laws_FnSessions.l1, if_pos (by omega), if_pos (by omega), rd_get (by omega), hn, Option.bind_some, if_neg (by omega), w64s (by omega)]
    exact ih (i + 1) k (by omega) (by omega)
theorem ws_append (sz : Int) (a b : List Int) : ws sz (a ++ b) = ws sz a ++ ws sz b := by simp [ws]
theorem ws_reverse (sz : Int) (a : List Int) : ws sz a.reverse = (ws sz a).reverse := by simp [ws]
theorem tok_sub {a b : List Int} (h : TOk a) (hs : ∀ t ∈ b, t ∈ a) : TOk b := fun t ht => h t (hs t ht)
theorem good_sub {kd sz st : Int} {a b : List Int} (h : Good kd sz st a) (hl : b.length ≤ a.length) (hs : ∀ t ∈ b, t ∈ a) : Good kd sz st b :=
  ⟨h.1, h.2.1, by have := h.2.2.1; omega, tok_sub h.2.2.2 hs⟩
theorem law_l0 {bs : List Int} (hb : Bytes bs) (hbl : bs.length ≤ 1048576) {kd sz st : Int} (times : List Int) (hg : Good kd sz st times) (d : Nat) : ∀ (k : Nat), d ≤ times.length → 9000 + d < k →
    laws_FnSessions.l0 k bs times (allIns [] (ws sz times)) (times.drop d).reverse ((d : Int) - 1) kd sz st = some true := by
  have hd := hg.1
  unfold WDef at hd
  have hws := ws_ok (sz := sz) (by omega) (by omega) hg.2.2.2
  have hl3 := hg.2.2.1
  have hsok := allIns_sok (ws sz times) [] hws trivial
  have hlen := allIns_len (ws sz times) []
  have hlw : (ws sz times).length = times.length := by simp [ws]
  have ho : OKL (allIns [] (ws sz times)) := ⟨by simp at hlen; omega, hsok⟩
  induction d with
  | zero =>
    intro k hdl hk
    obtain ⟨k, rfl⟩ : ∃ m, k = m + 1 := ⟨k - 1, by omega⟩
    rw [laws_FnSessions.l0, if_neg (by omega), List.drop_zero]
    have hrev := (implSessOf_ev kd sz st times.reverse (k := k) (by omega)).1 (good_sub hg (by simp) (by simp))
    rw [ws_reverse, allIns_reverse _ [] hws trivial] at hrev
    rw [hrev, Option.bind_some]
    obtain ⟨v, hv, h0, h1⟩ := lawPick_ev hb hbl ((times.length : Int) + 1) (by omega) (k := k) (by omega)
    rw [w64 (by omega) (by omega), hv, Option.bind_some, if_pos h0, if_pos (by omega)]
    obtain ⟨n, rfl⟩ := Int.eq_ofNat_of_zero_le h0
    rw [Int.toNat_natCast]
    have ha := (implSessOf_ev kd sz st (times.take n) (k := k) (by omega)).1 (good_sub hg (by simp; omega) (fun t ht => List.mem_of_mem_take ht))
    have hb' := (implSessOf_ev kd sz st (times.drop n) (k := k) (by omega)).1 (good_sub hg (by simp) (fun t ht => List.mem_of_mem_drop ht))
    rw [ha, Option.bind_some, hb', Option.bind_some]
    have hwa : Ws (ws sz (times.take n)) := ws_ok (by omega) (by omega) (tok_sub hg.2.2.2 (fun t ht => List.mem_of_mem_take ht))
    have hwb : Ws (ws sz (times.drop n)) := ws_ok (by omega) (by omega) (tok_sub hg.2.2.2 (fun t ht => List.mem_of_mem_drop ht))
    have sa := allIns_sok _ [] hwa trivial
    have sb := allIns_sok _ [] hwb trivial
    have la := allIns_len (ws sz (times.take n)) []
    have lb := allIns_len (ws sz (times.drop n)) []
    have lta : (ws sz (times.take n)).length + (ws sz (times.drop n)).length = times.length := by simp [ws]; omega
    have hjoin : impl_SessJoin.f k (allIns [] (ws sz (times.take n))) (allIns [] (ws sz (times.drop n))) = some (allIns [] (ws sz times), true) := by
      unfold impl_SessJoin.f
      simp at la lb
      obtain ⟨b1, hb1, hbi1⟩ := areSess_ev (xs := allIns [] (ws sz (times.take n))) (k := k) (by omega) (by omega)
      obtain ⟨b2, hb2, hbi2⟩ := areSess_ev (xs := allIns [] (ws sz (times.drop n))) (k := k) (by omega) (by omega)
      rw [hb1, hbi1.2 ⟨by omega, sa⟩, Option.bind_some, if_pos rfl, hb2, hbi2.2 ⟨by omega, sb⟩, Option.bind_some, if_pos rfl, sessAll_ev (k := k) (sok_mem sb) sa (by omega) (by omega), Option.bind_some]
      rw [allIns_join _ sa _ hwb _ rfl, ← allIns_append, ← ws_append, List.take_append_drop]
    rw [hjoin, Option.bind_some]
    refine law_l1 times _ ho ?_ (by omega) times.length 0 k (by omega) (by omega)
    intro t ht
    have hw : (⟨t, t + sz⟩ : S105) ∈ ws sz times := List.mem_map.2 ⟨t, ht, rfl⟩
    obtain ⟨m, hm, g1, g2⟩ := (allIns_in (ws sz times) []).2 _ hw
    exact ⟨m, hm, g1, by simp only at g2; omega⟩
  | succ d ih =>
    intro k hdl hk
    obtain ⟨k, rfl⟩ : ∃ m, k = m + 1 := ⟨k - 1, by omega⟩
    have e1 : ((d + 1 : Nat) : Int) - 1 = (d : Int) := by omega
    rw [e1, laws_FnSessions.l0, if_pos (by omega), if_pos (by omega), if_pos (by omega), if_pos (by simp; omega), show wrap64 ((d : Int) - 1) = (d : Int) - 1 from by rw [w64] <;> omega]
    have := ih k (by omega) (by omega)
    rw [drop_consI (show d < times.length by omega), List.reverse_cons] at this
    exact this
theorem FnSessions : laws_FnSessions.Pure := by
  intro l0 _ _ hwf
  have hb : Bytes l0 := by
    intro x hx
    have := hwf x hx
    simp [Lit.wf, IntKind.min, IntKind.max, IntKind.signed, IntKind.bits] at this
    omega
  refine ⟨20000, ?_⟩
  unfold laws_FnSessions.f laws_big.f
  rw [Option.bind_some]
  by_cases hbig : (l0.length : Int) > 1048576
  · rw [if_pos (by simpa using hbig)]
  rw [if_neg (by simpa using hbig)]
  obtain ⟨kd, sz, st, times, hd, hlt⟩ := draw_ev hb (by omega) (k := 20000) (by omega)
  rw [hd, Option.bind_some]; dsimp only
  by_cases hg : Good kd sz st times
  · have hd' := hg.1
    have hl3 := hg.2.2.1
    have hlen := allIns_len (ws sz times) []
    have hlw : (ws sz times).length = times.length := by simp [ws]
    rw [(specSessOf_ev kd sz st times (by omega)).1 hg, Option.bind_some, (implSessOf_ev kd sz st times (by omega)).1 hg, Option.bind_some, if_neg (by simp), same_ev (k := 20000) (by simp at hlen ⊢; omega) (by omega), Option.bind_some, if_pos rfl, laws_FnSessions.j0, if_neg (by simp), w64 (by omega) (by omega)]
    have := law_l0 hb (by omega) times hg times.length 19999 (by omega) (by omega)
    simpa using this
  · rw [(specSessOf_ev kd sz st times (by omega)).2 hg, Option.bind_some, (implSessOf_ev kd sz st times (by omega)).2 hg, Option.bind_some, if_neg (by simp), same_ev (k := 20000) (by simp) (by omega), Option.bind_some, if_pos rfl, laws_FnSessions.j0, if_pos (by decide), if_pos (by decide), same_ev (k := 19999) (by simp) (by omega), Option.bind_some]

end Go.Proofs.Ytkikbhcicpkhgaa.Pure
