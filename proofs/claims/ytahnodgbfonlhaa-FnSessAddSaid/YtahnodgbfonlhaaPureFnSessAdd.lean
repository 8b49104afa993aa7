/- The law FnSessAdd answers true for every code: both additions of a window to sessions give the sorted insertion with merging, and every earlier session and the window lie in one session of the result. Conditions: none beyond the given statement's. -/
import Derived.Test.YtahnodgbfonlhaaPFnSessAddx8
namespace Go.Proofs.Ytahnodgbfonlhaa.Pure
open Go.RowKit Go.Proofs.Ytahnodgbfonlhaa.PFnSessAdd Go.Proofs.YtahnodgbfonlhaaW.PrintWords Go.Proofs.YtahnodgbfonlhaaW.PrintLast Go.Proofs.YtahnodgbfonlhaaW.PrintMore

theorem w64 {n : Int} (h0 : -9223372036854775808 ≤ n) (h1 : n ≤ 9223372036854775807) : wrap64 n = n := by unfold wrap64; omega
theorem w64_lo (n : Int) : -9223372036854775808 ≤ wrap64 n := by unfold wrap64; omega
theorem w64_hi (n : Int) : wrap64 n ≤ 9223372036854775807 := by unfold wrap64; omega

def Cur (M a s : Int) : Prop := 0 ≤ a ∧ a ≤ M ∧ 0 ≤ s ∧ s < 65521
def Bytes (bs : List Int) : Prop := ∀ x ∈ bs, 0 ≤ x ∧ x ≤ 255
theorem rd_byte {bs : List Int} (hb : Bytes bs) (i : Int) : 0 ≤ rd bs i ∧ rd bs i ≤ 255 := by
  unfold rd
  rw [List.getD_eq_getElem?_getD]
  rcases h : bs[i.toNat]? with _ | x
  · simp
  · exact hb x (List.mem_of_getElem? h)
theorem tm {x n : Int} (hx : 0 ≤ x) (hn : 2 ≤ n) : 0 ≤ Int.tmod x n ∧ Int.tmod x n < n := by
  rw [Int.tmod_eq_emod_of_nonneg hx]
  exact ⟨Int.emod_nonneg _ (by omega), Int.emod_lt_of_pos _ (by omega)⟩
theorem pick_ev {bs : List Int} (hb : Bytes bs) {M a s : Int} (n : Int) (hc : Cur M a s) (hM : M ≤ 1099511627776) (hl : bs.length ≤ 1099511627776000) :
    ∃ v a' s', spec_l01Cur_pick.f bs a s n = some (v, a', s') ∧ 0 ≤ v ∧ (v < n ∨ v = 0) ∧ Cur (M + 1) a' s' := by
  obtain ⟨h0, h1, h2, h3⟩ := hc
  unfold spec_l01Cur_pick.f
  by_cases c1 : n < 2
  · rw [if_pos c1]; exact ⟨_, _, _, rfl, by omega, by omega, by omega, by omega, h2, h3⟩
  rw [if_neg c1]
  have ea : wrap64 (a + 1) = a + 1 := w64 (by omega) (by omega)
  by_cases c2 : a < (bs.length : Int)
  · have hr := rd_byte hb a
    have ht := tm (x := wrap64 (rd bs a)) (n := n) (by rw [w64] <;> omega) (by omega)
    rw [if_pos c2, if_pos h0, if_neg (by omega), ea]
    exact ⟨_, _, _, rfl, ht.1, Or.inl ht.2, by omega, by omega, h2, h3⟩
  rw [if_neg c2]
  have e1 : wrap64 (s * 1103) = s * 1103 := w64 (by omega) (by omega)
  have e2 : wrap64 (s * 1103 + 12345) = s * 1103 + 12345 := w64 (by omega) (by omega)
  simp only [e1, e2, ea]
  have hm := tm (x := s * 1103 + 12345) (n := 65521) (by omega) (by omega)
  generalize Int.tmod (s * 1103 + 12345) 65521 = q at hm ⊢
  by_cases c3 : (bs.length : Int) > 0
  · have hd : 0 ≤ Int.tmod a (bs.length : Int) ∧ Int.tmod a (bs.length : Int) < (bs.length : Int) := by
      rw [Int.tmod_eq_emod_of_nonneg h0]
      exact ⟨Int.emod_nonneg _ (by omega), Int.emod_lt_of_pos _ (by omega)⟩
    have hr := rd_byte hb (Int.tmod a (bs.length : Int))
    have hq : 0 ≤ Int.tdiv q 7 ∧ Int.tdiv q 7 ≤ 65521 := by
      rw [Int.tdiv_eq_ediv_of_nonneg hm.1]; omega
    have ht := tm (x := wrap64 (wrap64 (Int.tdiv q 7) + wrap64 (rd bs (Int.tmod a (bs.length : Int))))) (n := n) (by rw [w64 (n := Int.tdiv q 7), w64 (n := rd bs _), w64] <;> omega) (by omega)
    rw [if_pos c3, if_neg (by omega), if_pos hd.1, if_pos hd.2, if_neg (by omega)]
    exact ⟨_, _, _, rfl, ht.1, Or.inl ht.2, by omega, by omega, hm.1, hm.2⟩
  · rw [if_neg c3, if_neg (by omega)]
    exact ⟨_, _, _, rfl, by simp, Or.inr (by simp), by omega, by omega, hm.1, hm.2⟩
theorem raw_ev {bs : List Int} (hb : Bytes bs) {M a s : Int} (hc : Cur M a s) (hM : M ≤ 1099511600000) (hl : bs.length ≤ 1099511627776000) :
    ∃ v a' s', spec_l01Cur_raw.f bs a s = some (v, a', s') ∧ -9223372036854775808 ≤ v ∧ v ≤ 9223372036854775807 ∧ Cur (M + 2) a' s' := by
  unfold spec_l01Cur_raw.f
  obtain ⟨v, a1, s1, e, hv, hv', hc1⟩ := pick_ev hb 8 hc (by omega) hl
  rw [e]; simp only [Option.bind_some]
  by_cases c0 : v = 0
  · rw [if_pos c0]
    obtain ⟨v2, a2, s2, e2, hv2, hv2', hc2⟩ := pick_ev hb 256 hc1 (by omega) hl
    rw [e2]; simp only [Option.bind_some]
    exact ⟨_, _, _, rfl, w64_lo _, w64_hi _, by unfold Cur at hc2 ⊢; omega⟩
  rw [if_neg c0]
  by_cases c1 : v = 1
  · rw [if_pos c1]
    obtain ⟨v2, a2, s2, e2, hv2, hv2', hc2⟩ := pick_ev hb 8 hc1 (by omega) hl
    rw [e2]; simp only [Option.bind_some]
    rw [if_pos hv2, if_pos (by simp; omega)]
    refine ⟨_, _, _, rfl, ?_, ?_, by unfold Cur at hc2 ⊢; omega⟩
    all_goals
      have : v2 = 0 ∨ v2 = 1 ∨ v2 = 2 ∨ v2 = 3 ∨ v2 = 4 ∨ v2 = 5 ∨ v2 = 6 ∨ v2 = 7 := by omega
      rcases this with rfl | rfl | rfl | rfl | rfl | rfl | rfl | rfl <;> decide
  rw [if_neg c1]
  obtain ⟨v2, a2, s2, e2, hv2, hv2', hc2⟩ := pick_ev hb 14 hc1 (by omega) hl
  rw [e2]; simp only [Option.bind_some]
  exact ⟨_, _, _, rfl, w64_lo _, w64_hi _, by unfold Cur at hc2 ⊢; omega⟩

/-! sessions -/
theorem rdT_get {xs : List S44} {i : Nat} (h : i < xs.length) : rd_T44 xs (i : Int) = xs[i] := by
  unfold rd_T44
  rw [List.getD_eq_getElem?_getD]
  simp [List.getElem?_eq_getElem h]
theorem w64s {i : Nat} (h : i ≤ 1099511627776000) : wrap64 ((i : Int) + 1) = ((i + 1 : Nat) : Int) := by rw [w64] <;> omega
def WOk (a b : Int) : Prop := 0 ≤ a ∧ a < b ∧ b ≤ 1100
def SOK : Int → List S44 → Prop
  | _, [] => True
  | lo, w :: r => lo ≤ w.f0 ∧ WOk w.f0 w.f1 ∧ SOK w.f1 r
theorem iff_dec {p : Prop} [Decidable p] {q : Prop} (h : p ↔ q) : decide p = true ↔ q := by simpa using h
theorem win_ev (a b : Int) : ∃ t, spec_l06Win.f a b = some t ∧ (t = true ↔ WOk a b) := by
  unfold spec_l06Win.f WOk
  by_cases h : a ≥ 0
  · by_cases h2 : a < b
    · rw [if_pos h, if_pos h2]; exact ⟨_, rfl, by simp; omega⟩
    · rw [if_pos h, if_neg h2]; exact ⟨_, rfl, by simp; omega⟩
  · rw [if_neg h]; exact ⟨_, rfl, by simp; omega⟩
theorem isWin_ev (a b : Int) : ∃ t, impl_isWin.f a b = some t ∧ (t = true ↔ WOk a b) := by
  unfold impl_isWin.f WOk
  by_cases h : 0 ≤ a
  · by_cases h2 : a < b
    · rw [if_pos h, if_pos h2]; exact ⟨_, rfl, by simp; omega⟩
    · rw [if_pos h, if_neg h2]; exact ⟨_, rfl, by simp; omega⟩
  · rw [if_neg h]; exact ⟨_, rfl, by simp; omega⟩
def lo (xs : List S44) (i : Nat) : Int := if i = 0 then 0 else (rd_T44 xs ((i - 1 : Nat) : Int)).f1
theorem drop_cons {xs : List S44} {i : Nat} (h : i < xs.length) : xs.drop i = rd_T44 xs (i : Int) :: xs.drop (i + 1) := by
  rw [rdT_get h]; exact List.drop_eq_getElem_cons h
theorem lo_succ (xs : List S44) (i : Nat) : lo xs (i + 1) = (rd_T44 xs (i : Int)).f1 := by unfold lo; simp
theorem sok_zero_le {w : S44} {l : Int} (h : WOk w.f0 w.f1) (hl : l ≤ 0) : l ≤ w.f0 := by unfold WOk at h; omega
theorem specSessOk_l (xs : List S44) (hx : xs.length ≤ 1099511627776000) (d : Nat) : ∀ (i k : Nat), i + d = xs.length → d < k →
    ∃ t, spec_SessOk.l0 k xs (i : Int) = some t ∧ (t = true ↔ SOK (lo xs i) (xs.drop i)) := by
  induction d with
  | zero =>
    intro i k hi hk
    obtain ⟨k, rfl⟩ : ∃ m, k = m + 1 := ⟨k - 1, by omega⟩
    refine ⟨true, by simp only [spec_SessOk.l0]; rw [if_neg (by omega)], ?_⟩
    rw [List.drop_eq_nil_of_le (by omega)]; simp [SOK]
  | succ d ih =>
    intro i k hi hk
    obtain ⟨k, rfl⟩ : ∃ m, k = m + 1 := ⟨k - 1, by omega⟩
    obtain ⟨t, ht, hti⟩ := ih (i + 1) k (by omega) (by omega)
    obtain ⟨u, hu, hui⟩ := win_ev (rd_T44 xs (i : Int)).f0 (rd_T44 xs (i : Int)).f1
    simp only [spec_SessOk.l0]
    rw [if_pos (by omega), if_pos (by omega), hu, drop_cons (by omega)]
    simp only [Option.bind_some, SOK]
    rw [lo_succ] at hti
    have e1 : wrap64 ((i : Int) + 1) = ((i + 1 : Nat) : Int) := by rw [w64] <;> omega
    have e2 : wrap64 ((i : Int) - 1) = (i : Int) - 1 := by rw [w64] <;> omega
    rw [e1, e2]
    cases u with
    | false =>
      refine ⟨false, by simp, ?_⟩
      simp only [Bool.false_eq_true, false_iff] at hui ⊢
      exact fun h => hui h.2.1
    | true =>
      have hw := hui.1 rfl
      rw [if_pos rfl]
      by_cases hp : (i : Int) > 0
      · have el : (i : Int) - 1 = ((i - 1 : Nat) : Int) := by omega
        have elo : lo xs i = (rd_T44 xs ((i - 1 : Nat) : Int)).f1 := by unfold lo; rw [if_neg (by omega)]
        rw [if_pos hp, if_pos (by omega), if_pos (by omega), el, elo]
        by_cases hc : (rd_T44 xs (i : Int)).f0 < (rd_T44 xs ((i - 1 : Nat) : Int)).f1
        · rw [if_pos hc]
          refine ⟨false, rfl, ?_⟩
          simp only [Bool.false_eq_true, false_iff]
          intro h; omega
        · rw [if_neg hc]
          exact ⟨t, ht, by rw [hti]; exact ⟨fun h => ⟨by omega, hw, h⟩, fun h => h.2.2⟩⟩
      · rw [if_neg hp]
        have elo : lo xs i = 0 := by unfold lo; rw [if_pos (by omega)]
        exact ⟨t, ht, by rw [hti, elo]; exact ⟨fun h => ⟨sok_zero_le hw (by omega), hw, h⟩, fun h => h.2.2⟩⟩
def OKL (xs : List S44) : Prop := xs.length ≤ 300 ∧ SOK 0 xs
theorem specSessOk_ev {xs : List S44} {k : Nat} (hk : 300 < k) : ∃ t, spec_SessOk.f k xs = some t ∧ (t = true ↔ OKL xs) := by
  unfold spec_SessOk.f OKL
  by_cases h : (xs.length : Int) > 300
  · rw [if_pos h]; exact ⟨false, rfl, by simp; omega⟩
  · rw [if_neg h]
    obtain ⟨t, ht, hti⟩ := specSessOk_l xs (by omega) xs.length 0 k (by omega) (by omega)
    exact ⟨t, ht, by rw [hti]; simp [lo]; omega⟩
theorem areSess_l (xs : List S44) (hx : xs.length ≤ 1099511627776000) (d : Nat) : ∀ (i k : Nat), i + d = xs.length → d < k →
    ∃ t, impl_areSess.l0 k xs xs (xs.length : Int) (i : Int) = some t ∧ (t = true ↔ xs.length ≤ 300 ∧ SOK (lo xs i) (xs.drop i)) := by
  induction d with
  | zero =>
    intro i k hi hk
    obtain ⟨k, rfl⟩ : ∃ m, k = m + 1 := ⟨k - 1, by omega⟩
    refine ⟨decide ((xs.length : Int) ≤ 300), by simp only [impl_areSess.l0]; rw [if_neg (by omega)], ?_⟩
    rw [List.drop_eq_nil_of_le (by omega)]; simp [SOK]; omega
  | succ d ih =>
    intro i k hi hk
    obtain ⟨k, rfl⟩ : ∃ m, k = m + 1 := ⟨k - 1, by omega⟩
    obtain ⟨t, ht, hti⟩ := ih (i + 1) k (by omega) (by omega)
    obtain ⟨u, hu, hui⟩ := isWin_ev (rd_T44 xs (i : Int)).f0 (rd_T44 xs (i : Int)).f1
    simp only [impl_areSess.l0]
    rw [if_pos (by omega), if_pos (by omega), if_pos (by omega), hu, drop_cons (by omega)]
    simp only [Option.bind_some, SOK]
    rw [lo_succ] at hti
    have e1 : wrap64 ((i : Int) + 1) = ((i + 1 : Nat) : Int) := by rw [w64] <;> omega
    have e2 : wrap64 ((i : Int) - 1) = (i : Int) - 1 := by rw [w64] <;> omega
    rw [e1, e2]
    cases u with
    | false =>
      refine ⟨false, by simp, ?_⟩
      simp only [Bool.false_eq_true, false_iff] at hui ⊢
      exact fun h => hui h.2.2.1
    | true =>
      have hw := hui.1 rfl
      rw [if_pos rfl]
      by_cases hp : (i : Int) > 0
      · have el : (i : Int) - 1 = ((i - 1 : Nat) : Int) := by omega
        have elo : lo xs i = (rd_T44 xs ((i - 1 : Nat) : Int)).f1 := by unfold lo; rw [if_neg (by omega)]
        rw [if_pos hp, if_pos (by omega), if_pos (by omega), el, elo]
        by_cases hc : (rd_T44 xs (i : Int)).f0 < (rd_T44 xs ((i - 1 : Nat) : Int)).f1
        · rw [if_pos hc]
          refine ⟨false, rfl, ?_⟩
          simp only [Bool.false_eq_true, false_iff]
          intro h; omega
        · rw [if_neg hc]
          exact ⟨t, ht, by rw [hti]; exact ⟨fun h => ⟨h.1, by omega, hw, h.2⟩, fun h => ⟨h.1, h.2.2.2⟩⟩⟩
      · rw [if_neg hp]
        have elo : lo xs i = 0 := by unfold lo; rw [if_pos (by omega)]
        exact ⟨t, ht, by rw [hti, elo]; exact ⟨fun h => ⟨h.1, sok_zero_le hw (by omega), hw, h.2⟩, fun h => ⟨h.1, h.2.2.2⟩⟩⟩
theorem areSess_ev {xs : List S44} {k : Nat} (hx : xs.length ≤ 1099511627776000) (hk : xs.length < k) : ∃ t, impl_areSess.f k xs = some t ∧ (t = true ↔ OKL xs) := by
  unfold impl_areSess.f OKL
  obtain ⟨t, ht, hti⟩ := areSess_l xs hx xs.length 0 k (by omega) (by omega)
  exact ⟨t, ht, by rw [hti]; simp [lo]⟩
/-! inserting -/
def Meet (s0 s1 a b : Int) : Prop := s0 < b ∧ a < s1
theorem meet_ev (s0 s1 a b : Int) : ∃ t, spec_l06Meet.f s0 s1 a b = some t ∧ (t = true ↔ Meet s0 s1 a b) := by
  unfold spec_l06Meet.f Meet
  by_cases h : s0 < b
  · rw [if_pos h]; exact ⟨_, rfl, by simp; omega⟩
  · rw [if_neg h]; exact ⟨_, rfl, by simp; omega⟩
theorem over_ev (s0 s1 a b : Int) : ∃ t, impl_Win_overlaps.f s0 s1 a b = some t ∧ (t = true ↔ Meet s0 s1 a b) := by
  unfold impl_Win_overlaps.f Meet
  by_cases h : s0 < b
  · rw [if_pos h]; exact ⟨_, rfl, by simp; omega⟩
  · rw [if_neg h]; exact ⟨_, rfl, by simp; omega⟩
def ins : List S44 → Int → Int → List S44
  | [], a, b => [⟨a, b⟩]
  | s :: r, a, b => if s.f0 < b ∧ a < s.f1 then ins r (mn s.f0 a) (mx s.f1 b) else if s.f1 ≤ a then s :: ins r a b else ⟨a, b⟩ :: s :: r
theorem mn_comm (a b : Int) : mn a b = mn b a := by unfold mn; split <;> split <;> omega
theorem mx_comm (a b : Int) : mx a b = mx b a := by unfold mx; split <;> split <;> omega
theorem eta44 (s : S44) : (⟨s.f0, s.f1⟩ : S44) = s := rfl
theorem sok_far : ∀ {r : List S44} {l : Int}, SOK l r → ∀ s ∈ r, l ≤ s.f0 ∧ s.f0 < s.f1
  | [], _, _, s, h => by cases h
  | w :: r, l, ⟨h1, h2, h3⟩, s, h => by
    rcases List.mem_cons.1 h with rfl | h
    · exact ⟨h1, h2.2.1⟩
    · have := sok_far h3 s h
      exact ⟨by unfold WOk at h2; omega, this.2⟩
theorem ins_len : ∀ (r : List S44) (a b : Int), (ins r a b).length ≤ r.length + 1
  | [], _, _ => by simp [ins]
  | s :: r, a, b => by
    unfold ins
    split
    · have := ins_len r (mn s.f0 a) (mx s.f1 b); simp; omega
    split
    · have := ins_len r a b; simp; omega
    · simp
theorem mn_le1 (a b : Int) : mn a b ≤ a := by unfold mn; split <;> omega
theorem mn_le2 (a b : Int) : mn a b ≤ b := by unfold mn; split <;> omega
theorem mx_le1 (a b : Int) : a ≤ mx a b := by unfold mx; split <;> omega
theorem mx_le2 (a b : Int) : b ≤ mx a b := by unfold mx; split <;> omega
theorem wok_merge {a b c d : Int} (h : WOk a b) (k : WOk c d) : WOk (mn a c) (mx b d) := by
  unfold WOk mn mx at *; split <;> split <;> omega
theorem ins_sok : ∀ (r : List S44) (l a b : Int), SOK l r → l ≤ a → WOk a b → SOK l (ins r a b)
  | [], l, a, b, _, h, hw => ⟨h, hw, trivial⟩
  | s :: r, l, a, b, ⟨h1, h2, h3⟩, h, hw => by
    unfold ins
    split
    · have h3' : SOK l r := by
        cases r with
        | nil => trivial
        | cons q r => exact ⟨by have := h3.1; unfold WOk at h2; omega, h3.2⟩
      exact ins_sok r l _ _ h3' (by unfold mn; split <;> omega) (wok_merge h2 hw)
    split
    · exact ⟨h1, h2, ins_sok r s.f1 a b h3 (by omega) hw⟩
    · exact ⟨h, hw, by show b ≤ s.f0; omega, h2, h3⟩
/-- Everything that was there, and the window, lies in one of the list. -/
theorem ins_in : ∀ (r : List S44) (a b : Int), (∃ m ∈ ins r a b, m.f0 ≤ a ∧ b ≤ m.f1) ∧ ∀ s ∈ r, ∃ m ∈ ins r a b, m.f0 ≤ s.f0 ∧ s.f1 ≤ m.f1
  | [], a, b => ⟨⟨⟨a, b⟩, by simp [ins], by simp⟩, fun s h => by cases h⟩
  | s :: r, a, b => by
    unfold ins
    split
    · obtain ⟨⟨m, hm, h1, h2⟩, hr⟩ := ins_in r (mn s.f0 a) (mx s.f1 b)
      have := mn_le1 s.f0 a; have := mn_le2 s.f0 a; have := mx_le1 s.f1 b; have := mx_le2 s.f1 b
      refine ⟨⟨m, hm, by omega, by omega⟩, fun q hq => ?_⟩
      rcases List.mem_cons.1 hq with rfl | hq
      · exact ⟨m, hm, by omega, by omega⟩
      · exact hr q hq
    split
    · obtain ⟨⟨m, hm, h⟩, hr⟩ := ins_in r a b
      refine ⟨⟨m, by simp [hm], h⟩, fun q hq => ?_⟩
      rcases List.mem_cons.1 hq with rfl | hq
      · exact ⟨q, by simp, by omega, by omega⟩
      · obtain ⟨m', hm', h'⟩ := hr q hq
        exact ⟨m', by simp [hm'], h'⟩
    · refine ⟨⟨⟨a, b⟩, by simp, by simp⟩, fun q hq => ⟨q, by simp [List.mem_cons.1 hq], by omega, by omega⟩⟩
/-! the two loops -/
theorem specAdd_l (xs : List S44) (hx : xs.length ≤ 1099511627776) (d : Nat) : ∀ (i k : Nat) (hd tl : List S44) (a b l : Int), i + d = xs.length → d < k →
    hd.length ≤ i → tl.length ≤ i → a < b → SOK l (xs.drop i) → (tl ≠ [] → b ≤ l) →
    ∃ out, spec_SessAdd.l0 k xs hd tl (i : Int) a b = some (if out.length > 300 then [] else out, decide (out.length ≤ 300)) ∧ out = hd ++ (if tl = [] then ins (xs.drop i) a b else ⟨a, b⟩ :: tl ++ xs.drop i) := by
  induction d with
  | zero =>
    intro i k hd tl a b l hi hk hh ht hab hs hl
    obtain ⟨k, rfl⟩ : ∃ m, k = m + 1 := ⟨k - 1, by omega⟩
    refine ⟨hd ++ [(⟨a, b⟩ : S44)] ++ tl, ?_, ?_⟩
    · simp only [spec_SessAdd.l0]
      rw [if_neg (by omega), if_pos (by omega)]
      simp only [Option.bind_some]
      rw [if_pos (by simp; omega)]
      by_cases h3 : ((hd ++ [(⟨a, b⟩ : S44)] ++ tl).length : Int) > 300
      · rw [if_pos h3, if_pos (by omega)]; simp only [Option.some.injEq, Prod.mk.injEq, true_and]; symm; rw [decide_eq_false_iff_not]; omega
      · rw [if_neg h3, if_neg (by omega)]; simp only [Option.some.injEq, Prod.mk.injEq, true_and]; symm; rw [decide_eq_true_iff]; omega
    · rw [List.drop_eq_nil_of_le (by omega)]
      by_cases e : tl = []
      · subst e; simp [ins]
      · rw [if_neg e]; simp
  | succ d ih =>
    intro i k hd tl a b l hi hk hh ht hab hs hl
    obtain ⟨k, rfl⟩ : ∃ m, k = m + 1 := ⟨k - 1, by omega⟩
    rw [drop_cons (by omega)] at hs ⊢
    generalize hg : rd_T44 xs (i : Int) = s at hs ⊢
    obtain ⟨h1, h2, h3⟩ := hs
    have hw := h2
    unfold WOk at hw
    obtain ⟨u, hu, hui⟩ := meet_ev s.f0 s.f1 a b
    simp only [spec_SessAdd.l0]
    rw [if_pos (by omega), if_pos (by omega), hg, hu, w64s (by omega)]
    simp only [Option.bind_some]
    have hs' : SOK l (xs.drop (i + 1)) := by
      cases hr : xs.drop (i + 1) with
      | nil => trivial
      | cons q r => rw [hr] at h3; exact ⟨by have := h3.1; omega, h3.2⟩
    by_cases c1 : s.f0 < b ∧ a < s.f1
    · rw [if_pos (hui.2 c1)]
      have et : tl = [] := by
        apply Classical.byContradiction; intro hne; have := hl hne; omega
      subst et
      obtain ⟨out, ho, ho2⟩ := ih (i + 1) k hd [] (mn s.f0 a) (mx s.f1 b) l (by omega) (by omega) (by omega) (by simp) (by have := mn_le1 s.f0 a; have := mx_le1 s.f1 b; omega) hs' (by simp)
      refine ⟨out, ho, ?_⟩
      rw [ho2, if_pos rfl, if_pos rfl]
      conv => rhs; unfold ins
      rw [if_pos c1]
    · rw [if_neg (fun h => c1 (hui.1 h))]
      by_cases c2 : s.f1 ≤ a
      · have et : tl = [] := by
          apply Classical.byContradiction; intro hne; have := hl hne; omega
        subst et
        rw [if_pos c2, if_pos (by omega)]
        obtain ⟨out, ho, ho2⟩ := ih (i + 1) k (hd ++ [s]) [] a b s.f1 (by omega) (by omega) (by simp; omega) (by simp) hab h3 (by simp)
        refine ⟨out, ho, ?_⟩
        rw [ho2, if_pos rfl, if_pos rfl]
        conv => rhs; unfold ins
        rw [if_neg c1, if_pos c2]; simp
      · rw [if_neg c2, if_pos (by omega)]
        obtain ⟨out, ho, ho2⟩ := ih (i + 1) k hd (tl ++ [s]) a b s.f1 (by omega) (by omega) (by omega) (by simp; omega) hab h3 (by intro _; omega)
        refine ⟨out, ho, ?_⟩
        rw [ho2, if_neg (by simp)]
        by_cases e : tl = []
        · subst e; rw [if_pos rfl]
          conv => rhs; unfold ins
          rw [if_neg c1, if_neg c2]; simp
        · rw [if_neg e]; simp
theorem implAdd_l (xs : List S44) (hx : xs.length ≤ 1099511627776) (d : Nat) : ∀ (i k : Nat) (out : List S44) (put : Bool) (a b l : Int), i + d = xs.length → d < k →
    out.length ≤ 2 * i → a < b → SOK l (xs.drop i) → (put = true → b ≤ l) →
    ∃ o, impl_sessAdd.l0 k out put xs (xs.length : Int) (i : Int) a b = some (o, decide (o.length ≤ 300)) ∧ o = out ++ (if put = true then xs.drop i else ins (xs.drop i) a b) := by
  induction d with
  | zero =>
    intro i k out put a b l hi hk hh hab hs hl
    obtain ⟨k, rfl⟩ : ∃ m, k = m + 1 := ⟨k - 1, by omega⟩
    rw [List.drop_eq_nil_of_le (by omega)]
    simp only [impl_sessAdd.l0]
    rw [if_neg (by omega)]
    cases put with
    | true => exact ⟨out, by rw [if_pos rfl]; simp; omega, by simp⟩
    | false =>
      refine ⟨out ++ [(⟨a, b⟩ : S44)], ?_, by simp [ins]⟩
      rw [if_neg (by simp), if_pos (by omega)]; simp; omega
  | succ d ih =>
    intro i k out put a b l hi hk hh hab hs hl
    obtain ⟨k, rfl⟩ : ∃ m, k = m + 1 := ⟨k - 1, by omega⟩
    rw [drop_cons (by omega)] at hs ⊢
    generalize hg : rd_T44 xs (i : Int) = s at hs ⊢
    obtain ⟨h1, h2, h3⟩ := hs
    have hw := h2
    unfold WOk at hw
    obtain ⟨u, hu, hui⟩ := over_ev s.f0 s.f1 a b
    simp only [impl_sessAdd.l0]
    rw [if_pos (by omega), if_pos (by omega), if_pos (by omega), hg, hu, w64s (by omega)]
    simp only [Option.bind_some]
    have hs' : SOK l (xs.drop (i + 1)) := by
      cases hr : xs.drop (i + 1) with
      | nil => trivial
      | cons q r => rw [hr] at h3; exact ⟨by have := h3.1; omega, h3.2⟩
    by_cases c1 : s.f0 < b ∧ a < s.f1
    · rw [if_pos (hui.2 c1)]
      cases put with
      | true => have := hl rfl; omega
      | false =>
        obtain ⟨o, ho, ho2⟩ := ih (i + 1) k out false (mn a s.f0) (mx b s.f1) l (by omega) (by omega) (by omega) (by have := mn_le1 a s.f0; have := mx_le1 b s.f1; omega) hs' (by simp)
        refine ⟨o, ho, ?_⟩
        rw [ho2, if_neg (by simp), if_neg (by simp), mn_comm a, mx_comm b]
        conv => rhs; unfold ins
        rw [if_pos c1]
    · rw [if_neg (fun h => c1 (hui.1 h))]
      cases put with
      | true =>
        have hb := hl rfl
        rw [if_pos (by omega), if_pos rfl, if_pos (by omega)]
        obtain ⟨o, ho, ho2⟩ := ih (i + 1) k (out ++ [s]) true a b s.f1 (by omega) (by omega) (by simp; omega) hab h3 (by intro _; omega)
        exact ⟨o, ho, by rw [ho2]; simp⟩
      | false =>
        by_cases c2 : s.f0 ≥ b
        · rw [if_pos c2, if_neg (by simp), if_pos (by simp; omega)]
          obtain ⟨o, ho, ho2⟩ := ih (i + 1) k (out ++ [⟨a, b⟩, s]) true a b s.f1 (by omega) (by omega) (by simp; omega) hab h3 (by intro _; omega)
          refine ⟨o, ho, ?_⟩
          rw [ho2, if_pos rfl, if_neg (by simp)]
          conv => rhs; unfold ins
          rw [if_neg c1, if_neg (by omega)]; simp
        · rw [if_neg c2, if_pos (by omega)]
          obtain ⟨o, ho, ho2⟩ := ih (i + 1) k (out ++ [s]) false a b s.f1 (by omega) (by omega) (by simp; omega) hab h3 (by simp)
          refine ⟨o, ho, ?_⟩
          rw [ho2, if_neg (by simp), if_neg (by simp)]
          conv => rhs; unfold ins
          rw [if_neg c1, if_pos (by omega)]; simp
noncomputable def addL (xs : List S44) (a b : Int) : List S44 × Bool := open Classical in
  if OKL xs ∧ WOk a b then (if (ins xs a b).length > 300 then [] else ins xs a b, decide ((ins xs a b).length ≤ 300)) else ([], false)
theorem specAdd_ev {xs : List S44} {a b : Int} {k : Nat} (hx : xs.length ≤ 1000) (hk : 2000 < k) : spec_SessAdd.f k xs a b = some (addL xs a b) := by
  unfold spec_SessAdd.f addL
  obtain ⟨t, ht, hti⟩ := specSessOk_ev (xs := xs) (k := k) (by omega)
  obtain ⟨k, rfl⟩ : ∃ m, k = m + 1 := ⟨k - 1, by omega⟩
  rw [ht]; simp only [Option.bind_some]
  by_cases h1 : OKL xs
  · obtain rfl := hti.2 h1
    obtain ⟨u, hu, hui⟩ := win_ev a b
    rw [if_pos rfl, hu]; simp only [Option.bind_some, spec_SessAdd.j0]
    by_cases h2 : WOk a b
    · obtain rfl := hui.2 h2
      rw [if_neg (by simp), if_pos ⟨h1, h2⟩]
      obtain ⟨o, ho, ho2⟩ := specAdd_l xs (by omega) xs.length 0 k [] [] a b 0 (by omega) (by omega) (by simp) (by simp) h2.2.1 (by simpa using h1.2) (by simp)
      simp at ho2; subst ho2; simpa using ho
    · have hu2 : u = false := by cases u <;> simp_all
      subst hu2
      rw [if_pos (by simp), if_neg (fun h => h2 h.2)]
  · have ht2 : t = false := by cases t <;> simp_all
    subst ht2
    rw [if_neg (by simp), if_neg (fun h => h1 h.1)]; simp only [spec_SessAdd.j0]; rw [if_pos trivial]
theorem implAdd_ev {xs : List S44} {a b : Int} {k : Nat} (hx : xs.length ≤ 1000) (hk : 2000 < k) : impl_SessAdd.f k xs a b = some (addL xs a b) := by
  unfold impl_SessAdd.f addL
  obtain ⟨t, ht, hti⟩ := areSess_ev (xs := xs) (k := k) (by omega) (by omega)
  obtain ⟨k, rfl⟩ : ∃ m, k = m + 1 := ⟨k - 1, by omega⟩
  rw [ht]; simp only [Option.bind_some]
  by_cases h1 : OKL xs
  · obtain rfl := hti.2 h1
    obtain ⟨u, hu, hui⟩ := isWin_ev a b
    rw [if_pos rfl, hu]; simp only [Option.bind_some, impl_SessAdd.j0]
    by_cases h2 : WOk a b
    · obtain rfl := hui.2 h2
      rw [if_neg (by simp), if_pos ⟨h1, h2⟩]
      obtain ⟨o, ho, ho2⟩ := implAdd_l xs (by omega) xs.length 0 k [] false a b 0 (by omega) (by omega) (by simp) h2.2.1 (by simpa using h1.2) (by simp)
      simp at ho2; subst ho2
      unfold impl_sessAdd.f impl_sessTold.f
      simp only [Int.natCast_zero] at ho
      rw [ho]; simp only [Option.bind_some]
      by_cases h3 : (ins xs a b).length ≤ 300
      · rw [if_pos (by simpa using h3), if_neg (by omega)]; simp [h3]
      · rw [if_neg (by simpa using h3), if_pos (by omega)]; simp; omega
    · have hu2 : u = false := by cases u <;> simp_all
      subst hu2
      rw [if_pos (by simp), if_neg (fun h => h2 h.2)]
  · have ht2 : t = false := by cases t <;> simp_all
    subst ht2
    rw [if_neg (by simp), if_neg (fun h => h1 h.1)]; simp only [impl_SessAdd.j0]; rw [if_pos trivial]
/-! the draws -/
theorem Cur.mono {M M' a s : Int} (h : Cur M a s) (hM : M ≤ M') : Cur M' a s := by unfold Cur at *; omega
theorem oneWin_ev {bs : List Int} (hb : Bytes bs) {M a s : Int} (hc : Cur M a s) (hM : M ≤ 1099511000000) (hl : bs.length ≤ 1099511627776000) :
    ∃ x y a' s', spec_l01Cur_oneWin.f bs a s = some (x, y, a', s') ∧ Cur (M + 6) a' s' := by
  unfold spec_l01Cur_oneWin.f
  obtain ⟨v, a1, s1, e, hv, hv', hc1⟩ := pick_ev hb 60 hc (by omega) hl
  rw [e]; simp only [Option.bind_some]
  obtain ⟨v2, a2, s2, e2, hv2, hv2', hc2⟩ := pick_ev hb 9 hc1 (by omega) hl
  rw [e2]; simp only [Option.bind_some]
  obtain ⟨v3, a3, s3, e3, hv3, hv3', hc3⟩ := pick_ev hb 12 hc2 (by omega) hl
  rw [e3]; simp only [Option.bind_some]
  obtain ⟨v4, a4, s4, e4, hv4, hv4', hc4⟩ := raw_ev hb hc3 (by omega) hl
  by_cases c0 : v3 = 0
  · rw [if_pos c0, e4]; simp only [Option.bind_some]
    exact ⟨_, _, _, _, rfl, hc4.mono (by omega)⟩
  rw [if_neg c0]
  by_cases c1 : v3 = 1
  · rw [if_pos c1, e4]; simp only [Option.bind_some]
    obtain ⟨v5, a5, s5, e5, hv5, hv5', hc5⟩ := pick_ev hb 4 hc4 (by omega) hl
    rw [e5]; simp only [Option.bind_some]
    rw [if_pos hv5, if_pos (by simp; omega)]
    exact ⟨_, _, _, _, rfl, hc5.mono (by omega)⟩
  rw [if_neg c1]
  exact ⟨_, _, _, _, rfl, hc3.mono (by omega)⟩
theorem size_ev {bs : List Int} (hb : Bytes bs) {M a s : Int} (n : Int) (h0 : 0 ≤ n) (h1 : n ≤ 1000) (hc : Cur M a s) (hM : M ≤ 1099511000000) (hl : bs.length ≤ 1099511627776000) :
    ∃ v a' s', spec_l01Cur_size.f bs a s n = some (v, a', s') ∧ 0 ≤ v ∧ v ≤ n ∧ Cur (M + 1) a' s' := by
  unfold spec_l01Cur_size.f
  have e1 : wrap64 ((bs.length : Int) / 8) = (bs.length : Int) / 8 := w64 (by omega) (by omega)
  have e2 : wrap64 (1 + (bs.length : Int) / 8) = 1 + (bs.length : Int) / 8 := w64 (by omega) (by omega)
  have hm := mn_le1 n (1 + (bs.length : Int) / 8)
  have hm2 : 0 ≤ mn n (1 + (bs.length : Int) / 8) := by unfold mn; split <;> omega
  rw [e1, e2, w64 (by omega) (by omega)]
  clear e1 e2
  obtain ⟨v, a1, s1, e, hv, hv', hc1⟩ := pick_ev hb (mn n (1 + (bs.length : Int) / 8) + 1) hc (by omega) hl
  rw [e]; simp only [Option.bind_some]
  exact ⟨_, _, _, rfl, hv, by omega, hc1⟩
theorem addL_len (xs : List S44) (a b : Int) (h : (addL xs a b).2 = true) : (addL xs a b).1.length ≤ 300 := by
  unfold addL at h ⊢
  split at h
  · rename_i h1
    rw [if_pos h1]
    simp only [decide_eq_true_eq] at h
    rw [if_neg (by omega)]; exact h
  · cases h
theorem sessions_l1 {bs : List Int} (hb : Bytes bs) (hl : bs.length ≤ 1099511627776000) (d : Nat) : ∀ (i k : Nat) (xs : List S44) (M a s : Int), i + d = 302 → d < k → xs.length = i → Cur M a s → M + d ≤ 1099511000000 →
    ∃ ys a' s', spec_l01Cur_sessions.l1 k xs (i : Int) bs a s = some (ys, a', s') ∧ ys.length ≤ 302 ∧ Cur (M + d + 1) a' s' := by
  induction d with
  | zero =>
    intro i k xs M a s hi hk hx hc hM
    obtain ⟨k, rfl⟩ : ∃ m, k = m + 1 := ⟨k - 1, by omega⟩
    simp only [spec_l01Cur_sessions.l1]
    obtain ⟨v, a1, s1, e, hv, hv', hc1⟩ := pick_ev hb 2 hc (by omega) hl
    rw [e]; simp only [Option.bind_some]
    rw [if_neg (by rw [w64] <;> omega)]
    exact ⟨_, _, _, rfl, by omega, hc1.mono (by omega)⟩
  | succ d ih =>
    intro i k xs M a s hi hk hx hc hM
    obtain ⟨k, rfl⟩ : ∃ m, k = m + 1 := ⟨k - 1, by omega⟩
    simp only [spec_l01Cur_sessions.l1]
    obtain ⟨v, a1, s1, e, hv, hv', hc1⟩ := pick_ev hb 2 hc (by omega) hl
    rw [e]; simp only [Option.bind_some]
    by_cases c : (i : Int) < wrap64 (300 + v)
    · rw [if_pos c, if_pos (by omega), w64s (by omega)]
      clear c
      obtain ⟨ys, a', s', h1, h2, h3⟩ := ih (i + 1) k (xs ++ [⟨wrap64 (2 * (i : Int)), wrap64 (wrap64 (2 * (i : Int)) + 1)⟩]) (M + 1) a1 s1 (by omega) (by omega) (by simp; omega) hc1 (by omega)
      exact ⟨ys, a', s', h1, h2, h3.mono (by omega)⟩
    · rw [if_neg c]
      clear c
      exact ⟨_, _, _, rfl, by omega, hc1.mono (by omega)⟩
theorem sessions_l0 {bs : List Int} (hb : Bytes bs) (hl : bs.length ≤ 1099511627776000) (d : Nat) : ∀ (k : Nat) (xs : List S44) (M a s : Int), d ≤ 12 → 3000 + d < k → xs.length ≤ 300 → Cur M a s → M + 6 * d ≤ 1000000 →
    ∃ ys a' s', spec_l01Cur_sessions.l0 k xs (d : Int) bs a s = some (ys, a', s') ∧ ys.length ≤ 302 ∧ Cur (M + 6 * d + 400) a' s' := by
  induction d with
  | zero =>
    intro k xs M a s hd hk hx hc hM
    obtain ⟨k, rfl⟩ : ∃ m, k = m + 1 := ⟨k - 1, by omega⟩
    simp only [spec_l01Cur_sessions.l0]
    rw [if_neg (by omega)]
    obtain ⟨v, a1, s1, e, hv, hv', hc1⟩ := pick_ev hb 12 hc (by omega) hl
    rw [e]; simp only [Option.bind_some]
    by_cases c0 : v = 0
    · rw [if_pos c0]
      obtain ⟨x, y, a2, s2, e2, hc2⟩ := oneWin_ev hb hc1 (by omega) hl
      rw [e2]; simp only [Option.bind_some]
      rw [if_pos (by omega)]
      exact ⟨_, _, _, rfl, by simp; omega, hc2.mono (by omega)⟩
    rw [if_neg c0]
    by_cases c1 : v = 1
    · rw [if_pos c1]
      obtain ⟨ys, a', s', h1, h2, h3⟩ := sessions_l1 hb hl 302 0 k [] (M + 1) a1 s1 (by omega) (by omega) (by simp) hc1 (by omega)
      exact ⟨ys, a', s', h1, h2, h3.mono (by omega)⟩
    rw [if_neg c1]
    exact ⟨_, _, _, rfl, by omega, hc1.mono (by omega)⟩
  | succ d ih =>
    intro k xs M a s hd hk hx hc hM
    obtain ⟨k, rfl⟩ : ∃ m, k = m + 1 := ⟨k - 1, by omega⟩
    simp only [spec_l01Cur_sessions.l0]
    rw [if_pos (by omega)]
    obtain ⟨x, y, a2, s2, e2, hc2⟩ := oneWin_ev hb hc (by omega) hl
    rw [e2]; simp only [Option.bind_some]
    rw [specAdd_ev (by omega) (by omega)]; simp only [Option.bind_some]
    rw [show wrap64 (((d + 1 : Nat) : Int) - 1) = (d : Int) from by rw [w64] <;> omega]
    by_cases c : (addL xs x y).2 = true
    · rw [if_pos c]
      obtain ⟨ys, a', s', h1, h2, h3⟩ := ih k _ (M + 6) a2 s2 (by omega) (by omega) (addL_len _ _ _ c) hc2 (by omega)
      exact ⟨ys, a', s', h1, h2, h3.mono (by omega)⟩
    · rw [if_neg c]
      obtain ⟨ys, a', s', h1, h2, h3⟩ := ih k xs (M + 6) a2 s2 (by omega) (by omega) hx hc2 (by omega)
      exact ⟨ys, a', s', h1, h2, h3.mono (by omega)⟩
theorem draw_ev {bs : List Int} (hb : Bytes bs) (hl : bs.length ≤ 1048576) {k : Nat} (hk : 4000 < k) : ∃ xs a b, spec_DrawSessAdd.f k bs = some (xs, a, b) ∧ xs.length ≤ 302 := by
  unfold spec_DrawSessAdd.f spec_l01Open.f
  rw [Option.bind_some]
  unfold spec_l01Cur_sessions.f
  dsimp only
  have hc : Cur 0 0 (101 + (bs.length : Int) % 1000) := by unfold Cur; omega
  obtain ⟨v, a1, s1, e, hv, hv', hc1⟩ := size_ev hb 12 (by omega) (by omega) hc (by omega) (by omega)
  rw [e]; simp only [Option.bind_some]
  obtain ⟨d, rfl⟩ := Int.eq_ofNat_of_zero_le hv
  obtain ⟨ys, a', s', h1, h2, h3⟩ := sessions_l0 hb (by omega) d k [] _ a1 s1 (by omega) (by omega) (by simp) hc1 (by omega)
  rw [h1]; simp only [Option.bind_some]
  obtain ⟨x, y, a2, s2, e2, hc2⟩ := oneWin_ev hb h3 (by omega) (by omega)
  rw [e2]; simp only [Option.bind_some]
  exact ⟨_, _, _, rfl, h2⟩
/-! the law -/
theorem same_l (xs : List S44) (hx : xs.length ≤ 1099511627776) (d : Nat) : ∀ (i k : Nat), i + d = xs.length → d < k → laws_sameWins.l0 k xs xs (i : Int) = some true := by
  induction d with
  | zero =>
    intro i k hi hk
    obtain ⟨k, rfl⟩ : ∃ m, k = m + 1 := ⟨k - 1, by omega⟩
    simp only [laws_sameWins.l0]; rw [if_neg (by omega)]
  | succ d ih =>
    intro i k hi hk
    obtain ⟨k, rfl⟩ : ∃ m, k = m + 1 := ⟨k - 1, by omega⟩
    simp only [laws_sameWins.l0]; rw [if_pos (by omega), if_pos (by omega), if_pos (by omega), if_neg (by simp), w64s (by omega)]
    exact ih (i + 1) k (by omega) (by omega)
theorem same_ev {xs : List S44} {k : Nat} (hx : xs.length ≤ 1000) (hk : 1000 < k) : laws_sameWins.f k xs xs = some true := by
  unfold laws_sameWins.f
  rw [if_pos rfl]
  exact same_l xs (by omega) xs.length 0 k (by omega) (by omega)
theorem sok_mem : ∀ {r : List S44} {l : Int}, SOK l r → ∀ s ∈ r, WOk s.f0 s.f1
  | w :: r, l, ⟨h1, h2, h3⟩, s, h => by
    rcases List.mem_cons.1 h with rfl | h
    · exact h2
    · exact sok_mem h3 s h
theorem sok_one : ∀ {r : List S44} {l : Int}, SOK l r → ∀ p ∈ r, ∀ q ∈ r, ∀ t, p.f0 ≤ t → t < p.f1 → q.f0 ≤ t → t < q.f1 → p = q
  | w :: r, l, ⟨h1, h2, h3⟩, p, hp, q, hq, t, a, b, c, d => by
    rcases List.mem_cons.1 hp with rfl | hp2
    · rcases List.mem_cons.1 hq with rfl | hq2
      · rfl
      · have := sok_far h3 q hq2; omega
    · rcases List.mem_cons.1 hq with rfl | hq2
      · have := sok_far h3 p hp2; omega
      · exact sok_one h3 p hp2 q hq2 t a b c d
theorem at_l (xs : List S44) (t : Int) (hx : xs.length ≤ 1099511627776) (hw : ∀ s ∈ xs, WOk s.f0 s.f1) (d : Nat) : ∀ (i k : Nat), i + d = xs.length → d < k → (∃ m ∈ xs.drop i, m.f0 ≤ t ∧ t < m.f1) →
    ∃ n, ∃ h : n < xs.length, impl_sessAt.l0 k t xs (xs.length : Int) (i : Int) = some (n : Int) ∧ xs[n].f0 ≤ t ∧ t < xs[n].f1 := by
  induction d with
  | zero =>
    intro i k hi hk ⟨m, hm, _⟩
    rw [List.drop_eq_nil_of_le (by omega)] at hm; cases hm
  | succ d ih =>
    intro i k hi hk hm
    obtain ⟨k, rfl⟩ : ∃ m, k = m + 1 := ⟨k - 1, by omega⟩
    have hwi := hw _ (List.getElem_mem (show i < xs.length by omega))
    rw [List.drop_eq_getElem_cons (by omega)] at hm
    simp only [impl_sessAt.l0]
    rw [if_pos (by omega), if_pos (by omega), if_pos (by omega), rdT_get (by omega), w64s (by omega)]
    unfold impl_Win_has.f impl_in.f
    unfold WOk at hwi
    rw [w64 (n := (xs[i]'(by omega)).f1 - 1) (by omega) (by omega)]
    by_cases c : (xs[i]'(by omega)).f0 ≤ t
    · rw [if_pos c]; simp only [Option.bind_some]
      by_cases c2 : t ≤ (xs[i]'(by omega)).f1 - 1
      · rw [if_pos (by simpa using c2)]
        exact ⟨i, by omega, rfl, c, by omega⟩
      · rw [if_neg (by simpa using c2)]
        refine ih (i + 1) k (by omega) (by omega) ?_
        obtain ⟨m, hm, h1, h2⟩ := hm
        rcases List.mem_cons.1 hm with rfl | hm
        · omega
        · exact ⟨m, hm, h1, h2⟩
    · rw [if_neg c]; simp only [Option.bind_some]
      rw [if_neg (by simp)]
      refine ih (i + 1) k (by omega) (by omega) ?_
      obtain ⟨m, hm, h1, h2⟩ := hm
      rcases List.mem_cons.1 hm with rfl | hm
      · omega
      · exact ⟨m, hm, h1, h2⟩
theorem law_l (xs more all : List S44) (hx : xs.length ≤ 400) (ho : OKL more) (hle : more.length ≤ xs.length + 1)
    (hin : ∀ s ∈ all, WOk s.f0 s.f1 ∧ ∃ m ∈ more, m.f0 ≤ s.f0 ∧ s.f1 ≤ m.f1) (ha : all.length ≤ 1000) (d : Nat) : ∀ (i k : Nat), i + d = all.length → 2000 + d < k → laws_FnSessAdd.l0 k xs more all (i : Int) = some true := by
  have hm3 : more.length ≤ 300 := ho.1
  induction d with
  | zero =>
    intro i k hi hk
    obtain ⟨k, rfl⟩ : ∃ m, k = m + 1 := ⟨k - 1, by omega⟩
    simp only [laws_FnSessAdd.l0]
    rw [if_neg (by omega), if_pos (by rw [w64] <;> omega)]
    obtain ⟨t, ht, hti⟩ := specSessOk_ev (xs := more) (k := k) (by omega)
    rw [ht, hti.2 ho]; rfl
  | succ d ih =>
    intro i k hi hk
    obtain ⟨k, rfl⟩ : ∃ m, k = m + 1 := ⟨k - 1, by omega⟩
    obtain ⟨hw, m, hm, h1, h2⟩ := hin _ (List.getElem_mem (show i < all.length by omega))
    simp only [laws_FnSessAdd.l0]
    rw [if_pos (by omega), if_pos (by omega), rdT_get (by omega), w64s (by omega)]
    unfold impl_SessAt.f impl_sessAt.f
    obtain ⟨t, ht, hti⟩ := areSess_ev (xs := more) (k := k) (by omega) (by omega)
    obtain rfl := hti.2 ho
    unfold WOk at hw
    obtain ⟨n, hn, h3, h4, h5⟩ := at_l more (all[i]'(by omega)).f0 (by omega) (sok_mem ho.2) more.length 0 k (by omega) (by omega) ⟨m, by simpa using hm, h1, by omega⟩
    simp only [Int.natCast_zero] at h3
    have hu := sok_one ho.2 m hm _ (List.getElem_mem hn) _ h1 (by omega) h4 h5
    rw [ht]; simp only [Option.bind_some]
    rw [if_pos trivial, h3]; simp only [Option.bind_some]
    rw [if_neg (by omega), if_pos (by omega), if_pos (by omega), rdT_get hn, ← hu, if_neg (by omega), if_neg (by omega)]
    exact ih (i + 1) k (by omega) (by omega)
theorem FnSessAdd : laws_FnSessAdd.Pure := by
  intro l0 _ _ hwf
  have hb : Bytes l0 := by
    intro x hx
    have := hwf x hx
    simp [Lit.wf, IntKind.min, IntKind.max, IntKind.signed, IntKind.bits] at this
    omega
  refine ⟨10000, ?_⟩
  unfold laws_FnSessAdd.f laws_big.f
  simp only [Option.bind_some]
  by_cases hbig : (l0.length : Int) > 1048576
  · rw [if_pos (by simpa using hbig)]
  rw [if_neg (by simpa using hbig)]
  obtain ⟨xs, a, b, hd, hx⟩ := draw_ev hb (by omega) (k := 10000) (by omega)
  rw [hd]; simp only [Option.bind_some]
  rw [specAdd_ev (by omega) (by omega)]; simp only [Option.bind_some]
  rw [implAdd_ev (by omega) (by omega)]; simp only [Option.bind_some]
  have hlen : (addL xs a b).1.length ≤ 1000 := by
    unfold addL
    have := ins_len xs a b
    split
    · simp only; split
      · simp
      · omega
    · simp
  rw [if_neg (by simp), same_ev hlen (by omega)]; simp only [Option.bind_some]
  rw [if_pos trivial]
  by_cases hok : (addL xs a b).2 = true
  · rw [hok]
    have hc : OKL xs ∧ WOk a b := by
      apply Classical.byContradiction; intro hn
      unfold addL at hok; rw [if_neg hn] at hok; cases hok
    have hl3 : (ins xs a b).length ≤ 300 := by
      unfold addL at hok; rw [if_pos hc] at hok; simpa using hok
    have he : (addL xs a b).1 = ins xs a b := by
      unfold addL; rw [if_pos hc]; simp only; rw [if_neg (by omega)]
    rw [he]
    simp only [laws_FnSessAdd.j0, Bool.not_true, Option.bind_some, List.nil_append, List.length_nil]
    rw [if_neg (by simp), if_pos (by omega), if_pos (by simp; omega)]
    have hin := ins_in xs a b
    refine law_l xs (ins xs a b) (xs ++ [(⟨a, b⟩ : S44)]) (by omega) ⟨hl3, ins_sok xs 0 a b hc.1.2 hc.2.1 hc.2⟩ (ins_len xs a b) ?_ (by simp; omega) (xs ++ [(⟨a, b⟩ : S44)]).length 0 9999 (by omega) (by simp; omega)
    intro s hs
    rcases List.mem_append.1 hs with hs | hs
    · exact ⟨sok_mem hc.1.2 s hs, hin.2 s hs⟩
    · simp only [List.mem_singleton] at hs
      subst hs
      exact ⟨hc.2, hin.1⟩
  · have hf : (addL xs a b).2 = false := by simpa using hok
    rw [hf]
    simp only [laws_FnSessAdd.j0, Bool.not_false]
    rw [if_pos trivial, if_pos (by simp), same_ev hlen (by omega)]; rfl

end Go.Proofs.Ytahnodgbfonlhaa.Pure
