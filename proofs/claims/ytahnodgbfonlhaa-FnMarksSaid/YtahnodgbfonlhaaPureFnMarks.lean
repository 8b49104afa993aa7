/- The law FnMarks answers true for every code: what the machine tells of marks is what the spec tells, and a step that is fine keeps the marks valid, never lowers them and lies at or above the least promise. Conditions: none beyond the given statement. -/
import Derived.Test.YtahnodgbfonlhaaQFnMarksx12
import Derived.Laws.BitsLemmas
set_option linter.unusedVariables false
set_option linter.unusedSimpArgs false
namespace Go.Proofs.Ytahnodgbfonlhaa.Pure
open Go.RowKit Go.Proofs.Ytahnodgbfonlhaa.PFnMarks Go.Proofs.YtahnodgbfonlhaaW.PrintWords Go.Proofs.YtahnodgbfonlhaaW.PrintLast Go.Proofs.YtahnodgbfonlhaaW.PrintMore
theorem w64 {n : Int} (h0 : -9223372036854775808 ≤ n) (h1 : n ≤ 9223372036854775807) : wrap64 n = n := by unfold wrap64; omega
theorem w64_lo (n : Int) : -9223372036854775808 ≤ wrap64 n := by unfold wrap64; omega
theorem w64_hi (n : Int) : wrap64 n ≤ 9223372036854775807 := by unfold wrap64; omega

def Cur (M a s : Int) : Prop := 0 ≤ a ∧ a ≤ M ∧ 0 ≤ s ∧ s < 65521
def Bytes (bs : List Int) : Prop := ∀ x ∈ bs, 0 ≤ x ∧ x ≤ 255
theorem rd_byte {bs : List Int} (hb : Bytes bs) (i : Int) : 0 ≤ rd bs i ∧ rd bs i ≤ 255 := by
  unfold rd
  rw [List.getD_eq_getElem?_getD]
  rcases h : bs[i.toNat]? with _ | x
  · simp
  · exact hb x (List.mem_of_getElem? h)
theorem tm {x n : Int} (hx : 0 ≤ x) (hn : 2 ≤ n) : 0 ≤ Int.tmod x n ∧ Int.tmod x n < n := by
  rw [Int.tmod_eq_emod_of_nonneg hx]
  exact ⟨Int.emod_nonneg _ (by omega), Int.emod_lt_of_pos _ (by omega)⟩
theorem pick_ev {bs : List Int} (hb : Bytes bs) {M a s : Int} (n : Int) (hc : Cur M a s) (hM : M ≤ 1099511627776) (hl : bs.length ≤ 1099511627776000) :
    ∃ v a' s', spec_l01Cur_pick.f bs a s n = some (v, a', s') ∧ 0 ≤ v ∧ (v < n ∨ v = 0) ∧ Cur (M + 1) a' s' := by
  obtain ⟨h0, h1, h2, h3⟩ := hc
  unfold spec_l01Cur_pick.f
  by_cases c1 : n < 2
  · rw [if_pos c1]; exact ⟨_, _, _, rfl, by omega, by omega, by omega, by omega, h2, h3⟩
  rw [if_neg c1]
  have ea : wrap64 (a + 1) = a + 1 := w64 (by omega) (by omega)
  by_cases c2 : a < (bs.length : Int)
  · have hr := rd_byte hb a
    have ht := tm (x := wrap64 (rd bs a)) (n := n) (by rw [w64] <;> omega) (by omega)
    rw [if_pos c2, if_pos h0, if_neg (by omega), ea]
    exact ⟨_, _, _, rfl, ht.1, Or.inl ht.2, by omega, by omega, h2, h3⟩
  rw [if_neg c2]
  have e1 : wrap64 (s * 1103) = s * 1103 := w64 (by omega) (by omega)
  have e2 : wrap64 (s * 1103 + 12345) = s * 1103 + 12345 := w64 (by omega) (by omega)
  simp only [e1, e2, ea]
  have hm := tm (x := s * 1103 + 12345) (n := 65521) (by omega) (by omega)
  generalize Int.tmod (s * 1103 + 12345) 65521 = q at hm ⊢
  by_cases c3 : (bs.length : Int) > 0
  · have hd : 0 ≤ Int.tmod a (bs.length : Int) ∧ Int.tmod a (bs.length : Int) < (bs.length : Int) := by
      rw [Int.tmod_eq_emod_of_nonneg h0]
      exact ⟨Int.emod_nonneg _ (by omega), Int.emod_lt_of_pos _ (by omega)⟩
    have hr := rd_byte hb (Int.tmod a (bs.length : Int))
    have hq : 0 ≤ Int.tdiv q 7 ∧ Int.tdiv q 7 ≤ 65521 := by
      rw [Int.tdiv_eq_ediv_of_nonneg hm.1]; omega
    have ht := tm (x := wrap64 (wrap64 (Int.tdiv q 7) + wrap64 (rd bs (Int.tmod a (bs.length : Int))))) (n := n) (by rw [w64 (n := Int.tdiv q 7), w64 (n := rd bs _), w64] <;> omega) (by omega)
    rw [if_pos c3, if_neg (by omega), if_pos hd.1, if_pos hd.2, if_neg (by omega)]
    exact ⟨_, _, _, rfl, ht.1, Or.inl ht.2, by omega, by omega, hm.1, hm.2⟩
  · rw [if_neg c3, if_neg (by omega)]
    exact ⟨_, _, _, rfl, by simp, Or.inr (by simp), by omega, by omega, hm.1, hm.2⟩
theorem raw_ev {bs : List Int} (hb : Bytes bs) {M a s : Int} (hc : Cur M a s) (hM : M ≤ 1099511600000) (hl : bs.length ≤ 1099511627776000) :
    ∃ v a' s', spec_l01Cur_raw.f bs a s = some (v, a', s') ∧ -9223372036854775808 ≤ v ∧ v ≤ 9223372036854775807 ∧ Cur (M + 2) a' s' := by
  unfold spec_l01Cur_raw.f
  obtain ⟨v, a1, s1, e, hv, hv', hc1⟩ := pick_ev hb 8 hc (by omega) hl
  rw [e]; simp only [Option.bind_some]
  by_cases c0 : v = 0
  · rw [if_pos c0]
    obtain ⟨v2, a2, s2, e2, hv2, hv2', hc2⟩ := pick_ev hb 256 hc1 (by omega) hl
    rw [e2]; simp only [Option.bind_some]
    exact ⟨_, _, _, rfl, w64_lo _, w64_hi _, by unfold Cur at hc2 ⊢; omega⟩
  rw [if_neg c0]
  by_cases c1 : v = 1
  · rw [if_pos c1]
    obtain ⟨v2, a2, s2, e2, hv2, hv2', hc2⟩ := pick_ev hb 8 hc1 (by omega) hl
    rw [e2]; simp only [Option.bind_some]
    rw [if_pos hv2, if_pos (by simp; omega)]
    refine ⟨_, _, _, rfl, ?_, ?_, by unfold Cur at hc2 ⊢; omega⟩
    all_goals
      have : v2 = 0 ∨ v2 = 1 ∨ v2 = 2 ∨ v2 = 3 ∨ v2 = 4 ∨ v2 = 5 ∨ v2 = 6 ∨ v2 = 7 := by omega
      rcases this with rfl | rfl | rfl | rfl | rfl | rfl | rfl | rfl <;> decide
  rw [if_neg c1]
  obtain ⟨v2, a2, s2, e2, hv2, hv2', hc2⟩ := pick_ev hb 14 hc1 (by omega) hl
  rw [e2]; simp only [Option.bind_some]
  exact ⟨_, _, _, rfl, w64_lo _, w64_hi _, by unfold Cur at hc2 ⊢; omega⟩
theorem Cur.mono {M M' a s : Int} (h : Cur M a s) (hM : M ≤ M') : Cur M' a s := by unfold Cur at *; omega
/-! least, most, ok -/
def L : Int → Bool → List S63 → Int
  | x, _, [] => x
  | x, n, m :: ms => if m.f1 = true then L x n ms else if n = true ∨ m.f0 < x then L m.f0 false ms else L x n ms
def lst (M : List S63) : Int := L (-1) true M
def mst : Int → List S63 → Int
  | x, [] => x
  | x, m :: ms => mst (mx x m.f0) ms
theorem mx_ev (a b : Int) : mx a b = if a < b then b else a := by unfold mx; rfl
theorem drop_rdT (M : List S63) (i : Nat) (h : i < M.length) : M.drop i = rd_T63 M (i : Int) :: M.drop (i + 1) := by
  rw [List.drop_eq_getElem_cons h]
  congr 1
  unfold rd_T63
  rw [Int.toNat_natCast, List.getD_eq_getElem?_getD, List.getElem?_eq_getElem h, Option.getD_some]
theorem specLeast_l0 (g : Int) (M : List S63) (hM : M.length < 1000) (d : Nat) : ∀ (k : Nat) (x : Int) (n : Bool) (i : Nat), 2 * d < k → M.length - i = d → i ≤ M.length →
    spec_MarksLeast.l0 k x n (i : Int) g M = some (L x n (M.drop i)) := by
  induction d with
  | zero =>
    intro k x n i hk hd hi
    obtain ⟨k, rfl⟩ : ∃ m, k = m + 1 := ⟨k - 1, by omega⟩
    rw [spec_MarksLeast.l0, if_neg (by omega), List.drop_of_length_le (by omega), L]
  | succ d ih =>
    intro k x n i hk hd hi
    obtain ⟨k, rfl⟩ : ∃ m, k = m + 2 := ⟨k - 2, by omega⟩
    have e : wrap64 ((i : Int) + 1) = ((i + 1 : Nat) : Int) := by rw [w64 (by omega) (by omega)]; omega
    rw [spec_MarksLeast.l0, if_pos (by omega), if_pos (by omega), drop_rdT M i (by omega), L]
    by_cases c : (rd_T63 M (i : Int)).f1 = true
    · rw [if_pos c, if_pos c, spec_MarksLeast.j1, if_neg (by decide), e]
      exact ih k x n (i + 1) (by omega) (by omega) (by omega)
    · rw [if_neg c, if_neg c]
      by_cases c2 : n = true
      · rw [if_pos c2, if_pos (Or.inl c2), spec_MarksLeast.j1, if_pos rfl, if_pos (by omega), if_pos (by omega), e]
        exact ih k _ _ (i + 1) (by omega) (by omega) (by omega)
      · rw [if_neg c2]
        by_cases c3 : (rd_T63 M (i : Int)).f0 < x
        · rw [decide_eq_true c3, if_pos (Or.inr c3), spec_MarksLeast.j1, if_pos rfl, if_pos (by omega), if_pos (by omega), e]
          exact ih k _ _ (i + 1) (by omega) (by omega) (by omega)
        · rw [decide_eq_false c3, if_neg (fun h => h.elim c2 c3), spec_MarksLeast.j1, if_neg (by decide), e]
          exact ih k _ _ (i + 1) (by omega) (by omega) (by omega)
theorem specLeast_ev (g : Int) (M : List S63) (hM : M.length < 10) {k : Nat} (hk : 20 < k) : spec_MarksLeast.f k g M = some (lst M) :=
  specLeast_l0 g M (by omega) M.length k (-1) true 0 (by omega) (by omega) (by omega)
theorem implLeast_l0 (M : List S63) (hM : M.length < 1000) (d : Nat) : ∀ (k : Nat) (x : Int) (n : Bool) (i : Nat), 2 * d < k → M.length - i = d → i ≤ M.length →
    impl_MarksLeast.l0 k x n M (M.length : Int) (i : Int) = some (L x n (M.drop i)) := by
  induction d with
  | zero =>
    intro k x n i hk hd hi
    obtain ⟨k, rfl⟩ : ∃ m, k = m + 1 := ⟨k - 1, by omega⟩
    rw [impl_MarksLeast.l0, if_neg (by omega), List.drop_of_length_le (by omega), L]
  | succ d ih =>
    intro k x n i hk hd hi
    obtain ⟨k, rfl⟩ : ∃ m, k = m + 2 := ⟨k - 2, by omega⟩
    have e : wrap64 ((i : Int) + 1) = ((i + 1 : Nat) : Int) := by rw [w64 (by omega) (by omega)]; omega
    rw [impl_MarksLeast.l0, if_pos (by omega), if_pos (by omega), if_pos (by omega), drop_rdT M i (by omega), L]
    by_cases c : (rd_T63 M (i : Int)).f1 = true
    · rw [if_pos c, if_pos c, impl_MarksLeast.j1, if_neg (by decide), e]
      exact ih k x n (i + 1) (by omega) (by omega) (by omega)
    · rw [if_neg c, if_neg c]
      by_cases c2 : n = true
      · rw [if_pos c2, if_pos (Or.inl c2), impl_MarksLeast.j1, if_pos rfl, e]
        exact ih k _ _ (i + 1) (by omega) (by omega) (by omega)
      · rw [if_neg c2]
        by_cases c3 : (rd_T63 M (i : Int)).f0 < x
        · rw [decide_eq_true c3, if_pos (Or.inr c3), impl_MarksLeast.j1, if_pos rfl, e]
          exact ih k _ _ (i + 1) (by omega) (by omega) (by omega)
        · rw [decide_eq_false c3, if_neg (fun h => h.elim c2 c3), impl_MarksLeast.j1, if_neg (by decide), e]
          exact ih k _ _ (i + 1) (by omega) (by omega) (by omega)
theorem implLeast_ev (g : Int) (M : List S63) (hM : M.length < 10) {k : Nat} (hk : 20 < k) : impl_MarksLeast.f k g M = some (lst M) :=
  implLeast_l0 M (by omega) M.length k (-1) true 0 (by omega) (by omega) (by omega)
def Tms (M : List S63) : Prop := ∀ m ∈ M, 0 ≤ m.f0 ∧ m.f0 ≤ 1000
theorem Tms_rd {M : List S63} (h : Tms M) (i : Int) : 0 ≤ (rd_T63 M i).f0 ∧ (rd_T63 M i).f0 ≤ 1000 := by
  unfold rd_T63
  rw [List.getD_eq_getElem?_getD]
  rcases e : M[i.toNat]? with _ | x
  · rw [Option.getD_none]; show 0 ≤ (0 : Int) ∧ (0 : Int) ≤ 1000; omega
  · exact h x (List.mem_of_getElem? e)
-- the machine's least: a negative value for 'none yet'
theorem mleast_l0 (M : List S63) (hT : Tms M) (hM : M.length < 1000) (d : Nat) : ∀ (k : Nat) (x : Int) (n : Bool) (i : Nat), 2 * d < k → M.length - i = d → i ≤ M.length → (n = true ↔ x < 0) →
    impl_Marks_least.l0 k x M (M.length : Int) (i : Int) = some (L x n (M.drop i)) := by
  induction d with
  | zero =>
    intro k x n i hk hd hi hn
    obtain ⟨k, rfl⟩ : ∃ m, k = m + 1 := ⟨k - 1, by omega⟩
    rw [impl_Marks_least.l0, if_neg (by omega), List.drop_of_length_le (by omega), L]
  | succ d ih =>
    intro k x n i hk hd hi hn
    obtain ⟨k, rfl⟩ : ∃ m, k = m + 2 := ⟨k - 2, by omega⟩
    have e : wrap64 ((i : Int) + 1) = ((i + 1 : Nat) : Int) := by rw [w64 (by omega) (by omega)]; omega
    have ht := (Tms_rd hT (i : Int)).1
    have hf : (false = true ↔ (rd_T63 M (i : Int)).f0 < 0) := ⟨fun h => absurd h (by decide), fun h => absurd h (by omega)⟩
    rw [impl_Marks_least.l0, if_pos (by omega), if_pos (by omega), if_pos (by omega), drop_rdT M i (by omega), L]
    by_cases c : (rd_T63 M (i : Int)).f1 = true
    · rw [if_pos c, if_pos c, impl_Marks_least.j1, if_neg (by decide), e]
      exact ih k x n (i + 1) (by omega) (by omega) (by omega) hn
    · rw [if_neg c, if_neg c]
      by_cases c2 : x < 0
      · rw [if_pos c2, if_pos (Or.inl (hn.2 c2)), impl_Marks_least.j1, if_pos rfl, e]
        exact ih k _ _ (i + 1) (by omega) (by omega) (by omega) hf
      · rw [if_neg c2]
        by_cases c3 : (rd_T63 M (i : Int)).f0 < x
        · rw [decide_eq_true c3, if_pos (Or.inr c3), impl_Marks_least.j1, if_pos rfl, e]
          exact ih k _ _ (i + 1) (by omega) (by omega) (by omega) hf
        · rw [decide_eq_false c3, if_neg (fun h => h.elim (fun h => c2 (hn.1 h)) c3), impl_Marks_least.j1, if_neg (by decide), e]
          exact ih k _ _ (i + 1) (by omega) (by omega) (by omega) hn
theorem mleast_ev (g : Int) (M : List S63) (hT : Tms M) (hM : M.length < 10) {k : Nat} (hk : 20 < k) : impl_Marks_least.f k g M = some (lst M) :=
  mleast_l0 M hT (by omega) M.length k (-1) true 0 (by omega) (by omega) (by omega) (by decide)
instance (M : List S63) : Decidable (Tms M) := by unfold Tms; infer_instance
def OkP (g : Int) (M : List S63) : Prop := (1 ≤ (M.length : Int) ∧ (M.length : Int) ≤ 4) ∧ (0 ≤ g ∧ g ≤ 1000) ∧ Tms M ∧ lst M ≤ g ∧ g ≤ mst 0 M
instance (g : Int) (M : List S63) : Decidable (OkP g M) := by unfold OkP; infer_instance
theorem specOk_l0 (g : Int) (M : List S63) (hM : M.length < 10) (d : Nat) : ∀ (k : Nat) (x : Int) (i : Nat), d + 30 < k → M.length - i = d → i ≤ M.length →
    spec_MarksOk.l0 k x (i : Int) g M = some (decide (Tms (M.drop i) ∧ lst M ≤ g ∧ g ≤ mst x (M.drop i))) := by
  induction d with
  | zero =>
    intro k x i hk hd hi
    obtain ⟨k, rfl⟩ : ∃ m, k = m + 1 := ⟨k - 1, by omega⟩
    have ht : Tms [] := fun m h => by cases h
    rw [spec_MarksOk.l0, if_neg (by omega), List.drop_of_length_le (by omega), mst, specLeast_ev g M hM (by omega), Option.bind_some]
    by_cases c : g ≥ lst M
    · rw [if_pos c]; congr 1; exact decide_eq_decide.2 ⟨fun h => ⟨ht, c, h⟩, fun h => h.2.2⟩
    · rw [if_neg c, decide_eq_false (fun h => c h.2.1)]
  | succ d ih =>
    intro k x i hk hd hi
    obtain ⟨k, rfl⟩ : ∃ m, k = m + 1 := ⟨k - 1, by omega⟩
    have e : wrap64 ((i : Int) + 1) = ((i + 1 : Nat) : Int) := by rw [w64 (by omega) (by omega)]; omega
    rw [spec_MarksOk.l0, if_pos (by omega), if_pos (by omega), drop_rdT M i (by omega), mst, e]
    unfold spec_l05Time.f
    by_cases c : (rd_T63 M (i : Int)).f0 ≥ 0 ∧ (rd_T63 M (i : Int)).f0 ≤ 1000
    · rw [if_pos c.1, decide_eq_true c.2, Option.bind_some, if_pos rfl, ih k _ (i + 1) (by omega) (by omega) (by omega)]
      congr 1
      refine decide_eq_decide.2 ⟨fun h => ⟨?_, h.2⟩, fun h => ⟨fun m hm => h.1 m (List.mem_cons_of_mem _ hm), h.2⟩⟩
      intro m hm
      rcases List.mem_cons.1 hm with rfl | hm
      · exact c
      · exact h.1 m hm
    · have hf : ¬ (Tms (rd_T63 M (i : Int) :: M.drop (i + 1)) ∧ lst M ≤ g ∧ g ≤ mst (mx x (rd_T63 M (i : Int)).f0) (M.drop (i + 1))) := fun h => c (h.1 _ List.mem_cons_self)
      rw [decide_eq_false hf]
      by_cases c1 : (rd_T63 M (i : Int)).f0 ≥ 0
      · rw [if_pos c1, Option.bind_some, decide_eq_false (fun h => c ⟨c1, h⟩), if_neg (by decide)]
      · rw [if_neg c1, Option.bind_some, if_neg (by decide)]
theorem specOk_ev (g : Int) (M : List S63) (hM : M.length < 10) {k : Nat} (hk : 60 < k) : spec_MarksOk.f k g M = some (decide (OkP g M)) := by
  obtain ⟨k, rfl⟩ : ∃ m, k = m + 1 := ⟨k - 1, by omega⟩
  unfold spec_MarksOk.f
  by_cases c1 : (M.length : Int) < 1
  · rw [if_pos c1, spec_MarksOk.j0, if_pos rfl, decide_eq_false (fun h => by have := h.1; omega)]
  by_cases c2 : (M.length : Int) > 4
  · rw [if_neg c1, if_pos c2, spec_MarksOk.j0, if_pos rfl, decide_eq_false (fun h => by have := h.1; omega)]
  rw [if_neg c1, if_neg c2]
  unfold spec_l05Time.f
  by_cases c : g ≥ 0 ∧ g ≤ 1000
  · rw [if_pos c.1, decide_eq_true c.2, Option.bind_some, spec_MarksOk.j0, if_neg (by decide), show (0 : Int) = ((0 : Nat) : Int) from rfl, specOk_l0 g M hM M.length k _ 0 (by omega) (by omega) (by omega), List.drop_zero]
    congr 1
    exact decide_eq_decide.2 ⟨fun h => ⟨⟨by omega, by omega⟩, c, h⟩, fun h => h.2.2⟩
  · rw [decide_eq_false (p := OkP g M) (fun h => c h.2.1)]
    by_cases d1 : g ≥ 0
    · rw [if_pos d1, Option.bind_some, decide_eq_false (fun h => c ⟨d1, h⟩), spec_MarksOk.j0, if_pos (by rfl)]
    · rw [if_neg d1, Option.bind_some, spec_MarksOk.j0, if_pos (by rfl)]
theorem in_ev (a b c : Int) : impl_in.f a b c = some (decide (b ≤ a ∧ a ≤ c)) := by
  unfold impl_in.f
  by_cases h : b ≤ a
  · rw [if_pos h]; congr 1; exact decide_eq_decide.2 ⟨fun x => ⟨h, x⟩, fun x => x.2⟩
  · rw [if_neg h, decide_eq_false (fun x => h x.1)]
theorem isTime_ev (a : Int) : impl_isTime.f a = some (decide (0 ≤ a ∧ a ≤ 1000)) := by
  unfold impl_isTime.f; rw [in_ev, Option.bind_some]
theorem areMarks_l0 (g : Int) (M : List S63) (hM : M.length < 10) (d : Nat) : ∀ (k : Nat) (x : Int) (i : Nat), d + 30 < k → M.length - i = d → i ≤ M.length → Tms (M.take i) →
    impl_areMarks.l0 k x M (M.length : Int) (i : Int) g M = some (decide (Tms M ∧ (1 ≤ (M.length : Int) ∧ (M.length : Int) ≤ 4) ∧ (0 ≤ g ∧ g ≤ 1000) ∧ lst M ≤ g ∧ g ≤ mst x (M.drop i))) := by
  induction d with
  | zero =>
    intro k x i hk hd hi hT
    obtain ⟨k, rfl⟩ : ∃ m, k = m + 1 := ⟨k - 1, by omega⟩
    rw [List.take_of_length_le (by omega)] at hT
    rw [impl_areMarks.l0, if_neg (by omega), List.drop_of_length_le (by omega), mst, in_ev, Option.bind_some]
    by_cases c1 : 1 ≤ (M.length : Int) ∧ (M.length : Int) ≤ 4
    · rw [decide_eq_true c1, if_pos rfl, isTime_ev, Option.bind_some]
      by_cases c2 : 0 ≤ g ∧ g ≤ 1000
      · rw [decide_eq_true c2, if_pos rfl, mleast_ev g M hT hM (by omega), Option.bind_some, in_ev, Option.bind_some]
        congr 1
        exact decide_eq_decide.2 ⟨fun h => ⟨hT, c1, c2, h⟩, fun h => h.2.2.2⟩
      · rw [decide_eq_false c2, if_neg (by decide), decide_eq_false (fun h => c2 h.2.2.1)]
    · rw [decide_eq_false c1, if_neg (by decide), decide_eq_false (fun h => c1 h.2.1)]
  | succ d ih =>
    intro k x i hk hd hi hT
    obtain ⟨k, rfl⟩ : ∃ m, k = m + 1 := ⟨k - 1, by omega⟩
    have e : wrap64 ((i : Int) + 1) = ((i + 1 : Nat) : Int) := by rw [w64 (by omega) (by omega)]; omega
    have hdr := drop_rdT M i (by omega)
    have hmem : rd_T63 M (i : Int) ∈ M := by
      have : rd_T63 M (i : Int) ∈ M.drop i := by rw [hdr]; exact List.mem_cons_self
      exact List.mem_of_mem_drop this
    rw [impl_areMarks.l0, if_pos (by omega), if_pos (by omega), if_pos (by omega), hdr, mst, e, isTime_ev, Option.bind_some]
    by_cases c : 0 ≤ (rd_T63 M (i : Int)).f0 ∧ (rd_T63 M (i : Int)).f0 ≤ 1000
    · rw [decide_eq_true c, if_pos rfl]
      refine ih k _ (i + 1) (by omega) (by omega) (by omega) ?_
      have ht : M.take (i + 1) = M.take i ++ [rd_T63 M (i : Int)] := by
        rw [List.take_add_one]
        congr 1
        unfold rd_T63
        rw [Int.toNat_natCast, List.getD_eq_getElem?_getD, List.getElem?_eq_getElem (by omega), Option.getD_some]; rfl
      intro m hm
      rw [ht] at hm
      rcases List.mem_append.1 hm with hm | hm
      · exact hT m hm
      · rw [List.mem_singleton.1 hm]; exact c
    · rw [decide_eq_false c, if_neg (by decide), decide_eq_false (fun h => c (h.1 _ hmem))]
theorem mst_pos {M : List S63} (hT : Tms M) (h : 1 ≤ M.length) : mst (-1) M = mst 0 M := by
  cases M with
  | nil => simp at h
  | cons m ms =>
    have := hT m List.mem_cons_self
    rw [mst, mst, mx_ev, mx_ev, if_pos (by omega)]
    congr 1
    split <;> omega
theorem areMarks_ev (g : Int) (M : List S63) (hM : M.length < 10) {k : Nat} (hk : 60 < k) : impl_areMarks.f k g M = some (decide (OkP g M)) := by
  unfold impl_areMarks.f
  rw [show (0 : Int) = ((0 : Nat) : Int) from rfl, areMarks_l0 g M hM M.length k _ 0 (by omega) (by omega) (by omega) (fun m h => by simp at h), List.drop_zero]
  congr 1
  refine decide_eq_decide.2 ⟨fun h => ⟨h.2.1, h.2.2.1, h.1, h.2.2.2.1, ?_⟩, fun h => ⟨h.2.2.1, h.1, h.2.1, h.2.2.2.1, ?_⟩⟩
  · rw [← mst_pos h.1 (by have := h.2.1; omega)]; exact h.2.2.2.2
  · rw [mst_pos h.2.2.1 (by have := h.1; omega)]; exact h.2.2.2.2
/-! with, set, idle -/
theorem specWith_ev (g : Int) (M : List S63) (hM : M.length < 10) (i : Int) (a : Int) (b : Bool) (h0 : 0 ≤ i) (h1 : i < (M.length : Int)) {k : Nat} (hk : 20 < k) :
    spec_l05With.f k g M i a b = some (mx g (lst (M.set i.toNat ⟨a, b⟩)), M.set i.toNat ⟨a, b⟩) := by
  unfold spec_l05With.f
  rw [Option.bind_some, if_pos (by simp; omega), Option.bind_some, List.nil_append, if_pos h0, if_pos h1, Option.bind_some, specLeast_ev _ _ (by rw [List.length_set]; exact hM) hk, Option.bind_some]
theorem set_Tms {M : List S63} (h : Tms M) (i : Nat) {a : Int} (ha : 0 ≤ a ∧ a ≤ 1000) (b : Bool) : Tms (M.set i ⟨a, b⟩) := by
  intro m hm
  rcases List.mem_or_eq_of_mem_set hm with hm | rfl
  · exact h m hm
  · exact ha
theorem implWith_ev (g : Int) (M : List S63) (hM : M.length < 10) (hT : Tms M) (i : Int) (a : Int) (ha : 0 ≤ a ∧ a ≤ 1000) (b : Bool) (h0 : 0 ≤ i) (h1 : i < (M.length : Int)) {k : Nat} (hk : 20 < k) :
    impl_Marks_with.f k g M i a b = some (mx g (lst (M.set i.toNat ⟨a, b⟩)), M.set i.toNat ⟨a, b⟩) := by
  unfold impl_Marks_with.f impl_Mark.f
  rw [Option.bind_some, if_pos (by simp; omega), Option.bind_some, List.nil_append, if_pos h0, if_pos h1, Option.bind_some, mleast_ev _ _ (set_Tms hT _ ha b) (by rw [List.length_set]; exact hM) hk, Option.bind_some]
def In (M : List S63) (i : Int) : Prop := 0 ≤ i ∧ i < (M.length : Int)
instance (M : List S63) (i : Int) : Decidable (In M i) := by unfold In; infer_instance
def Rset (g : Int) (M : List S63) (i a : Int) : Int × List S63 × Int :=
  if OkP g M ∧ In M i ∧ 0 ≤ a ∧ a ≤ 1000 then (if a < (rd_T63 M i).f0 then (0, [], 2) else (mx g (lst (M.set i.toNat ⟨a, false⟩)), M.set i.toNat ⟨a, false⟩, 0)) else (0, [], 1)
def Ridle (g : Int) (M : List S63) (i : Int) (b : Bool) : Int × List S63 × Int :=
  if OkP g M ∧ In M i then (mx g (lst (M.set i.toNat ⟨(rd_T63 M i).f0, b⟩)), M.set i.toNat ⟨(rd_T63 M i).f0, b⟩, 0) else (0, [], 1)
theorem specSrc_ev (g : Int) (M : List S63) (hM : M.length < 10) (i : Int) {k : Nat} (hk : 60 < k) : spec_l05Src.f k g M i = some (decide (OkP g M ∧ In M i)) := by
  unfold spec_l05Src.f
  rw [specOk_ev g M hM hk, Option.bind_some]
  by_cases c : OkP g M
  · rw [decide_eq_true c, if_pos rfl]
    by_cases d : i ≥ 0
    · rw [if_pos d]; congr 1; exact decide_eq_decide.2 ⟨fun h => ⟨c, d, h⟩, fun h => h.2.2⟩
    · rw [if_neg d, decide_eq_false (fun h => d h.2.1)]
  · rw [decide_eq_false c, if_neg (by decide), decide_eq_false (fun h => c h.1)]
theorem hasMark_ev (g : Int) (M : List S63) (hM : M.length < 10) (i : Int) {k : Nat} (hk : 60 < k) : impl_hasMark.f k g M i = some (decide (OkP g M ∧ In M i)) := by
  unfold impl_hasMark.f
  rw [areMarks_ev g M hM hk, Option.bind_some]
  by_cases c : OkP g M
  · rw [decide_eq_true c, if_pos rfl, in_ev, w64 (by omega) (by omega), Option.bind_some]
    congr 1
    exact decide_eq_decide.2 ⟨fun h => ⟨c, h.1, by omega⟩, fun h => ⟨h.2.1, by have := h.2.2; omega⟩⟩
  · rw [decide_eq_false c, if_neg (by decide), decide_eq_false (fun h => c h.1)]
theorem specSet_ev (g : Int) (M : List S63) (hM : M.length < 10) (i a : Int) {k : Nat} (hk : 70 < k) : spec_MarkSet.f k g M i a = some (Rset g M i a) := by
  obtain ⟨k, rfl⟩ : ∃ m, k = m + 1 := ⟨k - 1, by omega⟩
  unfold spec_MarkSet.f spec_l05Time.f Rset
  rw [specSrc_ev g M hM i (by omega), Option.bind_some]
  by_cases c : OkP g M ∧ In M i
  · rw [decide_eq_true c, if_pos rfl]
    by_cases d : 0 ≤ a ∧ a ≤ 1000
    · rw [if_pos (show a ≥ 0 from d.1), decide_eq_true d.2, Option.bind_some, spec_MarkSet.j0, if_neg (by decide), if_pos c.2.1, if_pos c.2.2, if_pos (show OkP g M ∧ In M i ∧ 0 ≤ a ∧ a ≤ 1000 from ⟨c.1, c.2, d⟩)]
      by_cases e : a < (rd_T63 M i).f0
      · rw [if_pos e, if_pos e]
      · rw [if_neg e, if_neg e, specWith_ev g M hM i a false c.2.1 c.2.2 (by omega), Option.bind_some]
    · rw [if_neg (show ¬ (OkP g M ∧ In M i ∧ 0 ≤ a ∧ a ≤ 1000) from fun h => d h.2.2)]
      by_cases d1 : a ≥ 0
      · rw [if_pos d1, Option.bind_some, decide_eq_false (fun h => d ⟨d1, h⟩), spec_MarkSet.j0, if_pos (by rfl)]
      · rw [if_neg d1, Option.bind_some, spec_MarkSet.j0, if_pos (by rfl)]
  · rw [decide_eq_false c, if_neg (by decide), spec_MarkSet.j0, if_pos rfl, if_neg (show ¬ (OkP g M ∧ In M i ∧ 0 ≤ a ∧ a ≤ 1000) from fun h => c ⟨h.1, h.2.1⟩)]
theorem implSet_ev (g : Int) (M : List S63) (hM : M.length < 10) (i a : Int) {k : Nat} (hk : 70 < k) : impl_MarkSet.f k g M i a = some (Rset g M i a) := by
  obtain ⟨k, rfl⟩ : ∃ m, k = m + 1 := ⟨k - 1, by omega⟩
  unfold impl_MarkSet.f Rset
  rw [hasMark_ev g M hM i (by omega), Option.bind_some]
  by_cases c : OkP g M ∧ In M i
  · rw [decide_eq_true c, if_pos rfl, isTime_ev, Option.bind_some]
    by_cases d : 0 ≤ a ∧ a ≤ 1000
    · rw [decide_eq_true d, impl_MarkSet.j0, if_neg (by decide), if_pos c.2.1, if_pos c.2.2, if_pos (show OkP g M ∧ In M i ∧ 0 ≤ a ∧ a ≤ 1000 from ⟨c.1, c.2, d⟩)]
      by_cases e : a < (rd_T63 M i).f0
      · rw [if_pos e, if_pos e]
      · rw [if_neg e, if_neg e, implWith_ev g M hM c.1.2.2.1 i a d false c.2.1 c.2.2 (by omega), Option.bind_some]
    · rw [if_neg (show ¬ (OkP g M ∧ In M i ∧ 0 ≤ a ∧ a ≤ 1000) from fun h => d h.2.2), decide_eq_false d, impl_MarkSet.j0, if_pos (by rfl)]
  · rw [decide_eq_false c, if_neg (by decide), impl_MarkSet.j0, if_pos rfl, if_neg (show ¬ (OkP g M ∧ In M i ∧ 0 ≤ a ∧ a ≤ 1000) from fun h => c ⟨h.1, h.2.1⟩)]
theorem specIdle_ev (g : Int) (M : List S63) (hM : M.length < 10) (i : Int) (b : Bool) {k : Nat} (hk : 70 < k) : spec_MarkIdle.f k g M i b = some (Ridle g M i b) := by
  unfold spec_MarkIdle.f Ridle
  rw [specSrc_ev g M hM i (by omega), Option.bind_some]
  by_cases c : OkP g M ∧ In M i
  · rw [decide_eq_true c, if_pos rfl, if_pos c.2.1, if_pos c.2.2, specWith_ev g M hM i _ b c.2.1 c.2.2 (by omega), Option.bind_some, if_pos c]
  · rw [decide_eq_false c, if_neg (by decide), if_neg c]
theorem implIdle_ev (g : Int) (M : List S63) (hM : M.length < 10) (i : Int) (b : Bool) {k : Nat} (hk : 70 < k) : impl_MarkIdle.f k g M i b = some (Ridle g M i b) := by
  unfold impl_MarkIdle.f Ridle
  rw [hasMark_ev g M hM i (by omega), Option.bind_some]
  by_cases c : OkP g M ∧ In M i
  · rw [decide_eq_true c, if_pos rfl, if_pos c.2.1, if_pos c.2.2, implWith_ev g M hM c.1.2.2.1 i _ (Tms_rd c.1.2.2.1 i) b c.2.1 c.2.2 (by omega), Option.bind_some, if_pos c]
  · rw [decide_eq_false c, if_neg (by decide), if_neg c]
/-! what a step keeps -/
theorem mst_ge (M : List S63) : ∀ x : Int, x ≤ mst x M := by
  induction M with
  | nil => intro x; rw [mst]; omega
  | cons m ms ih =>
    intro x
    have := ih (mx x m.f0)
    rw [mst]
    have h : x ≤ mx x m.f0 := by rw [mx_ev]; split <;> omega
    omega
theorem mst_mono (M : List S63) : ∀ x y : Int, x ≤ y → mst x M ≤ mst y M := by
  induction M with
  | nil => intro x y h; rw [mst, mst]; exact h
  | cons m ms ih =>
    intro x y h
    rw [mst, mst]
    refine ih _ _ ?_
    rw [mx_ev, mx_ev]; split <;> split <;> omega
theorem mst_set (M : List S63) : ∀ (x : Int) (i : Nat) (s : S63), i < M.length → (M.getD i z63).f0 ≤ s.f0 → mst x M ≤ mst x (M.set i s) := by
  induction M with
  | nil => intro x i s h; simp at h
  | cons m ms ih =>
    intro x i s h hs
    cases i with
    | zero =>
      rw [List.set_cons_zero, mst, mst]
      refine mst_mono _ _ _ ?_
      have : m.f0 ≤ s.f0 := hs
      rw [mx_ev, mx_ev]; split <;> split <;> omega
    | succ i =>
      rw [List.set_cons_succ, mst, mst]
      exact ih _ i s (by simp at h; omega) hs
theorem mst_mem (M : List S63) : ∀ (x : Int), ∀ m ∈ M, m.f0 ≤ mst x M := by
  induction M with
  | nil => intro x m h; cases h
  | cons a ms ih =>
    intro x m h
    rw [mst]
    rcases List.mem_cons.1 h with rfl | h
    · have := mst_ge ms (mx x m.f0)
      have h2 : m.f0 ≤ mx x m.f0 := by rw [mx_ev]; split <;> omega
      omega
    · exact ih _ m h
theorem L_mem (M : List S63) : ∀ (x : Int) (n : Bool), L x n M = x ∨ ∃ m ∈ M, L x n M = m.f0 := by
  induction M with
  | nil => intro x n; left; rfl
  | cons a ms ih =>
    intro x n
    rw [L]
    by_cases c : a.f1 = true
    · rw [if_pos c]
      rcases ih x n with h | ⟨m, hm, h⟩
      · exact Or.inl h
      · exact Or.inr ⟨m, List.mem_cons_of_mem _ hm, h⟩
    · rw [if_neg c]
      by_cases d : n = true ∨ a.f0 < x
      · rw [if_pos d]
        rcases ih a.f0 false with h | ⟨m, hm, h⟩
        · exact Or.inr ⟨a, List.mem_cons_self, h⟩
        · exact Or.inr ⟨m, List.mem_cons_of_mem _ hm, h⟩
      · rw [if_neg d]
        rcases ih x n with h | ⟨m, hm, h⟩
        · exact Or.inl h
        · exact Or.inr ⟨m, List.mem_cons_of_mem _ hm, h⟩
theorem lst_le {M : List S63} (hT : Tms M) : lst M ≤ mst 0 M ∧ lst M ≤ 1000 := by
  have h0 := mst_ge M 0
  rcases L_mem M (-1) true with h | ⟨m, hm, h⟩
  · unfold lst; omega
  · have h1 := mst_mem M 0 m hm
    have h2 := hT m hm
    unfold lst; omega
theorem step_ok {g : Int} {M : List S63} {i a : Int} (b : Bool) (h : OkP g M) (hi : In M i) (ha : 0 ≤ a ∧ a ≤ 1000) (hm : (rd_T63 M i).f0 ≤ a) :
    OkP (mx g (lst (M.set i.toNat ⟨a, b⟩))) (M.set i.toNat ⟨a, b⟩) := by
  have hT := set_Tms h.2.2.1 i.toNat ha b
  have hl := lst_le hT
  have hs := mst_set M 0 i.toNat ⟨a, b⟩ (by have := hi.2; have := hi.1; omega) hm
  have h1 := h.2.1
  have h2 := h.2.2.2
  refine ⟨by rw [List.length_set]; exact h.1, ?_, hT, ?_, ?_⟩
  · rw [mx_ev]; split <;> omega
  · rw [mx_ev]; split <;> omega
  · rw [mx_ev]; split <;> omega
/-! picks of the law -/
theorem tmr {a n : Int} (h0 : 0 ≤ a) (hn : 0 < n) : 0 ≤ Int.tmod a n ∧ Int.tmod a n < n := by
  rw [Int.tmod_eq_emod_of_nonneg h0]
  exact ⟨Int.emod_nonneg _ (by omega), Int.emod_lt_of_pos _ hn⟩
theorem lpick_l0 {bs : List Int} (hl : 0 < bs.length) (hl2 : bs.length ≤ 1048576) (p n : Int) (hp : 0 ≤ p) (hp2 : p ≤ 1000) (hn : n ≠ 0) (d : Nat) : ∀ (k : Nat) (x j : Int), d < k → j = 3 - d → 0 ≤ j →
    ∃ v, laws_pick.l0 k bs p n x j = some v := by
  induction d with
  | zero =>
    intro k x j hk hj hj0
    obtain ⟨k, rfl⟩ : ∃ m, k = m + 1 := ⟨k - 1, by omega⟩
    rw [laws_pick.l0, if_neg (by omega), if_neg hn]
    exact ⟨_, rfl⟩
  | succ d ih =>
    intro k x j hk hj hj0
    obtain ⟨k, rfl⟩ : ∃ m, k = m + 1 := ⟨k - 1, by omega⟩
    have e1 : wrap64 (p + j) = p + j := w64 (by omega) (by omega)
    have e2 : wrap64 (j + 1) = j + 1 := w64 (by omega) (by omega)
    have ht := tmr (a := p + j) (n := (bs.length : Int)) (by omega) (by omega)
    rw [laws_pick.l0, if_pos (by omega), if_neg (by omega), e1, e2, if_pos ht.1, if_pos ht.2]
    exact ih k _ _ (by omega) (by omega) (by omega)
theorem lpick_ev {bs : List Int} (hl2 : bs.length ≤ 1048576) (p n : Int) (hp : 0 ≤ p) (hp2 : p ≤ 1000) {k : Nat} (hk : 10 < k) : ∃ v, laws_pick.f k bs p n = some v := by
  obtain ⟨k, rfl⟩ : ∃ m, k = m + 1 := ⟨k - 1, by omega⟩
  unfold laws_pick.f
  by_cases c : (bs.length : Int) = 0
  · rw [if_pos c, laws_pick.j0, if_pos rfl]; exact ⟨_, rfl⟩
  rw [if_neg c, laws_pick.j0]
  by_cases c2 : n < 2
  · rw [decide_eq_true c2, if_pos rfl]; exact ⟨_, rfl⟩
  · rw [decide_eq_false c2, if_neg (by decide)]
    exact lpick_l0 (by omega) hl2 p n hp hp2 (by omega) 3 k 0 0 (by omega) (by omega) (by omega)
/-! the law's rounds -/
def Good (g : Int) (M : List S63) (r : Int × List S63 × Int) (i : Int) : Prop := r.2.2 = 0 → g ≤ r.1 ∧ lst r.2.1 ≤ r.1 ∧ OkP r.1 r.2.1 ∧ In M i ∧ r.2.1.length = M.length ∧ (rd_T63 M i).f0 ≤ (rd_T63 r.2.1 i).f0
theorem rd_set (M : List S63) (i : Int) (s : S63) (h : In M i) : rd_T63 (M.set i.toNat s) i = s := by
  unfold rd_T63
  rw [List.getD_eq_getElem?_getD, List.getElem?_set_self (by have := h.1; have := h.2; omega), Option.getD_some]
theorem good_of {g : Int} {M : List S63} {i a : Int} (b : Bool) (h : OkP g M) (hi : In M i) (ha : 0 ≤ a ∧ a ≤ 1000) (hm : (rd_T63 M i).f0 ≤ a) :
    Good g M (mx g (lst (M.set i.toNat ⟨a, b⟩)), M.set i.toNat ⟨a, b⟩, 0) i := by
  intro _
  have hs := step_ok b h hi ha hm
  dsimp only
  refine ⟨by rw [mx_ev]; split <;> omega, by rw [mx_ev]; split <;> omega, hs, hi, List.length_set .., ?_⟩
  rw [rd_set M i _ hi]
  exact hm
theorem good_set {g : Int} {M : List S63} (i a : Int) : Good g M (Rset g M i a) i := by
  unfold Rset
  by_cases c : OkP g M ∧ In M i ∧ 0 ≤ a ∧ a ≤ 1000
  · rw [if_pos c]
    by_cases d : a < (rd_T63 M i).f0
    · rw [if_pos d]; intro h; exact absurd h (by decide)
    · rw [if_neg d]; exact good_of false c.1 c.2.1 c.2.2 (by omega)
  · rw [if_neg c]; intro h; exact absurd h (by decide)
theorem good_idle {g : Int} {M : List S63} (i : Int) (b : Bool) : Good g M (Ridle g M i b) i := by
  unfold Ridle
  by_cases c : OkP g M ∧ In M i
  · rw [if_pos c]; exact good_of b c.1 c.2 (Tms_rd c.1.2.2.1 i) (by omega)
  · rw [if_neg c]; intro h; exact absurd h (by decide)
theorem late_ev {g : Int} {M : List S63} (h : OkP g M) (t : Int) {k : Nat} (hk : 60 < k) : impl_MarksLate.f k g M t = some (decide (t < g)) := by
  unfold impl_MarksLate.f
  rw [areMarks_ev g M (by have := h.1; omega) hk, Option.bind_some, decide_eq_true h, if_pos rfl]
theorem law_l0 {bs : List Int} (hl2 : bs.length ≤ 1048576) (d : Nat) : ∀ (k : Nat) (j g : Int) (M : List S63), 5 * d + 200 < k → j = 20 - d → 0 ≤ j → OkP g M → laws_FnMarks.l0 k bs j g M = some true := by
  induction d with
  | zero =>
    intro k j g M hk hj hj0 hok
    obtain ⟨k, rfl⟩ : ∃ m, k = m + 1 := ⟨k - 1, by omega⟩
    have : ¬ j < mn 20 (bs.length : Int) := by unfold mn; split <;> omega
    rw [laws_FnMarks.l0, if_neg this]
  | succ d ih =>
    intro k j g M hk hj hj0 hok
    obtain ⟨k, rfl⟩ : ∃ m, k = m + 4 := ⟨k - 4, by omega⟩
    have hM : M.length < 10 := by have := hok.1; omega
    rw [laws_FnMarks.l0]
    by_cases c' : ¬ j < mn 20 (bs.length : Int)
    · rw [if_neg c']
    have c := Decidable.not_not.1 c'
    have ej : wrap64 (j + 1) = j + 1 := w64 (by omega) (by omega)
    have go : ∀ (k' : Nat), k ≤ k' → ∀ g' M', OkP g' M' → laws_FnMarks.l0 k' bs (j + 1) g' M' = some true := fun k' hk' g' M' h' => ih k' (j + 1) g' M' (by omega) (by omega) (by omega) h'
    have step : ∀ (src : Int) (r : Int × List S63 × Int), Good g M r src → laws_FnMarks.j1 (k + 3) bs j src r.2.2 r.2.2 g M r.1 r.2.1 r.1 r.2.1 = some true := by
      intro src r hr
      rw [laws_FnMarks.j1, if_pos rfl, show (r.1 != r.1) = false by simp, laws_FnMarks.j2, if_neg (by decide)]
      by_cases e : r.2.2 = 0
      · obtain ⟨h1, h2, h3, h4, h5, h6⟩ := hr e
        have hM' : r.2.1.length < 10 := by omega
        have hi := h4
        rw [if_pos e, if_neg (by omega), implLeast_ev _ _ hM' (by omega), Option.bind_some, if_neg (by omega), specOk_ev _ _ hM' (by omega), Option.bind_some, decide_eq_true h3, if_pos rfl,
          if_pos hi.1, if_pos (by rw [h5]; exact hi.2), if_pos hi.2, if_neg (by omega), late_ev h3 _ (by omega), Option.bind_some, decide_eq_false (by omega), if_neg (by decide)]
        by_cases f : r.1 > 0
        · rw [if_pos f, late_ev h3 _ (by omega), Option.bind_some, w64 (n := r.1 - 1) (by omega) (by have := h3.2.1; omega), decide_eq_true (by omega), laws_FnMarks.j3, if_neg (by decide), ej]
          exact go k (by omega) _ _ h3
        · rw [if_neg f, laws_FnMarks.j3, if_neg (by decide), ej]
          exact go k (by omega) _ _ h3
      · rw [if_neg e, ej]
        exact go _ (by omega) _ _ hok
    rw [if_pos c]
    obtain ⟨src, e1⟩ := lpick_ev hl2 j (wrap64 ((M.length : Int) + 1)) hj0 (by omega) (k := k + 3) (by omega)
    obtain ⟨at_, e2⟩ := lpick_ev hl2 (j + 2) 80 (by omega) (by omega) (k := k + 3) (by omega)
    obtain ⟨w, e3⟩ := lpick_ev hl2 (j + 1) 3 (by omega) (by omega) (k := k + 3) (by omega)
    obtain ⟨id, e4⟩ := lpick_ev hl2 (j + 4) 2 (by omega) (by omega) (k := k + 3) (by omega)
    have ej2 : wrap64 (j + 2) = j + 2 := w64 (by omega) (by omega)
    have ej4 : wrap64 (j + 4) = j + 4 := w64 (by omega) (by omega)
    rw [e1, Option.bind_some, ej2, e2, Option.bind_some, implSet_ev g M hM src at_ (by omega), Option.bind_some, Option.bind_some, specSet_ev g M hM src at_ (by omega), Option.bind_some, ej, e3, Option.bind_some]
    by_cases f : w = 0
    · rw [if_pos f, ej4, e4, Option.bind_some, implIdle_ev g M hM src _ (by omega), Option.bind_some, Option.bind_some, specIdle_ev g M hM src _ (by omega), Option.bind_some]
      exact step src _ (good_idle src _)
    · rw [if_neg f]
      exact step src _ (good_set src at_)
/-! the draws -/
theorem once_ev {bs : List Int} (hb : Bytes bs) {M a s : Int} (n : Int) (hc : Cur M a s) (hM : M ≤ 1099511600000) (hl : bs.length ≤ 1099511627776000) :
    ∃ v a' s', spec_l01Cur_once.f bs a s n = some (v, a', s') ∧ Cur (M + 1) a' s' := by
  unfold spec_l01Cur_once.f
  obtain ⟨v, a1, s1, e, _, _, c⟩ := pick_ev hb n hc (by omega) hl
  rw [e, Option.bind_some]
  exact ⟨_, _, _, rfl, c⟩
theorem size_ev {bs : List Int} (hb : Bytes bs) {M a s : Int} (hc : Cur M a s) (hM : M ≤ 1099511600000) (hl : bs.length ≤ 1099511627776000) :
    ∃ v a' s', spec_l01Cur_size.f bs a s 12 = some (v, a', s') ∧ 0 ≤ v ∧ v ≤ 12 ∧ Cur (M + 1) a' s' := by
  unfold spec_l01Cur_size.f
  obtain ⟨v, a1, s1, e, h0, h1, c⟩ := pick_ev hb (wrap64 (mn 12 (wrap64 (1 + wrap64 ((bs.length : Int) / 8))) + 1)) hc (by omega) hl
  have h2 : 0 ≤ wrap64 (1 + wrap64 ((bs.length : Int) / 8)) := by rw [w64 (n := (bs.length : Int) / 8) (by omega) (by omega), w64 (by omega) (by omega)]; omega
  have h3 : mn 12 (wrap64 (1 + wrap64 ((bs.length : Int) / 8))) ≤ 12 ∧ 0 ≤ mn 12 (wrap64 (1 + wrap64 ((bs.length : Int) / 8))) := by unfold mn; split <;> omega
  rw [e, Option.bind_some]
  refine ⟨_, _, _, rfl, h0, ?_, c⟩
  rw [w64 (by omega) (by omega)] at h1
  omega
theorem Rset_len {g : Int} {M : List S63} {i a : Int} (h : (Rset g M i a).2.2 = 0) : (Rset g M i a).2.1.length = M.length := (good_set i a h).2.2.2.2.1
theorem Ridle_len {g : Int} {M : List S63} {i : Int} {b : Bool} (h : (Ridle g M i b).2.2 = 0) : (Ridle g M i b).2.1.length = M.length := (good_idle i b h).2.2.2.2.1
theorem marks_l0 {bs : List Int} (hb : Bytes bs) (hl : bs.length ≤ 1099511627776000) (d : Nat) : ∀ (k : Nat) (j : Int) (C a s g : Int) (M : List S63), 3 * d + 100 < k → j = d → d ≤ 12 → Cur C a s → C + 4 * d ≤ 1099511000000 → 1 ≤ M.length → M.length ≤ 4 →
    ∃ g' M' a' s', spec_l01Cur_marks.l0 k j bs a s g M = some (g', M', a', s') ∧ 1 ≤ M'.length ∧ M'.length ≤ 4 ∧ Cur (C + 4 * d) a' s' := by
  induction d with
  | zero =>
    intro k j C a s g M hk hj hd hc hC h1 h2
    obtain ⟨k, rfl⟩ : ∃ m, k = m + 1 := ⟨k - 1, by omega⟩
    rw [spec_l01Cur_marks.l0, if_neg (by omega)]
    exact ⟨_, _, _, _, rfl, h1, h2, hc.mono (by omega)⟩
  | succ d ih =>
    intro k j C a s g M hk hj hd hc hC h1 h2
    obtain ⟨k, rfl⟩ : ∃ m, k = m + 2 := ⟨k - 2, by omega⟩
    have hM : M.length < 10 := by omega
    have ej : wrap64 (j - 1) = j - 1 := w64 (by omega) (by omega)
    obtain ⟨v1, a1, s1, e1, _, _, c1⟩ := pick_ev hb (M.length : Int) hc (by omega) hl
    obtain ⟨v2, a2, s2, e2, _, _, c2⟩ := pick_ev hb 40 c1 (by omega) hl
    obtain ⟨v3, a3, s3, e3, c3⟩ := once_ev hb 4 c2 (by omega) hl
    rw [spec_l01Cur_marks.l0, if_pos (by omega), e1, Option.bind_some]
    dsimp only
    rw [e2, Option.bind_some]
    dsimp only
    rw [specSet_ev g M hM v1 v2 (by omega), Option.bind_some, e3, Option.bind_some]
    dsimp only
    have tail : ∀ (r : Int × List S63 × Int) (a' s' : Int), (r.2.2 = 0 → r.2.1.length = M.length) → Cur (C + 4) a' s' →
        ∃ g' M' a'' s'', spec_l01Cur_marks.j1 (k + 1) j r.2.2 bs a' s' g M r.1 r.2.1 = some (g', M', a'', s'') ∧ 1 ≤ M'.length ∧ M'.length ≤ 4 ∧ Cur (C + 4 * ((d + 1 : Nat) : Int)) a'' s'' := by
      intro r a' s' hr hc'
      rw [spec_l01Cur_marks.j1, ej]
      by_cases f : r.2.2 = 0
      · have hr := hr f
        rw [if_pos f]
        obtain ⟨g', M', x, y, q1, q2, q3, q4⟩ := ih k (j - 1) (C + 4) a' s' r.1 r.2.1 (by omega) (by omega) (by omega) hc' (by omega) (by omega) (by omega)
        exact ⟨g', M', x, y, q1, q2, q3, q4.mono (by omega)⟩
      · rw [if_neg f]
        obtain ⟨g', M', x, y, q1, q2, q3, q4⟩ := ih k (j - 1) (C + 4) a' s' g M (by omega) (by omega) (by omega) hc' (by omega) (by omega) (by omega)
        exact ⟨g', M', x, y, q1, q2, q3, q4.mono (by omega)⟩
    by_cases f : v3 = true
    · obtain ⟨v4, a4, s4, e4, c4⟩ := once_ev hb 2 c3 (by omega) hl
      rw [if_pos f, e4, Option.bind_some]
      dsimp only
      rw [specIdle_ev g M hM v1 v4 (by omega), Option.bind_some]
      exact tail _ _ _ Ridle_len (c4.mono (by omega))
    · rw [if_neg f]
      exact tail _ _ _ Rset_len (c3.mono (by omega))
theorem marks_ev {bs : List Int} (hb : Bytes bs) (hl : bs.length ≤ 1099511627776000) {C a s : Int} (hc : Cur C a s) (hC : C ≤ 1000) {k : Nat} (hk : 200 < k) :
    ∃ g M a' s', spec_l01Cur_marks.f k bs a s = some (g, M, a', s') ∧ 1 ≤ M.length ∧ M.length ≤ 4 ∧ Cur (C + 60) a' s' := by
  unfold spec_l01Cur_marks.f
  obtain ⟨v1, a1, s1, e1, h0, h1, c1⟩ := pick_ev hb 4 hc (by omega) hl
  obtain ⟨v2, a2, s2, e2, h2, h3, c2⟩ := size_ev hb c1 (by omega) hl
  have ew : wrap64 (1 + v1) = 1 + v1 := w64 (by omega) (by omega)
  have en : spec_MarksNew.f (1 + v1) = some (0, List.replicate (1 + v1).toNat z63) := by
    unfold spec_MarksNew.f
    rw [if_neg (by omega), if_neg (by omega), if_pos (by omega), if_pos (by omega)]
  rw [e1, Option.bind_some]
  dsimp only
  rw [ew, en, Option.bind_some, e2, Option.bind_some]
  dsimp only
  obtain ⟨g', M', x, y, q1, q2, q3, q4⟩ := marks_l0 hb hl v2.toNat k v2 (C + 1 + 1) a2 s2 0 (List.replicate (1 + v1).toNat z63) (by omega) (by omega) (by omega) c2 (by omega) (by rw [List.length_replicate]; omega) (by rw [List.length_replicate]; omega)
  exact ⟨g', M', x, y, q1, q2, q3, q4.mono (by omega)⟩
theorem badMarks_ev {bs : List Int} (hb : Bytes bs) (hl : bs.length ≤ 1099511627776000) {C a s : Int} (hc : Cur C a s) (hC : C ≤ 1000) {k : Nat} (hk : 200 < k) :
    ∃ g M a' s', spec_l01Cur_badMarks.f k bs a s = some (g, M, a', s') ∧ M.length < 10 ∧ Cur (C + 80) a' s' := by
  unfold spec_l01Cur_badMarks.f
  obtain ⟨g, M, a0, s0, e0, l1, l2, c0⟩ := marks_ev hb hl hc hC hk
  obtain ⟨v1, a1, s1, e1, h0, h1, c1⟩ := pick_ev hb 12 c0 (by omega) hl
  rw [e0, Option.bind_some]
  dsimp only
  rw [e1, Option.bind_some]
  dsimp only
  by_cases d0 : v1 = 0
  · obtain ⟨v2, a2, s2, e2, _, _, c2⟩ := raw_ev hb c1 (by omega) hl
    obtain ⟨v3, a3, s3, e3, h4, h5, c3⟩ := pick_ev hb 3 c2 (by omega) hl
    rw [if_pos d0, e2, Option.bind_some, Option.bind_some]
    dsimp only
    rw [e3, Option.bind_some]
    dsimp only
    rw [if_pos h4, if_pos (by simp only [List.length_cons, List.length_nil]; omega)]
    exact ⟨_, _, _, _, rfl, by omega, c3.mono (by omega)⟩
  rw [if_neg d0]
  by_cases d1 : v1 = 1
  · obtain ⟨v2, a2, s2, e2, h2, h3, c2⟩ := pick_ev hb (M.length : Int) c1 (by omega) hl
    obtain ⟨v3, a3, s3, e3, _, _, c3⟩ := raw_ev hb c2 (by omega) hl
    obtain ⟨v4, a4, s4, e4, _, _, c4⟩ := pick_ev hb 40 c3 (by omega) hl
    obtain ⟨v5, a5, s5, e5, h6, h7, c5⟩ := pick_ev hb 4 c4 (by omega) hl
    rw [if_pos d1, e2, Option.bind_some]
    dsimp only
    rw [e3, Option.bind_some]
    dsimp only
    rw [e4, Option.bind_some, Option.bind_some]
    dsimp only
    rw [e5, Option.bind_some]
    dsimp only
    rw [if_pos h6, if_pos (by simp only [List.length_cons, List.length_nil]; omega), if_pos h2, if_pos (by omega)]
    exact ⟨_, _, _, _, rfl, by rw [List.length_set]; omega, c5.mono (by omega)⟩
  rw [if_neg d1]
  by_cases d2 : v1 = 2
  · obtain ⟨v2, a2, s2, e2, h2, h3, c2⟩ := pick_ev hb 6 c1 (by omega) hl
    rw [if_pos d2, if_pos (by omega), Option.bind_some, e2, Option.bind_some]
    dsimp only
    rw [if_pos h2, if_pos (by rw [List.length_append, List.length_replicate]; omega)]
    exact ⟨_, _, _, _, rfl, by rw [List.length_take]; omega, c2.mono (by omega)⟩
  rw [if_neg d2]
  exact ⟨_, _, _, _, rfl, by omega, c1.mono (by omega)⟩
theorem draw_ev {bs : List Int} (hb : Bytes bs) (hl : bs.length ≤ 1099511627776000) {k : Nat} (hk : 200 < k) :
    ∃ g M i a, spec_DrawMarkSet.f k bs = some (g, M, i, a) ∧ M.length < 10 := by
  unfold spec_DrawMarkSet.f spec_l01Open.f
  have c0 : Cur 0 0 (101 + (bs.length : Int) % 1000) := by unfold Cur; omega
  rw [Option.bind_some]
  dsimp only
  obtain ⟨g, M, a0, s0, e0, l1, c0⟩ := badMarks_ev hb hl c0 (by omega) hk
  obtain ⟨v1, a1, s1, e1, _, _, c1⟩ := pick_ev hb 4 c0 (by omega) hl
  obtain ⟨v2, a2, s2, e2, _, _, c2⟩ := pick_ev hb 4 c1 (by omega) hl
  obtain ⟨v3, a3, s3, e3, _, _, c3⟩ := raw_ev hb c2 (by omega) hl
  obtain ⟨v4, a4, s4, e4, h4, h4', c4⟩ := pick_ev hb 3 c3 (by omega) hl
  obtain ⟨v5, a5, s5, e5, _, _, c5⟩ := pick_ev hb 50 c4 (by omega) hl
  obtain ⟨v6, a6, s6, e6, _, _, c6⟩ := pick_ev hb 50 c5 (by omega) hl
  obtain ⟨v7, a7, s7, e7, _, _, c7⟩ := raw_ev hb c6 (by omega) hl
  obtain ⟨v8, a8, s8, e8, h8, h8', c8⟩ := pick_ev hb 5 c7 (by omega) hl
  rw [e0, Option.bind_some]
  dsimp only
  rw [e1, Option.bind_some]
  dsimp only
  rw [e2, Option.bind_some]
  dsimp only
  rw [e3, Option.bind_some, Option.bind_some]
  dsimp only
  rw [e4, Option.bind_some]
  dsimp only
  rw [if_pos h4, if_pos (by simp only [List.length_cons, List.length_nil]; omega), e5, Option.bind_some]
  dsimp only
  rw [e6, Option.bind_some]
  dsimp only
  rw [e7, Option.bind_some, Option.bind_some]
  dsimp only
  rw [e8, Option.bind_some]
  dsimp only
  rw [if_pos h8, if_pos (by simp only [List.length_cons, List.length_nil]; omega)]
  exact ⟨_, _, _, _, rfl, l1⟩
theorem FnMarks : laws_FnMarks.Pure := by
  intro l0 _ hsz hwf
  by_cases c : (l0.length : Int) > 1048576
  · refine ⟨0, ?_⟩
    unfold laws_FnMarks.f laws_big.f
    rw [Option.bind_some, decide_eq_true c, if_pos rfl]
  · have hb : Bytes l0 := fun x hx => by
      have := hwf x hx
      simp [Lit.wf, IntKind.min, IntKind.max, IntKind.signed, IntKind.bits] at this
      omega
    obtain ⟨g, M, i, a, e, hM⟩ := draw_ev hb (by omega) (k := 1000) (by omega)
    refine ⟨1000, ?_⟩
    unfold laws_FnMarks.f laws_big.f
    rw [Option.bind_some, decide_eq_false c, if_neg (by decide), e, Option.bind_some]
    dsimp only
    rw [specOk_ev g M hM (by omega), Option.bind_some]
    by_cases f : OkP g M
    · rw [decide_eq_true f, if_pos rfl]
      exact law_l0 (by omega) 20 1000 0 g M (by omega) (by omega) (by omega) f
    · rw [decide_eq_false f, if_neg (by decide)]
      unfold impl_MarksOk.f
      rw [areMarks_ev g M hM (by omega), Option.bind_some, Option.bind_some, Option.bind_some, decide_eq_false f]
      rfl
end Go.Proofs.Ytahnodgbfonlhaa.Pure
