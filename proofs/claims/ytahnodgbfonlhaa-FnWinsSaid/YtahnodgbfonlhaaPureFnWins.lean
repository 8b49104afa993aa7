/- The law FnWins answers true for every code: both window functions list the same windows, each holds the time and has the size, each begins one step behind the one before, and there are as many as the law counts. Conditions: none beyond the given statement's. -/
import Derived.Test.YtahnodgbfonlhaaQFnWinsx6
namespace Go.Proofs.Ytahnodgbfonlhaa.Pure
open Go.RowKit Go.Proofs.Ytahnodgbfonlhaa.PFnWins Go.Proofs.YtahnodgbfonlhaaW.PrintWords Go.Proofs.YtahnodgbfonlhaaW.PrintLast Go.Proofs.YtahnodgbfonlhaaW.PrintMore

theorem w64 {n : Int} (h0 : -9223372036854775808 ≤ n) (h1 : n ≤ 9223372036854775807) : wrap64 n = n := by unfold wrap64; omega
theorem w64_lo (n : Int) : -9223372036854775808 ≤ wrap64 n := by unfold wrap64; omega
theorem w64_hi (n : Int) : wrap64 n ≤ 9223372036854775807 := by unfold wrap64; omega

def Cur (M a s : Int) : Prop := 0 ≤ a ∧ a ≤ M ∧ 0 ≤ s ∧ s < 65521
def Bytes (bs : List Int) : Prop := ∀ x ∈ bs, 0 ≤ x ∧ x ≤ 255
theorem rd_byte {bs : List Int} (hb : Bytes bs) (i : Int) : 0 ≤ rd bs i ∧ rd bs i ≤ 255 := by
  unfold rd
  rw [List.getD_eq_getElem?_getD]
  rcases h : bs[i.toNat]? with _ | x
  · simp
  · exact hb x (List.mem_of_getElem? h)
theorem tm {x n : Int} (hx : 0 ≤ x) (hn : 2 ≤ n) : 0 ≤ Int.tmod x n ∧ Int.tmod x n < n := by
  rw [Int.tmod_eq_emod_of_nonneg hx]
  exact ⟨Int.emod_nonneg _ (by omega), Int.emod_lt_of_pos _ (by omega)⟩
theorem pick_ev {bs : List Int} (hb : Bytes bs) {M a s : Int} (n : Int) (hc : Cur M a s) (hM : M ≤ 1099511627776) (hl : bs.length ≤ 1099511627776000) :
    ∃ v a' s', spec_l01Cur_pick.f bs a s n = some (v, a', s') ∧ 0 ≤ v ∧ (v < n ∨ v = 0) ∧ Cur (M + 1) a' s' := by
  obtain ⟨h0, h1, h2, h3⟩ := hc
  unfold spec_l01Cur_pick.f
  by_cases c1 : n < 2
  · rw [if_pos c1]; exact ⟨_, _, _, rfl, by omega, by omega, by omega, by omega, h2, h3⟩
  rw [if_neg c1]
  have ea : wrap64 (a + 1) = a + 1 := w64 (by omega) (by omega)
  by_cases c2 : a < (bs.length : Int)
  · have hr := rd_byte hb a
    have ht := tm (x := wrap64 (rd bs a)) (n := n) (by rw [w64] <;> omega) (by omega)
    rw [if_pos c2, if_pos h0, if_neg (by omega), ea]
    exact ⟨_, _, _, rfl, ht.1, Or.inl ht.2, by omega, by omega, h2, h3⟩
  rw [if_neg c2]
  have e1 : wrap64 (s * 1103) = s * 1103 := w64 (by omega) (by omega)
  have e2 : wrap64 (s * 1103 + 12345) = s * 1103 + 12345 := w64 (by omega) (by omega)
  simp only [e1, e2, ea]
  have hm := tm (x := s * 1103 + 12345) (n := 65521) (by omega) (by omega)
  generalize Int.tmod (s * 1103 + 12345) 65521 = q at hm ⊢
  by_cases c3 : (bs.length : Int) > 0
  · have hd : 0 ≤ Int.tmod a (bs.length : Int) ∧ Int.tmod a (bs.length : Int) < (bs.length : Int) := by
      rw [Int.tmod_eq_emod_of_nonneg h0]
      exact ⟨Int.emod_nonneg _ (by omega), Int.emod_lt_of_pos _ (by omega)⟩
    have hr := rd_byte hb (Int.tmod a (bs.length : Int))
    have hq : 0 ≤ Int.tdiv q 7 ∧ Int.tdiv q 7 ≤ 65521 := by
      rw [Int.tdiv_eq_ediv_of_nonneg hm.1]; omega
    have ht := tm (x := wrap64 (wrap64 (Int.tdiv q 7) + wrap64 (rd bs (Int.tmod a (bs.length : Int))))) (n := n) (by rw [w64 (n := Int.tdiv q 7), w64 (n := rd bs _), w64] <;> omega) (by omega)
    rw [if_pos c3, if_neg (by omega), if_pos hd.1, if_pos hd.2, if_neg (by omega)]
    exact ⟨_, _, _, rfl, ht.1, Or.inl ht.2, by omega, by omega, hm.1, hm.2⟩
  · rw [if_neg c3, if_neg (by omega)]
    exact ⟨_, _, _, rfl, by simp, Or.inr (by simp), by omega, by omega, hm.1, hm.2⟩
theorem raw_ev {bs : List Int} (hb : Bytes bs) {M a s : Int} (hc : Cur M a s) (hM : M ≤ 1099511600000) (hl : bs.length ≤ 1099511627776000) :
    ∃ v a' s', spec_l01Cur_raw.f bs a s = some (v, a', s') ∧ -9223372036854775808 ≤ v ∧ v ≤ 9223372036854775807 ∧ Cur (M + 2) a' s' := by
  unfold spec_l01Cur_raw.f
  obtain ⟨v, a1, s1, e, hv, hv', hc1⟩ := pick_ev hb 8 hc (by omega) hl
  rw [e]; simp only [Option.bind_some]
  by_cases c0 : v = 0
  · rw [if_pos c0]
    obtain ⟨v2, a2, s2, e2, hv2, hv2', hc2⟩ := pick_ev hb 256 hc1 (by omega) hl
    rw [e2]; simp only [Option.bind_some]
    exact ⟨_, _, _, rfl, w64_lo _, w64_hi _, by unfold Cur at hc2 ⊢; omega⟩
  rw [if_neg c0]
  by_cases c1 : v = 1
  · rw [if_pos c1]
    obtain ⟨v2, a2, s2, e2, hv2, hv2', hc2⟩ := pick_ev hb 8 hc1 (by omega) hl
    rw [e2]; simp only [Option.bind_some]
    rw [if_pos hv2, if_pos (by simp; omega)]
    refine ⟨_, _, _, rfl, ?_, ?_, by unfold Cur at hc2 ⊢; omega⟩
    all_goals
      have : v2 = 0 ∨ v2 = 1 ∨ v2 = 2 ∨ v2 = 3 ∨ v2 = 4 ∨ v2 = 5 ∨ v2 = 6 ∨ v2 = 7 := by omega
      rcases this with rfl | rfl | rfl | rfl | rfl | rfl | rfl | rfl <;> decide
  rw [if_neg c1]
  obtain ⟨v2, a2, s2, e2, hv2, hv2', hc2⟩ := pick_ev hb 14 hc1 (by omega) hl
  rw [e2]; simp only [Option.bind_some]
  exact ⟨_, _, _, rfl, w64_lo _, w64_hi _, by unfold Cur at hc2 ⊢; omega⟩

/-! the draws -/
theorem Cur.mono {M M' a s : Int} (h : Cur M a s) (hM : M ≤ M') : Cur M' a s := by unfold Cur at *; omega
theorem once_ev {bs : List Int} (hb : Bytes bs) {M a s : Int} (n : Int) (hc : Cur M a s) (hM : M ≤ 1099511000000) (hl : bs.length ≤ 1099511627776000) :
    ∃ b a' s', spec_l01Cur_once.f bs a s n = some (b, a', s') ∧ Cur (M + 1) a' s' := by
  unfold spec_l01Cur_once.f
  obtain ⟨v, a1, s1, e, hv, hv', hc1⟩ := pick_ev hb n hc (by omega) hl
  rw [e, Option.bind_some]
  exact ⟨_, _, _, rfl, hc1⟩
theorem win_ev {bs : List Int} (hb : Bytes bs) {M a s : Int} {k : Nat} (hk : 3 < k) (hc : Cur M a s) (hM : M ≤ 1000000) (hl : bs.length ≤ 1099511627776000) :
    ∃ x y z a' s', spec_l01Cur_win.f k bs a s = some (x, y, z, a', s') ∧ Cur (M + 10) a' s' := by
  have hj : ∀ (k : Nat) (x y z M a s : Int), 1 < k → Cur M a s → M ≤ 1000010 → ∃ x' y' z' a' s', spec_l01Cur_win.j0 k bs a s x y z = some (x', y', z', a', s') ∧ Cur (M + 3) a' s' := by
    intro k x y z M a s hk hc hM
    obtain ⟨k, rfl⟩ : ∃ m, k = m + 1 := ⟨k - 1, by omega⟩
    rw [spec_l01Cur_win.j0]
    by_cases c : x = 2
    · rw [if_pos c]
      obtain ⟨b, a1, s1, e, hc1⟩ := once_ev hb 2 hc (by omega) hl
      rw [e, Option.bind_some]; dsimp only
      by_cases cb : b = true
      · rw [if_pos cb]
        obtain ⟨v, a2, s2, e2, _, _, hc2⟩ := pick_ev hb y hc1 (by omega) hl
        rw [e2, Option.bind_some]
        exact ⟨_, _, _, _, _, rfl, hc2.mono (by omega)⟩
      · rw [if_neg cb]; exact ⟨_, _, _, _, _, rfl, hc1.mono (by omega)⟩
    · rw [if_neg c]; exact ⟨_, _, _, _, _, rfl, hc.mono (by omega)⟩
  unfold spec_l01Cur_win.f
  obtain ⟨v, a1, s1, e, hv, hv', hc1⟩ := pick_ev hb 3 hc (by omega) hl
  rw [e, Option.bind_some, Option.bind_some]; dsimp only
  obtain ⟨v2, a2, s2, e2, hv2, hv2', hc2⟩ := pick_ev hb 4 hc1 (by omega) hl
  rw [e2, Option.bind_some]; dsimp only
  rw [if_pos hv2, if_pos (by simp; omega)]
  obtain ⟨b, a3, s3, e3, hc3⟩ := once_ev hb 2 hc2 (by omega) hl
  rw [e3, Option.bind_some]; dsimp only
  by_cases cb : b = true
  · rw [if_pos cb]
    obtain ⟨v4, a4, s4, e4, _, _, hc4⟩ := pick_ev hb 12 hc3 (by omega) hl
    rw [e4, Option.bind_some]; dsimp only
    obtain ⟨x, y, z, a', s', h, h2⟩ := hj k (wrap64 (1 + v)) (wrap64 (1 + v4)) 0 _ a4 s4 (by omega) hc4 (by omega)
    exact ⟨x, y, z, a', s', h, h2.mono (by omega)⟩
  · rw [if_neg cb]
    obtain ⟨x, y, z, a', s', h, h2⟩ := hj k (wrap64 (1 + v)) (rd [1, 5, 10, 100] v2) 0 _ a3 s3 (by omega) hc3 (by omega)
    exact ⟨x, y, z, a', s', h, h2.mono (by omega)⟩
theorem badWin_ev {bs : List Int} (hb : Bytes bs) {M a s : Int} {k : Nat} (hk : 3 < k) (hc : Cur M a s) (hM : M ≤ 100000) (hl : bs.length ≤ 1099511627776000) :
    ∃ x y z a' s', spec_l01Cur_badWin.f k bs a s = some (x, y, z, a', s') ∧ Cur (M + 20) a' s' := by
  unfold spec_l01Cur_badWin.f
  obtain ⟨x, y, z, a1, s1, e, hc1⟩ := win_ev hb hk hc (by omega) hl
  rw [e, Option.bind_some]; dsimp only
  obtain ⟨v2, a2, s2, e2, hv2, hv2', hc2⟩ := pick_ev hb 12 hc1 (by omega) hl
  rw [e2, Option.bind_some]; dsimp only
  obtain ⟨v3, a3, s3, e3, _, _, hc3⟩ := raw_ev hb hc2 (by omega) hl
  obtain ⟨v4, a4, s4, e4, hv4, hv4', hc4⟩ := pick_ev hb 3 hc3 (by omega) hl
  by_cases c0 : v2 = 0
  · rw [if_pos c0, e3, Option.bind_some, Option.bind_some]; dsimp only
    rw [e4, Option.bind_some]; dsimp only
    rw [if_pos hv4, if_pos (by simp; omega)]
    exact ⟨_, _, _, _, _, rfl, hc4.mono (by omega)⟩
  rw [if_neg c0]
  by_cases c1 : v2 = 1
  · rw [if_pos c1, e3, Option.bind_some, Option.bind_some]; dsimp only
    rw [e4, Option.bind_some]; dsimp only
    rw [if_pos hv4, if_pos (by simp; omega)]
    exact ⟨_, _, _, _, _, rfl, hc4.mono (by omega)⟩
  rw [if_neg c1]
  by_cases c2 : v2 = 2
  · rw [if_pos c2, e3, Option.bind_some, Option.bind_some]; dsimp only
    rw [e4, Option.bind_some]; dsimp only
    rw [if_pos hv4, if_pos (by simp; omega)]
    exact ⟨_, _, _, _, _, rfl, hc4.mono (by omega)⟩
  rw [if_neg c2]
  exact ⟨_, _, _, _, _, rfl, hc2.mono (by omega)⟩
theorem time_ev {bs : List Int} (hb : Bytes bs) {M a s : Int} (hc : Cur M a s) (hM : M ≤ 1000000) (hl : bs.length ≤ 1099511627776000) :
    ∃ x a' s', spec_l01Cur_time.f bs a s = some (x, a', s') ∧ Cur (M + 10) a' s' := by
  unfold spec_l01Cur_time.f
  obtain ⟨v, a1, s1, e, hv, hv', hc1⟩ := pick_ev hb 60 hc (by omega) hl
  rw [e, Option.bind_some]; dsimp only
  obtain ⟨v2, a2, s2, e2, hv2, hv2', hc2⟩ := pick_ev hb 60 hc1 (by omega) hl
  rw [e2, Option.bind_some]; dsimp only
  obtain ⟨v3, a3, s3, e3, _, _, hc3⟩ := raw_ev hb hc2 (by omega) hl
  rw [e3, Option.bind_some, Option.bind_some]; dsimp only
  obtain ⟨v4, a4, s4, e4, hv4, hv4', hc4⟩ := pick_ev hb 5 hc3 (by omega) hl
  rw [e4, Option.bind_some]; dsimp only
  rw [if_pos hv4, if_pos (by simp; omega)]
  exact ⟨_, _, _, rfl, hc4.mono (by omega)⟩
theorem draw_ev {bs : List Int} (hb : Bytes bs) (hl : bs.length ≤ 1048576) {k : Nat} (hk : 3 < k) : ∃ x y z t, spec_DrawWinsOf.f k bs = some (x, y, z, t) := by
  unfold spec_DrawWinsOf.f spec_l01Open.f
  rw [Option.bind_some]; dsimp only
  have hc : Cur 0 0 (101 + (bs.length : Int) % 1000) := by unfold Cur; omega
  obtain ⟨x, y, z, a1, s1, e, hc1⟩ := badWin_ev hb hk hc (by omega) (by omega)
  rw [e, Option.bind_some]; dsimp only
  obtain ⟨t, a2, s2, e2, _⟩ := time_ev hb hc1 (by omega) (by omega)
  rw [e2, Option.bind_some]
  exact ⟨_, _, _, _, rfl⟩
/-! definitions of windows -/
def WDef (kd sz st : Int) : Prop := 1 ≤ sz ∧ sz ≤ 100 ∧ ((kd = 1 ∨ kd = 3) ∧ st = 0 ∨ kd = 2 ∧ 1 ≤ st ∧ st ≤ sz ∧ sz ≤ 8 * st)
theorem isWinDef_ev (kd sz st : Int) {k : Nat} (hk : 1 < k) : ∃ t, impl_isWinDef.f k kd sz st = some t ∧ (t = true ↔ WDef kd sz st) := by
  obtain ⟨k, rfl⟩ : ∃ m, k = m + 1 := ⟨k - 1, by omega⟩
  unfold impl_isWinDef.f impl_in.f WDef
  by_cases c1 : 1 ≤ sz
  · rw [if_pos c1, Option.bind_some]
    by_cases c2 : sz ≤ 100
    · rw [if_pos (by simpa using c2)]
      by_cases c3 : kd = 1
      · rw [if_pos c3]; subst c3
        simp only [impl_isWinDef.j0]
        rw [if_pos (by simp)]
        refine ⟨_, rfl, ?_⟩
        simp; omega
      · rw [if_neg c3]
        simp only [impl_isWinDef.j0]
        by_cases c4 : kd = 3
        · subst c4
          rw [if_pos (by simp)]
          refine ⟨_, rfl, ?_⟩
          simp; omega
        · rw [if_neg (by simpa using c4)]
          by_cases c5 : kd = 2
          · rw [if_pos c5]; unfold impl_in.f
            by_cases c6 : 1 ≤ st
            · rw [if_pos c6, Option.bind_some]
              by_cases c7 : st ≤ sz
              · rw [if_pos (by simpa using c7), w64 (by omega) (by omega)]
                refine ⟨_, rfl, ?_⟩
                simp; omega
              · rw [if_neg (by simpa using c7)]
                refine ⟨_, rfl, ?_⟩
                simp; omega
            · rw [if_neg c6, Option.bind_some, if_neg (by simp)]
              refine ⟨_, rfl, ?_⟩
              simp; omega
          · rw [if_neg c5]
            refine ⟨_, rfl, ?_⟩
            simp; omega
    · rw [if_neg (by simpa using c2)]
      refine ⟨_, rfl, ?_⟩
      simp; omega
  · rw [if_neg c1, Option.bind_some, if_neg (by simp)]
    refine ⟨_, rfl, ?_⟩
    simp; omega
theorem specWinOk_ev (kd sz st : Int) {k : Nat} (hk : 1 < k) : ∃ t, spec_WinOk.f k kd sz st = some t ∧ (t = true ↔ WDef kd sz st) := by
  obtain ⟨k, rfl⟩ : ∃ m, k = m + 1 := ⟨k - 1, by omega⟩
  unfold spec_WinOk.f WDef
  simp only [spec_WinOk.j0]
  by_cases c1 : kd < 1
  · rw [if_pos c1, if_pos trivial]; refine ⟨_, rfl, ?_⟩; simp; omega
  rw [if_neg c1]
  by_cases c2 : kd > 3
  · rw [if_pos c2, if_pos trivial]; refine ⟨_, rfl, ?_⟩; simp; omega
  rw [if_neg c2]
  by_cases c3 : sz < 1
  · rw [if_pos c3, if_pos trivial]; refine ⟨_, rfl, ?_⟩; simp; omega
  rw [if_neg c3]
  by_cases c4 : sz > 100
  · rw [if_pos (by simpa using c4)]; refine ⟨_, rfl, ?_⟩; simp; omega
  rw [if_neg (by simpa using c4)]
  by_cases c5 : kd = 2
  · rw [if_pos c5]
    by_cases c6 : st ≥ 1
    · rw [if_pos c6]
      by_cases c7 : st ≤ sz
      · rw [if_pos c7, w64 (by omega) (by omega)]; refine ⟨_, rfl, ?_⟩; simp; omega
      · rw [if_neg c7]; refine ⟨_, rfl, ?_⟩; simp; omega
    · rw [if_neg c6]; refine ⟨_, rfl, ?_⟩; simp; omega
  · rw [if_neg c5]; refine ⟨_, rfl, ?_⟩; simp; omega
theorem isTime_ev (t : Int) : ∃ b, impl_isTime.f t = some b ∧ (b = true ↔ (0 ≤ t ∧ t ≤ 1000)) := by
  unfold impl_isTime.f impl_in.f
  by_cases c : 0 ≤ t
  · rw [if_pos c, Option.bind_some]; refine ⟨_, rfl, ?_⟩; simp; omega
  · rw [if_neg c, Option.bind_some]; refine ⟨_, rfl, ?_⟩; simp; omega
theorem specTime_ev (t : Int) : ∃ b, spec_l05Time.f t = some b ∧ (b = true ↔ (0 ≤ t ∧ t ≤ 1000)) := by
  unfold spec_l05Time.f
  by_cases c : t ≥ 0
  · rw [if_pos c]; refine ⟨_, rfl, ?_⟩; simp; omega
  · rw [if_neg c]; refine ⟨_, rfl, ?_⟩; simp; omega
/-! the windows -/
def slid (t sz st : Int) : Nat → Int → List S44
  | 0, _ => []
  | d + 1, f => if f ≤ t then (if t < f + sz then [⟨f, f + sz⟩] else []) ++ slid t sz st d (f + st) else []
theorem slid_len (t sz st : Int) : ∀ d f, (slid t sz st d f).length ≤ d
  | 0, _ => by simp [slid]
  | d + 1, f => by
    have := slid_len t sz st d (f + st)
    unfold slid
    split
    · split <;> simp <;> omega
    · simp
theorem slid_out {t sz st : Int} {d : Nat} {f : Int} (h : ¬ f ≤ t) : slid t sz st d f = [] := by
  cases d with
  | zero => rfl
  | succ d => unfold slid; rw [if_neg h]
theorem implSlid {t kd sz st : Int} (ht : t ≤ 1000) (h1 : 1 ≤ st) (h2 : st ≤ 100) (h3 : 1 ≤ sz) (h4 : sz ≤ 100) (d : Nat) : ∀ (k : Nat) (f : Int) (acc : List S44), t - f < d → 0 ≤ f → f ≤ 1100 → d < k → acc.length + d ≤ 100000 →
    impl_winsOf.l0 k t acc f kd sz st = some (acc ++ slid t sz st d f) := by
  induction d with
  | zero =>
    intro k f acc hf h0 hb hk ha
    obtain ⟨k, rfl⟩ : ∃ m, k = m + 1 := ⟨k - 1, by omega⟩
    rw [impl_winsOf.l0, if_neg (by omega), slid, List.append_nil]
  | succ d ih =>
    intro k f acc hf h0 hb hk ha
    obtain ⟨k, rfl⟩ : ∃ m, k = m + 1 := ⟨k - 1, by omega⟩
    rw [impl_winsOf.l0, slid, w64 (n := f + sz) (by omega) (by omega), w64 (n := f + st) (by omega) (by omega)]
    by_cases c : f ≤ t
    · rw [if_pos c, if_pos c]
      by_cases c2 : t < f + sz
      · rw [if_pos c2, if_pos c2, if_pos (by omega), ih k (f + st) _ (by omega) (by omega) (by omega) (by omega) (by simp; omega)]; simp
      · rw [if_neg c2, if_neg c2, ih k (f + st) _ (by omega) (by omega) (by omega) (by omega) (by omega)]; simp
    · rw [if_neg c, if_neg c, List.append_nil]
theorem specSlid {t kd sz st : Int} (ht : t ≤ 1000) (h1 : 1 ≤ st) (h2 : st ≤ 100) (h3 : 1 ≤ sz) (h4 : sz ≤ 100) (d : Nat) : ∀ (k : Nat) (f : Int) (acc : List S44), t - f < d → 0 ≤ f → f ≤ 1100 → d < k → acc.length + d ≤ 100000 →
    spec_WinsOf.l0 k t acc f kd sz st = some (acc ++ slid t sz st d f) := by
  induction d with
  | zero =>
    intro k f acc hf h0 hb hk ha
    obtain ⟨k, rfl⟩ : ∃ m, k = m + 1 := ⟨k - 1, by omega⟩
    rw [spec_WinsOf.l0, if_neg (by omega), slid, List.append_nil]
  | succ d ih =>
    intro k f acc hf h0 hb hk ha
    obtain ⟨k, rfl⟩ : ∃ m, k = m + 1 := ⟨k - 1, by omega⟩
    rw [spec_WinsOf.l0, slid, w64 (n := f + sz) (by omega) (by omega), w64 (n := f + st) (by omega) (by omega)]
    by_cases c : f ≤ t
    · rw [if_pos c, if_pos c]
      by_cases c2 : t < f + sz
      · rw [if_pos (show f + sz > t from c2), if_pos c2, if_pos (by omega), ih k (f + st) _ (by omega) (by omega) (by omega) (by omega) (by simp; omega)]; simp
      · rw [if_neg (show ¬ f + sz > t from c2), if_neg c2, ih k (f + st) _ (by omega) (by omega) (by omega) (by omega) (by omega)]; simp
    · rw [if_neg c, if_neg c, List.append_nil]
def wins (kd sz st t : Int) : List S44 :=
  if kd = 1 then [⟨t / sz * sz, t / sz * sz + sz⟩] else if kd = 3 then [⟨t, t + sz⟩] else slid t sz st 1001 0
theorem floor_le {t sz : Int} (h1 : 1 ≤ sz) (h0 : 0 ≤ t) : 0 ≤ t / sz * sz ∧ t / sz * sz ≤ t ∧ t < t / sz * sz + sz := by
  have e := Int.mul_ediv_add_emod t sz
  have a := Int.emod_nonneg t (show sz ≠ 0 by omega)
  have b := Int.emod_lt_of_pos t (show 0 < sz by omega)
  have c : t / sz * sz = sz * (t / sz) := Int.mul_comm _ _
  have d : 0 ≤ t / sz := Int.ediv_nonneg h0 (by omega)
  have f : 0 ≤ t / sz * sz := Int.mul_nonneg d (by omega)
  omega
theorem tumble_floor {t sz : Int} (h1 : 1 ≤ sz) (h2 : sz ≤ 100) (h0 : 0 ≤ t) (ht : t ≤ 1000) : wrap64 (wrap64 (Int.tdiv t sz) * sz) = t / sz * sz := by
  have hf := floor_le h1 h0
  rw [Int.tdiv_eq_ediv_of_nonneg h0]
  have d : 0 ≤ t / sz := Int.ediv_nonneg h0 (by omega)
  have e : t / sz ≤ t := Int.ediv_le_self _ h0
  rw [w64 (n := t / sz) (by omega) (by omega), w64 (by omega) (by omega)]
theorem implWins_ev {kd sz st t : Int} (hd : WDef kd sz st) (h0 : 0 ≤ t) (h1 : t ≤ 1000) {k : Nat} (hk : 1002 < k) : impl_WinsOf.f k kd sz st t = some (wins kd sz st t) := by
  unfold impl_WinsOf.f
  obtain ⟨b, hb, hbi⟩ := isWinDef_ev kd sz st (k := k) (by omega)
  obtain ⟨b2, hb2, hbi2⟩ := isTime_ev t
  rw [hb, hbi.2 hd, Option.bind_some, if_pos rfl, hb2, hbi2.2 ⟨h0, h1⟩, Option.bind_some, if_pos rfl]
  clear hb hbi hb2 hbi2
  unfold impl_winsOf.f wins
  unfold WDef at hd
  have hf := floor_le (sz := sz) (by omega) h0
  by_cases c1 : kd = 1
  · rw [if_pos c1, if_pos c1, if_neg (by omega), tumble_floor (by omega) (by omega) h0 h1, w64 (by omega) (by omega)]; rfl
  rw [if_neg c1, if_neg c1]
  by_cases c3 : kd = 3
  · rw [if_pos c3, if_pos c3, w64 (by omega) (by omega)]; rfl
  rw [if_neg c3, if_neg c3, implSlid (d := 1001) h1 (by omega) (by omega) (by omega) (by omega) k 0 [] (by omega) (by omega) (by omega) (by omega) (by simp)]; rfl
theorem specWins_ev {kd sz st t : Int} (hd : WDef kd sz st) (h0 : 0 ≤ t) (h1 : t ≤ 1000) {k : Nat} (hk : 1003 < k) : spec_WinsOf.f k kd sz st t = some (wins kd sz st t) := by
  obtain ⟨k, rfl⟩ : ∃ m, k = m + 1 := ⟨k - 1, by omega⟩
  unfold spec_WinsOf.f
  obtain ⟨b, hb, hbi⟩ := specWinOk_ev kd sz st (k := k + 1) (by omega)
  obtain ⟨b2, hb2, hbi2⟩ := specTime_ev t
  rw [hb, hbi.2 hd, Option.bind_some, if_pos rfl, hb2, hbi2.2 ⟨h0, h1⟩, Option.bind_some, spec_WinsOf.j0, if_neg (by simp)]
  clear hb hbi hb2 hbi2
  unfold wins
  unfold WDef at hd
  have hf := floor_le (sz := sz) (by omega) h0
  by_cases c1 : kd = 1
  · rw [if_pos c1, if_pos c1, if_neg (by omega), tumble_floor (by omega) (by omega) h0 h1, w64 (by omega) (by omega)]
  rw [if_neg c1, if_neg c1]
  by_cases c3 : kd = 3
  · rw [if_pos c3, if_pos c3, w64 (by omega) (by omega)]
  rw [if_neg c3, if_neg c3, specSlid (d := 1001) h1 (by omega) (by omega) (by omega) (by omega) k 0 [] (by omega) (by omega) (by omega) (by omega) (by simp)]; rfl
theorem implWins_no {kd sz st t : Int} (hn : ¬ (WDef kd sz st ∧ (0 ≤ t ∧ t ≤ 1000))) {k : Nat} (hk : 2 < k) : impl_WinsOf.f k kd sz st t = some [] := by
  unfold impl_WinsOf.f
  obtain ⟨b, hb, hbi⟩ := isWinDef_ev kd sz st (k := k) (by omega)
  obtain ⟨b2, hb2, hbi2⟩ := isTime_ev t
  rw [hb, Option.bind_some]
  cases b with
  | false => rw [if_neg (by simp)]
  | true =>
    rw [if_pos rfl, hb2, Option.bind_some]
    cases b2 with
    | false => rw [if_neg (by simp)]
    | true => exact absurd ⟨hbi.1 rfl, hbi2.1 rfl⟩ hn
theorem specWins_no {kd sz st t : Int} (hn : ¬ (WDef kd sz st ∧ (0 ≤ t ∧ t ≤ 1000))) {k : Nat} (hk : 2 < k) : spec_WinsOf.f k kd sz st t = some [] := by
  obtain ⟨k, rfl⟩ : ∃ m, k = m + 1 := ⟨k - 1, by omega⟩
  unfold spec_WinsOf.f
  obtain ⟨b, hb, hbi⟩ := specWinOk_ev kd sz st (k := k + 1) (by omega)
  obtain ⟨b2, hb2, hbi2⟩ := specTime_ev t
  rw [hb, Option.bind_some]
  cases b with
  | false => rw [if_neg (by simp), spec_WinsOf.j0, if_pos rfl]
  | true =>
    rw [if_pos rfl, hb2, Option.bind_some]
    cases b2 with
    | false => rw [spec_WinsOf.j0, if_pos (by decide)]
    | true => exact absurd ⟨hbi.1 rfl, hbi2.1 rfl⟩ hn
/-! the law -/
theorem w64s {i : Nat} (h : i ≤ 1099511627776000) : wrap64 ((i : Int) + 1) = ((i + 1 : Nat) : Int) := by rw [w64] <;> omega
theorem rdT_get {xs : List S44} {i : Nat} (h : i < xs.length) : rd_T44 xs (i : Int) = xs[i] := by
  unfold rd_T44
  rw [List.getD_eq_getElem?_getD]
  simp [List.getElem?_eq_getElem h]
theorem drop_cons {xs : List S44} {i : Nat} (h : i < xs.length) : xs.drop i = rd_T44 xs (i : Int) :: xs.drop (i + 1) := by
  rw [rdT_get h]; exact List.drop_eq_getElem_cons h
theorem same_l (xs : List S44) (hx : xs.length ≤ 1099511627776) (d : Nat) : ∀ (i k : Nat), i + d = xs.length → d < k → laws_sameWins.l0 k xs xs (i : Int) = some true := by
  induction d with
  | zero =>
    intro i k hi hk
    obtain ⟨k, rfl⟩ : ∃ m, k = m + 1 := ⟨k - 1, by omega⟩
    simp only [laws_sameWins.l0]; rw [if_neg (by omega)]
  | succ d ih =>
    intro i k hi hk
    obtain ⟨k, rfl⟩ : ∃ m, k = m + 1 := ⟨k - 1, by omega⟩
    simp only [laws_sameWins.l0]; rw [if_pos (by omega), if_pos (by omega), if_pos (by omega), if_neg (by simp), w64s (by omega)]
    exact ih (i + 1) k (by omega) (by omega)
theorem same_ev {xs : List S44} {k : Nat} (hx : xs.length ≤ 2000) (hk : 2000 < k) : laws_sameWins.f k xs xs = some true := by
  unfold laws_sameWins.f
  rw [if_pos rfl]
  exact same_l xs (by omega) xs.length 0 k (by omega) (by omega)
-- Every window holds the time and has the size; each begins a step behind the one before.
def GW (t sz st : Int) : Option Int → List S44 → Prop
  | _, [] => True
  | p, w :: r => 0 ≤ w.f0 ∧ w.f0 ≤ t ∧ t < w.f1 ∧ w.f1 = w.f0 + sz ∧ (∀ q, p = some q → w.f0 = q + st) ∧ GW t sz st (some w.f0) r
theorem gw_slid (t sz st : Int) (h1 : 1 ≤ st) : ∀ (d : Nat) (f : Int) (p : Option Int), 0 ≤ f → (∀ q, p = some q → f = q + st ∧ t < f + sz) → GW t sz st p (slid t sz st d f)
  | 0, _, _, _, _ => trivial
  | d + 1, f, p, h0, hp => by
    unfold slid
    by_cases c : f ≤ t
    · rw [if_pos c]
      by_cases c2 : t < f + sz
      · rw [if_pos c2]
        exact ⟨h0, c, c2, rfl, fun q hq => (hp q hq).1, gw_slid t sz st h1 d (f + st) _ (by omega) (by intro q hq; injection hq with hq; subst hq; exact ⟨rfl, by omega⟩)⟩
      · rw [if_neg c2, List.nil_append]
        exact gw_slid t sz st h1 d (f + st) p (by omega) (by intro q hq; have := (hp q hq).2; omega)
    · rw [if_neg c]; trivial
theorem gw_wins {kd sz st t : Int} (hd : WDef kd sz st) (h0 : 0 ≤ t) : GW t sz st none (wins kd sz st t) := by
  unfold WDef at hd
  have hf := floor_le (sz := sz) (by omega) h0
  unfold wins
  split
  · exact ⟨hf.1, hf.2.1, hf.2.2, rfl, (fun q hq => by cases hq), trivial⟩
  split
  · exact ⟨h0, Int.le_refl _, by show t < t + sz; omega, rfl, (fun q hq => by cases hq), trivial⟩
  · exact gw_slid t sz st (by omega) 1001 0 none (by omega) (fun q hq => by cases hq)
theorem slid_last {t sz st : Int} (h1 : 1 ≤ st) (h2 : st ≤ sz) (h0 : 0 ≤ t) : ∀ (d : Nat) (j : Nat), t - (j : Int) * st < d → (j : Int) * st ≤ t → ∃ r, slid t sz st d ((j : Int) * st) = r ++ [⟨t / st * st, t / st * st + sz⟩]
  | 0, _, h, h' => by omega
  | d + 1, j, h, h' => by
    have hf := floor_le h1 h0
    unfold slid
    rw [if_pos h']
    have e : (j : Int) * st + st = ((j + 1 : Nat) : Int) * st := by
      rw [Int.natCast_add, Int.add_mul]; simp
    rw [e]
    by_cases c : ((j + 1 : Nat) : Int) * st ≤ t
    · obtain ⟨r, hr⟩ := slid_last h1 h2 h0 d (j + 1) (by omega) c
      exact ⟨_, by rw [hr, ← List.append_assoc]⟩
    · rw [slid_out c, List.append_nil, if_pos (by omega)]
      have : t / st = (j : Int) := by
        refine Int.le_antisymm ?_ ?_
        · have : t / st < ((j + 1 : Nat) : Int) := Int.ediv_lt_of_lt_mul (by omega) (by omega)
          omega
        · exact (Int.le_ediv_iff_mul_le (by omega)).2 h'
      exact ⟨[], by rw [this]; rfl⟩
theorem law_l1 {t kd sz st : Int} (ht : t ≤ 1000) (h1 : 1 ≤ st) (h2 : st ≤ 100) (h3 : 1 ≤ sz) (h4 : sz ≤ 100) (h0 : 0 ≤ t) (xs : List S44) (hx : xs.length ≤ 2000) (hl : ∃ r, xs = r ++ [⟨t / st * st, t / st * st + sz⟩]) (d : Nat) :
    ∀ (k : Nat) (f : Int) (n : Nat), t - f < d → 0 ≤ f → f ≤ 1100 → d < k → n + (slid t sz st d f).length = xs.length → n ≤ 2000 → laws_FnWins.l1 k t xs (n : Int) f kd sz st = some true := by
  have hend : ∀ (k : Nat) (f : Int) (n : Nat), ¬ f ≤ t → n = xs.length → laws_FnWins.l1 (k + 1) t xs (n : Int) f kd sz st = some true := by
    intro k f n hf hn
    obtain ⟨r, rfl⟩ := hl
    have hlen : (r ++ [(⟨t / st * st, t / st * st + sz⟩ : S44)]).length = r.length + 1 := by simp
    rw [laws_FnWins.l1, if_neg hf, if_pos (by omega), hlen, show wrap64 (((r.length + 1 : Nat) : Int) - 1) = (r.length : Int) from by rw [w64] <;> omega, if_pos (by omega), if_pos (by omega), if_neg (by omega), tumble_floor h1 h2 h0 ht, rdT_get (by simp)]
    simp
  induction d with
  | zero =>
    intro k f n hf h0 hb hk hn hn2
    obtain ⟨k, rfl⟩ : ∃ m, k = m + 1 := ⟨k - 1, by omega⟩
    exact hend k f n (by omega) (by simpa [slid] using hn)
  | succ d ih =>
    intro k f n hf h0 hb hk hn hn2
    obtain ⟨k, rfl⟩ : ∃ m, k = m + 1 := ⟨k - 1, by omega⟩
    by_cases c : f ≤ t
    · unfold slid at hn
      rw [if_pos c] at hn
      rw [laws_FnWins.l1, if_pos c, w64 (n := f + sz) (by omega) (by omega), w64 (n := f + st) (by omega) (by omega), w64s (by omega)]
      by_cases c2 : t < f + sz
      · rw [if_pos c2] at hn ⊢
        exact ih k (f + st) (n + 1) (by omega) (by omega) (by omega) (by omega) (by simp at hn; omega) (by simp at hn; omega)
      · rw [if_neg c2] at hn ⊢
        exact ih k (f + st) n (by omega) (by omega) (by omega) (by omega) (by simpa using hn) hn2
    · refine hend k f n c ?_
      rw [slid_out c] at hn; simpa using hn
theorem law_l0 {t kd sz st : Int} (hd : WDef kd sz st) (h0 : 0 ≤ t) (ht : t ≤ 1000) (xs : List S44) (hw : xs = wins kd sz st t) (hx : xs.length ≤ 1001) (d : Nat) :
    ∀ (i k : Nat), i + d = xs.length → 1200 + d < k → GW t sz st (if i = 0 then none else some (rd_T44 xs ((i - 1 : Nat) : Int)).f0) (xs.drop i) → laws_FnWins.l0 k t xs (i : Int) kd sz st = some true := by
  induction d with
  | zero =>
    intro i k hi hk hg
    obtain ⟨k, rfl⟩ : ∃ m, k = m + 1 := ⟨k - 1, by omega⟩
    rw [laws_FnWins.l0, if_neg (by omega)]
    have hd' := hd
    unfold WDef at hd'
    by_cases c1 : kd = 1
    · rw [if_pos c1]
      have he : xs = [⟨t / sz * sz, t / sz * sz + sz⟩] := by rw [hw, wins, if_pos c1]
      rw [he, if_pos (by simp), if_pos (by simp), if_neg (by omega)]
      have : Int.tmod (t / sz * sz) sz = 0 := Int.mul_tmod_left _ _
      show some (Int.tmod (t / sz * sz) sz == 0) = some true
      rw [this]; rfl
    rw [if_neg c1]
    by_cases c3 : kd = 3
    · rw [if_pos c3]
      have he : xs = [⟨t, t + sz⟩] := by rw [hw, wins, if_neg c1, if_pos c3]
      rw [he, if_pos (by simp), if_pos (by simp)]
      show some (t == t) = some true
      simp
    rw [if_neg c3]
    have he : xs = slid t sz st 1001 0 := by rw [hw, wins, if_neg c1, if_neg c3]
    obtain ⟨r, hr⟩ := slid_last (t := t) (sz := sz) (st := st) (by omega) (by omega) h0 1001 0 (by simp; omega) (by simp; omega)
    refine law_l1 ht (by omega) (by omega) (by omega) (by omega) h0 xs (by omega) ⟨r, ?_⟩ 1001 k 0 0 (by omega) (by omega) (by omega) (by omega) (by rw [he]; simp) (by omega)
    rw [he, ← hr]; simp
  | succ d ih =>
    intro i k hi hk hg
    obtain ⟨k, rfl⟩ : ∃ m, k = m + 1 := ⟨k - 1, by omega⟩
    rw [drop_cons (by omega)] at hg
    obtain ⟨g0, g1, g2, g3, g4, g5⟩ := hg
    have hd' := hd
    unfold WDef at hd'
    rw [laws_FnWins.l0, if_pos (by omega), if_pos (by omega), if_neg (by omega), if_neg (by omega), if_pos (by rw [w64] <;> omega), w64s (by omega)]
    have hnext : laws_FnWins.l0 k t xs ((i + 1 : Nat) : Int) kd sz st = some true := ih (i + 1) k (by omega) (by omega) (by rw [if_neg (by omega)]; simpa using g5)
    by_cases c : (i : Int) > 0
    · rw [if_pos c, show wrap64 ((i : Int) - 1) = ((i - 1 : Nat) : Int) from by rw [w64] <;> omega, if_pos (by omega), if_pos (by omega)]
      have := g4 _ (if_neg (by omega))
      rw [if_pos (by rw [w64] <;> omega)]
      exact hnext
    · rw [if_neg c]; exact hnext
theorem wins_len {kd sz st t : Int} : (wins kd sz st t).length ≤ 1001 := by
  unfold wins
  split
  · simp
  split
  · simp
  · exact slid_len _ _ _ _ _
theorem FnWins : laws_FnWins.Pure := by
  intro l0 _ _ hwf
  have hb : Bytes l0 := by
    intro x hx
    have := hwf x hx
    simp [Lit.wf, IntKind.min, IntKind.max, IntKind.signed, IntKind.bits] at this
    omega
  refine ⟨5000, ?_⟩
  unfold laws_FnWins.f laws_big.f
  rw [Option.bind_some]
  by_cases hbig : (l0.length : Int) > 1048576
  · rw [if_pos (by simpa using hbig)]
  rw [if_neg (by simpa using hbig)]
  obtain ⟨kd, sz, st, t, hd⟩ := draw_ev hb (by omega) (k := 5000) (by omega)
  rw [hd, Option.bind_some]; dsimp only
  by_cases hok : WDef kd sz st ∧ (0 ≤ t ∧ t ≤ 1000)
  · have hlen := wins_len (kd := kd) (sz := sz) (st := st) (t := t)
    have hne : wins kd sz st t ≠ [] := by
      have hd' := hok.1
      unfold WDef at hd'
      unfold wins
      split
      · simp
      split
      · simp
      · obtain ⟨r, hr⟩ := slid_last (t := t) (sz := sz) (st := st) (by omega) (by omega) hok.2.1 1001 0 (by simp; omega) (by simp; omega)
        simp at hr; rw [hr]; simp
    have hpos : 0 < (wins kd sz st t).length := List.length_pos_iff.2 hne
    rw [implWins_ev hok.1 hok.2.1 hok.2.2 (by omega), Option.bind_some, specWins_ev hok.1 hok.2.1 hok.2.2 (by omega), Option.bind_some, same_ev (k := 5000) (by omega) (by omega), Option.bind_some, if_pos rfl, laws_FnWins.j0, if_neg (by simp; omega)]
    exact law_l0 hok.1 hok.2.1 hok.2.2 _ rfl hlen (wins kd sz st t).length 0 4999 (by omega) (by omega) (by simpa using gw_wins hok.1 hok.2.1)
  · rw [implWins_no hok (by omega), Option.bind_some, specWins_no hok (by omega), Option.bind_some, same_ev (k := 5000) (by simp) (by omega), Option.bind_some, if_pos rfl, laws_FnWins.j0, if_pos (by simp), specWins_no hok (by omega), Option.bind_some, same_ev (k := 4999) (by simp) (by omega), Option.bind_some]

end Go.Proofs.Ytahnodgbfonlhaa.Pure
