/- The law FnMean answers true for every code: the mean of a wide total by a count, told by the machine, is the long division of the spec, and it lies where the law says. Conditions: none beyond the given statement. -/
import Derived.Test.YtkikbhcicpkhgaaQFnMeanx7
import Derived.Laws.Bits64b
import Derived.Laws.BitsLemmas
set_option linter.unusedVariables false
set_option linter.unusedSimpArgs false
namespace Go.Proofs.Ytkikbhcicpkhgaa.Pure
open Go.RowKit Go.Proofs.Ytkikbhcicpkhgaa.PFnMean Go.Proofs.YtkikbhcicpkhgaaW.PrintWords Go.Proofs.YtkikbhcicpkhgaaW.PrintLast Go.Proofs.YtkikbhcicpkhgaaW.PrintMore
theorem w64 {n : Int} (h0 : -9223372036854775808 ≤ n) (h1 : n ≤ 9223372036854775807) : wrap64 n = n := by unfold wrap64; omega
theorem w64_lo (n : Int) : -9223372036854775808 ≤ wrap64 n := by unfold wrap64; omega
theorem w64_hi (n : Int) : wrap64 n ≤ 9223372036854775807 := by unfold wrap64; omega

def Cur (M a s : Int) : Prop := 0 ≤ a ∧ a ≤ M ∧ 0 ≤ s ∧ s < 65521
def Bytes (bs : List Int) : Prop := ∀ x ∈ bs, 0 ≤ x ∧ x ≤ 255
theorem rd_byte {bs : List Int} (hb : Bytes bs) (i : Int) : 0 ≤ rd bs i ∧ rd bs i ≤ 255 := by
  unfold rd
  rw [List.getD_eq_getElem?_getD]
  rcases h : bs[i.toNat]? with _ | x
  · simp
  · exact hb x (List.mem_of_getElem? h)
theorem tm {x n : Int} (hx : 0 ≤ x) (hn : 2 ≤ n) : 0 ≤ Int.tmod x n ∧ Int.tmod x n < n := by
  rw [Int.tmod_eq_emod_of_nonneg hx]
  exact ⟨Int.emod_nonneg _ (by omega), Int.emod_lt_of_pos _ (by omega)⟩
theorem pick_ev {bs : List Int} (hb : Bytes bs) {M a s : Int} (n : Int) (hc : Cur M a s) (hM : M ≤ 1099511627776) (hl : bs.length ≤ 1099511627776000) :
    ∃ v a' s', spec_l01Cur_pick.f bs a s n = some (v, a', s') ∧ 0 ≤ v ∧ (v < n ∨ v = 0) ∧ Cur (M + 1) a' s' := by
  obtain ⟨h0, h1, h2, h3⟩ := hc
  unfold spec_l01Cur_pick.f
  by_cases c1 : n < 2
  · rw [if_pos c1]; exact ⟨_, _, _, rfl, by omega, by omega, by omega, by omega, h2, h3⟩
  rw [if_neg c1]
  have ea : wrap64 (a + 1) = a + 1 := w64 (by omega) (by omega)
  by_cases c2 : a < (bs.length : Int)
  · have hr := rd_byte hb a
    have ht := tm (x := wrap64 (rd bs a)) (n := n) (by rw [w64] <;> omega) (by omega)
    rw [if_pos c2, if_pos h0, if_neg (by omega), ea]
    exact ⟨_, _, _, rfl, ht.1, Or.inl ht.2, by omega, by omega, h2, h3⟩
  rw [if_neg c2]
  have e1 : wrap64 (s * 1103) = s * 1103 := w64 (by omega) (by omega)
  have e2 : wrap64 (s * 1103 + 12345) = s * 1103 + 12345 := w64 (by omega) (by omega)
  simp only [e1, e2, ea]
  have hm := tm (x := s * 1103 + 12345) (n := 65521) (by omega) (by omega)
  generalize Int.tmod (s * 1103 + 12345) 65521 = q at hm ⊢
  by_cases c3 : (bs.length : Int) > 0
  · have hd : 0 ≤ Int.tmod a (bs.length : Int) ∧ Int.tmod a (bs.length : Int) < (bs.length : Int) := by
      rw [Int.tmod_eq_emod_of_nonneg h0]
      exact ⟨Int.emod_nonneg _ (by omega), Int.emod_lt_of_pos _ (by omega)⟩
    have hr := rd_byte hb (Int.tmod a (bs.length : Int))
    have hq : 0 ≤ Int.tdiv q 7 ∧ Int.tdiv q 7 ≤ 65521 := by
      rw [Int.tdiv_eq_ediv_of_nonneg hm.1]; omega
    have ht := tm (x := wrap64 (wrap64 (Int.tdiv q 7) + wrap64 (rd bs (Int.tmod a (bs.length : Int))))) (n := n) (by rw [w64 (n := Int.tdiv q 7), w64 (n := rd bs _), w64] <;> omega) (by omega)
    rw [if_pos c3, if_neg (by omega), if_pos hd.1, if_pos hd.2, if_neg (by omega)]
    exact ⟨_, _, _, rfl, ht.1, Or.inl ht.2, by omega, by omega, hm.1, hm.2⟩
  · rw [if_neg c3, if_neg (by omega)]
    exact ⟨_, _, _, rfl, by simp, Or.inr (by simp), by omega, by omega, hm.1, hm.2⟩
theorem raw_ev {bs : List Int} (hb : Bytes bs) {M a s : Int} (hc : Cur M a s) (hM : M ≤ 1099511600000) (hl : bs.length ≤ 1099511627776000) :
    ∃ v a' s', spec_l01Cur_raw.f bs a s = some (v, a', s') ∧ -9223372036854775808 ≤ v ∧ v ≤ 9223372036854775807 ∧ Cur (M + 2) a' s' := by
  unfold spec_l01Cur_raw.f
  obtain ⟨v, a1, s1, e, hv, hv', hc1⟩ := pick_ev hb 8 hc (by omega) hl
  rw [e]; simp only [Option.bind_some]
  by_cases c0 : v = 0
  · rw [if_pos c0]
    obtain ⟨v2, a2, s2, e2, hv2, hv2', hc2⟩ := pick_ev hb 256 hc1 (by omega) hl
    rw [e2]; simp only [Option.bind_some]
    exact ⟨_, _, _, rfl, w64_lo _, w64_hi _, by unfold Cur at hc2 ⊢; omega⟩
  rw [if_neg c0]
  by_cases c1 : v = 1
  · rw [if_pos c1]
    obtain ⟨v2, a2, s2, e2, hv2, hv2', hc2⟩ := pick_ev hb 8 hc1 (by omega) hl
    rw [e2]; simp only [Option.bind_some]
    rw [if_pos hv2, if_pos (by simp; omega)]
    refine ⟨_, _, _, rfl, ?_, ?_, by unfold Cur at hc2 ⊢; omega⟩
    all_goals
      have : v2 = 0 ∨ v2 = 1 ∨ v2 = 2 ∨ v2 = 3 ∨ v2 = 4 ∨ v2 = 5 ∨ v2 = 6 ∨ v2 = 7 := by omega
      rcases this with rfl | rfl | rfl | rfl | rfl | rfl | rfl | rfl <;> decide
  rw [if_neg c1]
  obtain ⟨v2, a2, s2, e2, hv2, hv2', hc2⟩ := pick_ev hb 14 hc1 (by omega) hl
  rw [e2]; simp only [Option.bind_some]
  exact ⟨_, _, _, rfl, w64_lo _, w64_hi _, by unfold Cur at hc2 ⊢; omega⟩
theorem Cur.mono {M M' a s : Int} (h : Cur M a s) (hM : M ≤ M') : Cur M' a s := by unfold Cur at *; omega

/-! wide numbers -/
def H64 (h : Int) : Prop := -9223372036854775808 ≤ h ∧ h ≤ 9223372036854775807
def U64 (l : Int) : Prop := 0 ≤ l ∧ l < 18446744073709551616
def V (h l : Int) : Int := h * 18446744073709551616 + l
def R128 (v : Int) : Prop := -170141183460469231731687303715884105728 ≤ v ∧ v < 170141183460469231731687303715884105728
theorem V_div {h l : Int} (hl : U64 l) : V h l / 18446744073709551616 = h := by unfold V U64 at *; omega
theorem V_mod {h l : Int} (hl : U64 l) : V h l % 18446744073709551616 = l := by unfold V U64 at *; omega
theorem V_range {h l : Int} (hh : H64 h) (hl : U64 l) : R128 (V h l) := by unfold V H64 U64 R128 at *; omega
def hi (v : Int) : Int := v / 18446744073709551616
def lo (v : Int) : Int := v % 18446744073709551616
theorem hi_H {v : Int} (h : R128 v) : H64 (hi v) := by unfold hi H64 R128 at *; omega
theorem lo_U (v : Int) : U64 (lo v) := by unfold lo U64; omega
theorem V_hl (v : Int) : V (hi v) (lo v) = v := by unfold V hi lo; omega
theorem hi_V {h l : Int} (hl : U64 l) : hi (V h l) = h := V_div hl
theorem lo_V {h l : Int} (hl : U64 l) : lo (V h l) = l := V_mod hl
theorem implAdd_ev {a b : Int} (hc : R128 (a + b)) : impl_WideAdd.f (hi a) (lo a) (hi b) (lo b) = some (hi (a + b), lo (a + b)) := by
  unfold impl_WideAdd.f
  have h1 := lo_U a
  have h2 := lo_U b
  unfold U64 at h1 h2
  rw [if_pos ⟨h1.1, h2.1, h1.2, h2.2⟩]
  congr 2
  · unfold R128 at hc
    unfold hi lo wrap64
    omega
  · unfold lo; omega
theorem specAdd_ev {a b : Int} (hc : R128 (a + b)) : spec_WideAdd.f (hi a) (lo a) (hi b) (lo b) = some (hi (a + b), lo (a + b)) := by
  unfold spec_WideAdd.f
  simp only [IntKind.wrap_u64]
  unfold R128 at hc
  by_cases c : (lo a + lo b) % 18446744073709551616 < lo a
  · rw [if_pos c]
    unfold lo hi at *
    congr 2
    · unfold wrap64; omega
    · omega
  · rw [if_neg c]
    unfold lo hi at *
    congr 2
    · unfold wrap64; omega
    · omega
theorem specOf_ev {n : Int} (hn : H64 n) : spec_WideOf.f n = some (hi n, lo n) := by
  unfold spec_WideOf.f H64 at *
  simp only [IntKind.wrap_u64]
  by_cases c : n < 0
  · rw [if_pos c]; unfold hi lo; congr 2; omega
  · rw [if_neg c]; unfold hi lo; congr 2; omega
theorem implOf_ev {n : Int} (hn : H64 n) : impl_WideOf.f n = some (hi n, lo n) := by
  unfold impl_WideOf.f H64 at *
  simp only [IntKind.wrap_u64]
  unfold hi lo; congr 2; omega
theorem H_R {n : Int} (h : H64 n) : R128 n := by unfold H64 R128 at *; omega
-- The negation, modulo 2^128.
def neg (a : Int) : Int := if a = -170141183460469231731687303715884105728 then a else -a
theorem neg_R {a : Int} (h : R128 a) : R128 (neg a) := by unfold neg R128 at *; split <;> omega
theorem specNeg_ev {a : Int} (ha : R128 a) : spec_WideNeg.f (hi a) (lo a) = some (hi (neg a), lo (neg a)) := by
  unfold spec_WideNeg.f spec_WideAdd.f
  have h1 := hi_H ha
  have h2 := lo_U a
  simp only [IntKind.wrap_u64]
  rw [w64 (n := -1 - hi a) (by unfold H64 at h1; omega) (by unfold H64 at h1; omega)]
  unfold R128 at ha
  unfold H64 at h1
  unfold U64 at h2
  by_cases c : ((18446744073709551615 - lo a) % 18446744073709551616 + 1) % 18446744073709551616 < (18446744073709551615 - lo a) % 18446744073709551616
  · rw [if_pos c, Option.bind_some]
    unfold neg lo hi at *
    congr 2
    · unfold wrap64; split <;> omega
    · split <;> omega
  · rw [if_neg c, Option.bind_some]
    unfold neg lo hi at *
    congr 2
    · unfold wrap64; split <;> omega
    · split <;> omega
theorem implNeg_ev {a : Int} (ha : R128 a) : impl_WideNeg.f (hi a) (lo a) = some (hi (neg a), lo (neg a)) := by
  have h1 := hi_H ha
  have h2 := lo_U a
  unfold H64 at h1
  unfold U64 at h2
  unfold impl_WideNeg.f impl_WideAdd.f
  rw [if_pos ⟨h1, h2⟩, if_pos ⟨by omega, by omega, by omega, by omega⟩]
  unfold R128 at ha
  unfold neg lo hi at *
  congr 2
  · unfold wrap64; split <;> omega
  · split <;> omega
instance : DecidablePred H64 := fun v => by unfold H64; infer_instance
theorem specInt_ev {v : Int} (hv : R128 v) : spec_WideInt.f (hi v) (lo v) = some (if H64 v then (v, true) else (0, false)) := by
  have hw : H64 (wrap64 (lo v)) := by unfold H64; exact ⟨w64_lo _, w64_hi _⟩
  unfold spec_WideInt.f
  rw [specOf_ev hw, Option.bind_some]
  unfold R128 at hv
  by_cases c : H64 v
  · rw [if_pos c]
    have e : wrap64 (lo v) = v := by unfold H64 at c; unfold lo wrap64; omega
    rw [e]; simp
  · rw [if_neg c, if_pos]
    unfold H64 at c
    simp only [Bool.or_eq_true, Bool.not_eq_true', beq_eq_false_iff_ne]
    by_cases k : hi (wrap64 (lo v)) = hi v
    · exfalso
      unfold hi lo wrap64 at k; omega
    · exact Or.inl k
theorem cmp_i (a b : Int) : cmp_Compare_int.f a b = some (if a < b then -1 else if a > b then 1 else 0) := by
  unfold cmp_Compare_int.f cmp_isNaN_int.f
  rw [Option.bind_some, Option.bind_some, if_neg (by simp), if_neg (by simp)]
  split
  · rfl
  split <;> rfl
theorem cmp_u (a b : Int) : cmp_Compare_uint64.f a b = some (if a < b then -1 else if a > b then 1 else 0) := by
  unfold cmp_Compare_uint64.f cmp_isNaN_uint64.f
  rw [Option.bind_some, Option.bind_some, if_neg (by simp), if_neg (by simp)]
  split
  · rfl
  split <;> rfl
theorem or_ev (a b : Int) {k : Nat} (hk : 3 < k) : cmp_Or_int.f k [a, b] = some (if a = 0 then b else a) := by
  obtain ⟨k, rfl⟩ : ∃ m, k = m + 3 := ⟨k - 3, by omega⟩
  unfold cmp_Or_int.f
  rw [cmp_Or_int.l0, if_pos (by simp), if_pos (by omega), if_pos (by simp)]
  have r0 : rd [a, b] 0 = a := rfl
  have r1 : rd [a, b] 1 = b := rfl
  rw [r0, w64 (n := 0 + 1) (by omega) (by omega)]
  by_cases c : a = 0
  · rw [if_pos c, if_pos c, cmp_Or_int.l0, if_pos (by simp), if_pos (by omega), if_pos (by simp), show (0 : Int) + 1 = 1 from rfl, r1]
    by_cases d : b = 0
    · rw [if_pos d, w64 (n := 1 + 1) (by omega) (by omega), cmp_Or_int.l0, if_neg (by simp), d]
    · rw [if_neg d]
  · rw [if_neg c, if_neg c]
theorem cmp_ev (a b : Int) {k : Nat} (hk : 3 < k) : impl_WideCmp.f k (hi a) (lo a) (hi b) (lo b) = some (if a < b then -1 else if a > b then 1 else 0) := by
  unfold impl_WideCmp.f
  rw [cmp_i, Option.bind_some, cmp_u, Option.bind_some, or_ev _ _ hk, Option.bind_some]
  congr 1
  have ea := V_hl a
  have eb := V_hl b
  have la := lo_U a
  have lb := lo_U b
  unfold V at ea eb
  unfold U64 at la lb
  by_cases c1 : hi a < hi b
  · rw [if_pos c1, if_neg (by omega), if_pos (by omega)]
  rw [if_neg c1]
  by_cases c2 : hi a > hi b
  · rw [if_pos c2, if_neg (by omega), if_neg (by omega), if_pos (by omega)]
  rw [if_neg c2, if_pos rfl]
  by_cases c3 : lo a < lo b
  · rw [if_pos c3, if_pos (by omega)]
  rw [if_neg c3]
  by_cases c4 : lo a > lo b
  · rw [if_pos c4, if_neg (by omega), if_pos (by omega)]
  · rw [if_neg c4, if_neg (by omega), if_neg (by omega)]
/-! bits, long division -/
def val : List Int → Int
  | [] => 0
  | b :: bs => b + 2 * val bs
def bl : Nat → Int → List Int
  | 0, _ => []
  | n + 1, u => (u % 2) :: bl n (u / 2)
def Bts (L : List Int) : Prop := ∀ i : Nat, rd L (i : Int) = 0 ∨ rd L (i : Int) = 1
theorem bl_len (n : Nat) (u : Int) : (bl n u).length = n := by
  induction n generalizing u with
  | zero => rfl
  | succ n ih => simp only [bl, List.length_cons, ih]
theorem bl_val (n : Nat) (u : Int) : val (bl n u) = u % 2 ^ n := by
  induction n generalizing u with
  | zero => simp only [bl, val, Int.pow_zero]; omega
  | succ n ih =>
    simp only [bl, val, ih, Int.pow_succ]
    have hp : (0 : Int) < 2 ^ n := Int.pow_pos (by decide)
    generalize (2 : Int) ^ n = P at hp
    rw [Int.mul_comm P 2]
    have e : u % (2 * P) = u - 2 * P * (u / (2 * P)) := Int.emod_def ..
    have e2 : u / 2 % P = u / 2 - P * (u / 2 / P) := Int.emod_def ..
    have e3 : u / 2 / P = u / (2 * P) := (by rw [Int.ediv_ediv, if_neg (by omega)]; omega)
    rw [e2, e3, e, Int.mul_assoc]
    omega
theorem rd_cons0 (b : Int) (bs : List Int) : rd (b :: bs) 0 = b := rfl
theorem rd_consS (b : Int) (bs : List Int) (i : Nat) : rd (b :: bs) ((i + 1 : Nat) : Int) = rd bs (i : Int) := by
  unfold rd; simp
theorem bl_bts (n : Nat) (u : Int) : Bts (bl n u) := by
  induction n generalizing u with
  | zero => intro i; left; unfold rd; simp [bl]
  | succ n ih =>
    intro i
    cases i with
    | zero => rw [bl]; show u % 2 = 0 ∨ u % 2 = 1; omega
    | succ i => rw [bl, rd_consS]; exact ih _ i
theorem val_append (P H : List Int) : val (P ++ H) = val P + 2 ^ P.length * val H := by
  induction P with
  | nil => simp [val]
  | cons b P ih =>
    rw [List.cons_append, val, val, ih, List.length_cons, Int.pow_succ, Int.mul_add, Int.mul_comm (2 ^ P.length) 2, Int.mul_assoc]
    omega
theorem val_bd (L : List Int) (h : Bts L) : 0 ≤ val L ∧ val L < 2 ^ L.length := by
  induction L with
  | nil => simp [val]
  | cons b L ih =>
    have h0 := h 0
    have hb : b = 0 ∨ b = 1 := h0
    have ih := ih (fun i => by have := h (i + 1); rwa [rd_consS] at this)
    rw [val, List.length_cons, Int.pow_succ]
    omega
theorem rd_app_l (P H : List Int) (i : Nat) (h : i < P.length) : rd (P ++ H) (i : Int) = rd P (i : Int) := by
  unfold rd
  rw [Int.toNat_natCast, List.getD_eq_getElem?_getD, List.getD_eq_getElem?_getD, List.getElem?_append_left h]
theorem rd_app_r (P H : List Int) (i : Nat) : rd (P ++ H) ((P.length + i : Nat) : Int) = rd H (i : Int) := by
  unfold rd
  rw [Int.toNat_natCast, Int.toNat_natCast, List.getD_eq_getElem?_getD, List.getD_eq_getElem?_getD, List.getElem?_append_right (by omega), Nat.add_sub_cancel_left]

theorem tm2 {u : Int} (h0 : 0 ≤ u) : Int.tmod u 2 = u % 2 ∧ Int.tdiv u 2 = u / 2 := ⟨Int.tmod_eq_emod_of_nonneg h0, Int.tdiv_eq_ediv_of_nonneg h0⟩
theorem wu {u : Int} (h0 : 0 ≤ u) (h1 : u < 18446744073709551616) : IntKind.u64.wrap u = u := by rw [IntKind.wrap_u64]; omega
theorem bits_l1 (n : Nat) : ∀ (k : Nat) (p : List Int) (u j : Int), n < k → 0 ≤ u → u < 18446744073709551616 → j = 64 - n → 0 ≤ j → p.length + n < 1000 →
    spec_l02Bits.l1 k p u j = some (p ++ bl n u) := by
  induction n with
  | zero =>
    intro k p u j hk h0 h1 hj hj0 hp
    obtain ⟨k, rfl⟩ : ∃ m, k = m + 1 := ⟨k - 1, by omega⟩
    rw [spec_l02Bits.l1, if_neg (by omega), bl, List.append_nil]
  | succ n ih =>
    intro k p u j hk h0 h1 hj hj0 hp
    obtain ⟨k, rfl⟩ : ∃ m, k = m + 1 := ⟨k - 1, by omega⟩
    rw [spec_l02Bits.l1, if_pos (by omega), if_pos (by omega), (tm2 h0).1, (tm2 h0).2, w64 (by omega) (by omega), wu (by omega) (by omega), w64 (by omega) (by omega)]
    rw [ih k _ _ _ (by omega) (by omega) (by omega) (by omega) (by omega) (by rw [List.length_append, List.length_singleton]; omega), bl, List.append_assoc, List.singleton_append]
theorem bits_l0 (n : Nat) : ∀ (k : Nat) (p : List Int) (u j h l : Int), n + 65 < k → 0 ≤ u → u < 18446744073709551616 → j = 64 - n → 0 ≤ j → p.length + n < 500 →
    spec_l02Bits.l0 k p u j h l = some ((p ++ bl n u) ++ bl 64 (h % 18446744073709551616)) := by
  induction n with
  | zero =>
    intro k p u j h l hk h0 h1 hj hj0 hp
    obtain ⟨k, rfl⟩ : ∃ m, k = m + 1 := ⟨k - 1, by omega⟩
    rw [spec_l02Bits.l0, if_neg (by omega), bl, List.append_nil, IntKind.wrap_u64, bits_l1 64 k _ _ _ (by omega) (by omega) (by omega) (by omega) (by omega) (by omega)]
  | succ n ih =>
    intro k p u j h l hk h0 h1 hj hj0 hp
    obtain ⟨k, rfl⟩ : ∃ m, k = m + 1 := ⟨k - 1, by omega⟩
    rw [spec_l02Bits.l0, if_pos (by omega), if_pos (by omega), (tm2 h0).1, (tm2 h0).2, w64 (by omega) (by omega), wu (by omega) (by omega), w64 (by omega) (by omega)]
    rw [ih k _ _ _ h l (by omega) (by omega) (by omega) (by omega) (by omega) (by rw [List.length_append, List.length_singleton]; omega), bl.eq_2 u n, List.append_assoc p, List.singleton_append]
theorem Bts_app {P H : List Int} (hP : Bts P) (hH : Bts H) : Bts (P ++ H) := by
  intro i
  by_cases c : i < P.length
  · rw [rd_app_l _ _ _ c]; exact hP i
  · have := rd_app_r P H (i - P.length)
    rw [show P.length + (i - P.length) = i by omega] at this
    rw [this]; exact hH _
def un (v : Int) : Int := v % 340282366920938463463374607431768211456
theorem Bits_ev (v : Int) {k : Nat} (hk : 130 < k) : ∃ L, spec_l02Bits.f k (hi v) (lo v) = some L ∧ L.length = 128 ∧ Bts L ∧ val L = un v := by
  have hl := lo_U v
  unfold U64 at hl
  unfold spec_l02Bits.f
  rw [bits_l0 64 k _ _ _ _ _ (by omega) hl.1 hl.2 (by omega) (by omega) (by simp)]
  refine ⟨_, rfl, ?_, ?_, ?_⟩
  · simp only [List.length_append, bl_len, List.length_nil]
  · exact Bts_app (Bts_app (by intro i; left; unfold rd; simp) (bl_bts _ _)) (bl_bts _ _)
  · rw [List.nil_append, val_append, bl_len, bl_val, bl_val]
    rw [show (2 : Int) ^ 64 = 18446744073709551616 by decide]
    unfold un hi lo; omega
theorem drop_rd (L : List Int) (i : Nat) (h : i < L.length) : L.drop i = rd L (i : Int) :: L.drop (i + 1) := by
  rw [List.drop_eq_getElem_cons h]
  congr 1
  unfold rd
  rw [Int.toNat_natCast, List.getD_eq_getElem?_getD, List.getElem?_eq_getElem h, Option.getD_some]
theorem val_drop (L : List Int) (i : Nat) (h : i < L.length) : val (L.drop i) = rd L (i : Int) + 2 * val (L.drop (i + 1)) := by
  rw [drop_rd L i h, val]
theorem rd_set_same (Q : List Int) (i : Nat) (v : Int) (h : i < Q.length) : rd (Q.set i v) (i : Int) = v := by
  unfold rd; rw [Int.toNat_natCast, List.getD_eq_getElem?_getD, List.getElem?_set_self h, Option.getD_some]
theorem rd_set_ne (Q : List Int) (i j : Nat) (v : Int) (h : i ≠ j) : rd (Q.set i v) (j : Int) = rd Q (j : Int) := by
  unfold rd; rw [Int.toNat_natCast, List.getD_eq_getElem?_getD, List.getD_eq_getElem?_getD, List.getElem?_set_ne h]
theorem Divide_l0 (n : Int) (hn : 1 ≤ n) (hn2 : n ≤ 1000000) (L : List Int) (hL : L.length = 128) (hB : Bts L) (i : Nat) : ∀ (k : Nat) (Q : List Int) (r j : Int), i < k → j = i - 1 → i ≤ 128 →
    Q.length = 128 → Bts Q → 0 ≤ r → r < n → (∀ t : Nat, t < i → rd Q (t : Int) = 0) → val (Q.drop i) * n + r = val (L.drop i) →
    ∃ Q' r', spec_l02Divide.l0 k L n Q r j = some (Q', r') ∧ Q'.length = 128 ∧ Bts Q' ∧ 0 ≤ r' ∧ r' < n ∧ val Q' * n + r' = val L := by
  induction i with
  | zero =>
    intro k Q r j hk hj hi hQ hBQ h0 h1 hz hv
    obtain ⟨k, rfl⟩ : ∃ m, k = m + 1 := ⟨k - 1, by omega⟩
    rw [spec_l02Divide.l0, if_neg (by omega)]
    exact ⟨Q, r, rfl, hQ, hBQ, h0, h1, hv⟩
  | succ i ih =>
    intro k Q r j hk hj hi hQ hBQ h0 h1 hz hv
    obtain ⟨k, rfl⟩ : ∃ m, k = m + 1 := ⟨k - 1, by omega⟩
    obtain rfl : j = (i : Int) := by omega
    have hb : 0 ≤ rd L (i : Int) ∧ rd L (i : Int) ≤ 1 := by have := hB i; omega
    have hLd := val_drop L i (by omega)
    have hQd := val_drop Q i (by omega)
    rw [hz i (by omega)] at hQd
    have e1 : wrap64 (2 * r) = 2 * r := w64 (by omega) (by omega)
    have e2 : wrap64 (2 * r + rd L (i : Int)) = 2 * r + rd L (i : Int) := w64 (by omega) (by omega)
    rw [spec_l02Divide.l0, if_pos (by omega), if_pos (by omega), if_pos (by omega), e1, e2]
    by_cases c : 2 * r + rd L (i : Int) ≥ n
    · rw [if_pos c, if_pos (by omega), w64 (n := (2 * r + rd L (i : Int)) - n) (by omega) (by omega), w64 (n := (i : Int) - 1) (by omega) (by omega), Int.toNat_natCast]
      refine ih k _ _ _ (by omega) rfl (by omega) (by rw [List.length_set]; exact hQ) ?_ (by omega) (by omega) ?_ ?_
      · intro t
        by_cases d : i = t
        · subst d; right; exact rd_set_same _ _ _ (by omega)
        · rw [rd_set_ne _ _ _ _ d]; exact hBQ t
      · intro t ht; rw [rd_set_ne _ _ _ _ (by omega)]; exact hz t (by omega)
      · rw [val_drop _ i (by rw [List.length_set]; omega), rd_set_same _ _ _ (by omega), List.drop_set_of_lt (by omega), hLd, ← hv, Int.add_mul, Int.mul_assoc]
        omega
    · rw [if_neg c, w64 (n := (i : Int) - 1) (by omega) (by omega)]
      refine ih k _ _ _ (by omega) rfl (by omega) hQ hBQ (by omega) (by omega) (fun t ht => hz t (by omega)) ?_
      rw [hQd, hLd, ← hv, Int.zero_add, Int.mul_assoc]
      omega
theorem val_rep (n : Nat) : val (List.replicate n 0) = 0 := by
  induction n with
  | zero => rfl
  | succ n ih => rw [List.replicate_succ, val, ih]; rfl
theorem rd_rep (n : Nat) (i : Int) : rd (List.replicate n 0) i = 0 := by
  unfold rd; rw [List.getD_eq_getElem?_getD, List.getElem?_replicate]; split <;> rfl
theorem Divide_ev {n : Int} (hn : 1 ≤ n) (hn2 : n ≤ 1000000) {L : List Int} (hL : L.length = 128) (hB : Bts L) {k : Nat} (hk : 128 < k) :
    ∃ Q r, spec_l02Divide.f k L n = some (Q, r) ∧ Q.length = 128 ∧ Bts Q ∧ val Q = val L / n ∧ r = val L % n := by
  unfold spec_l02Divide.f
  rw [if_pos (by decide)]
  obtain ⟨Q, r, e, h1, h2, h3, h4, h5⟩ := Divide_l0 n hn hn2 L hL hB 128 k (List.replicate 128 0) 0 127 hk (by omega) (by omega) List.length_replicate (fun i => Or.inl (rd_rep _ _)) (by omega) (by omega)
    (fun i _ => rd_rep _ _)
    (by rw [List.drop_of_length_le (by rw [List.length_replicate]; omega), List.drop_of_length_le (by omega), show val [] = 0 from rfl, Int.zero_mul]; rfl)
  refine ⟨Q, r, e, h1, h2, ?_⟩
  have := (Int.ediv_emod_unique (a := val L) (b := n) (r := r) (q := val Q) (by omega)).2 ⟨by rw [← h5, Int.mul_comm]; omega, h3, h4⟩
  exact ⟨this.1.symm, this.2.symm⟩

theorem drop_bts (Q : List Int) (hB : Bts Q) (i : Nat) : Bts (Q.drop i) := by
  intro j
  have : rd (Q.drop i) (j : Int) = rd Q ((i + j : Nat) : Int) := by
    unfold rd; rw [Int.toNat_natCast, Int.toNat_natCast, List.getD_eq_getElem?_getD, List.getD_eq_getElem?_getD, List.getElem?_drop]
  rw [this]; exact hB _
theorem Wide_l0 (P H : List Int) (hP : P.length = 64) (hH : H.length = 64) (hBP : Bts P) (hBH : Bts H) (i : Nat) : ∀ (k : Nat) (x y j : Int), i < k → j = i - 1 → i ≤ 64 →
    x = val (P.drop i) → y = val (H.drop i) → spec_l02Wide.l0 k (P ++ H) x y j = some (wrap64 (val H), val P) := by
  induction i with
  | zero =>
    intro k x y j hk hj hi hx hy
    obtain ⟨k, rfl⟩ : ∃ m, k = m + 1 := ⟨k - 1, by omega⟩
    rw [spec_l02Wide.l0, if_neg (by omega), hx, hy]; rfl
  | succ i ih =>
    intro k x y j hk hj hi hx hy
    obtain ⟨k, rfl⟩ : ∃ m, k = m + 1 := ⟨k - 1, by omega⟩
    obtain rfl : j = (i : Int) := by omega
    have hl : (P ++ H).length = 128 := by rw [List.length_append]; omega
    have e1 : rd (P ++ H) (i : Int) = rd P (i : Int) := rd_app_l _ _ _ (by omega)
    have e2 : rd (P ++ H) (64 + (i : Int)) = rd H (i : Int) := by
      have := rd_app_r P H i
      rw [hP] at this
      rw [← this]; congr 1
    have b1 := val_bd _ (drop_bts P hBP i)
    have b2 := val_bd _ (drop_bts H hBH i)
    rw [List.length_drop] at b1 b2
    have p64 : ∀ m : Nat, m ≤ 64 → (2 : Int) ^ m ≤ 18446744073709551616 := by
      intro m hm
      have h1 : (2 : Nat) ^ m ≤ 2 ^ 64 := Nat.pow_le_pow_right (by decide) hm
      have h2 : (2 : Int) ^ m = ((2 ^ m : Nat) : Int) := by simp
      rw [h2]
      omega
    have q1 := p64 (P.length - i) (by omega)
    have q2 := p64 (H.length - i) (by omega)
    rw [val_drop _ _ (by omega)] at b1 b2
    have c1 := hBP i
    have c2 := hBH i
    have d1 := (val_bd _ (drop_bts P hBP (i + 1))).1
    have d2 := (val_bd _ (drop_bts H hBH (i + 1))).1
    rw [← hx] at b1 d1
    rw [← hy] at b2 d2
    rw [spec_l02Wide.l0, w64 (n := 64 + (i : Int)) (by omega) (by omega), if_pos (by omega), if_pos (by omega), if_pos (by omega), if_pos (by omega), if_pos (by omega), e1, e2,
      wu (u := 2 * x) (by omega) (by omega), wu (u := 2 * y) (by omega) (by omega), wu (u := rd P (i : Int)) (by omega) (by omega), wu (u := rd H (i : Int)) (by omega) (by omega),
      wu (u := 2 * x + rd P (i : Int)) (by omega) (by omega), wu (u := 2 * y + rd H (i : Int)) (by omega) (by omega), w64 (n := (i : Int) - 1) (by omega) (by omega)]
    exact ih k _ _ _ (by omega) rfl (by omega) (by rw [val_drop P i (by omega), hx]; omega) (by rw [val_drop H i (by omega), hy]; omega)
-- a number below 2^128 as the wide number tells it
def sg (u : Int) : Int := if u = 170141183460469231731687303715884105728 then -170141183460469231731687303715884105728 else u
theorem Wide_ev {Q : List Int} (hQ : Q.length = 128) (hB : Bts Q) (hv : val Q ≤ 170141183460469231731687303715884105728) {k : Nat} (hk : 64 < k) :
    spec_l02Wide.f k Q = some (hi (sg (val Q)), lo (sg (val Q))) := by
  have hB1 : Bts (Q.take 64) := by
    intro i
    unfold rd
    rw [Int.toNat_natCast, List.getD_eq_getElem?_getD, List.getElem?_take]
    split
    · have := hB i; unfold rd at this; rw [Int.toNat_natCast, List.getD_eq_getElem?_getD] at this; exact this
    · left; rfl
  have hB2 := drop_bts Q hB 64
  have l1 : (Q.take 64).length = 64 := by rw [List.length_take]; omega
  have l2 : (Q.drop 64).length = 64 := by rw [List.length_drop]; omega
  have e := Wide_l0 (Q.take 64) (Q.drop 64) l1 l2 hB1 hB2 64 k 0 0 63 hk (by omega) (by omega) (by rw [List.drop_of_length_le (by omega)]; rfl) (by rw [List.drop_of_length_le (by omega)]; rfl)
  have ev := val_append (Q.take 64) (Q.drop 64)
  have b1 := val_bd _ hB1
  have b2 := val_bd _ hB2
  rw [l1, show (2 : Int) ^ 64 = 18446744073709551616 by decide] at ev b1
  rw [List.take_append_drop] at ev e
  unfold spec_l02Wide.f
  rw [e, ev]
  rw [ev] at hv
  generalize val (Q.take 64) = p at *
  generalize val (Q.drop 64) = h at *
  unfold sg
  congr 2
  · unfold hi wrap64; split <;> omega
  · unfold lo; split <;> omega
/-! the spec's mean -/
def mean (v n : Int) : Int × Bool := if H64 (v / n) then (v / n, true) else (0, false)
theorem div_neg_exact {u n : Int} (hn : 1 ≤ n) (hu : 0 ≤ u) (h : u % n = 0) : (-u) / n = -(u / n) := by
  have e := Int.mul_ediv_add_emod u n
  rw [h, Int.add_zero] at e
  have := (Int.ediv_emod_unique (a := -u) (b := n) (r := 0) (q := -(u / n)) (by omega)).2 ⟨by rw [Int.mul_neg, e]; omega, by omega, by omega⟩
  exact this.1
theorem div_neg_in {u n : Int} (hn : 1 ≤ n) (hu : 0 ≤ u) (h : 0 < u % n) : (-u) / n = -(u / n) - 1 := by
  have e := Int.mul_ediv_add_emod u n
  have l := Int.emod_lt_of_pos u (b := n) (by omega)
  have := (Int.ediv_emod_unique (a := -u) (b := n) (r := n - u % n) (q := -(u / n) - 1) (by omega)).2 ⟨by rw [Int.mul_sub, Int.mul_neg, Int.mul_one]; omega, by omega, by omega⟩
  exact this.1
theorem div_le {u n : Int} (hn : 1 ≤ n) (hu : 0 ≤ u) : 0 ≤ u / n ∧ u / n ≤ u :=
  ⟨Int.ediv_nonneg hu (by omega), Int.ediv_le_self _ hu⟩
theorem specMean_bad (k : Nat) (a b n : Int) (h : n < 1 ∨ n > 1000000) : spec_WideMean.f (k + 1) a b n = some (0, false) := by
  unfold spec_WideMean.f
  by_cases c : n < 1
  · rw [if_pos c, spec_WideMean.j0, if_pos rfl]
  · rw [if_neg c, spec_WideMean.j0, if_pos (decide_eq_true (by omega))]
theorem specMean_ev {v n : Int} (hv : R128 v) (hn : 1 ≤ n) (hn2 : n ≤ 1000000) {k : Nat} (hk : 200 < k) : spec_WideMean.f k (hi v) (lo v) n = some (mean v n) := by
  obtain ⟨k, rfl⟩ : ∃ m, k = m + 1 := ⟨k - 1, by omega⟩
  unfold spec_WideMean.f
  rw [if_neg (by omega), decide_eq_false (by omega), spec_WideMean.j0, if_neg (by decide)]
  have hpos : hi v ≥ 0 ↔ v ≥ 0 := by unfold hi; omega
  by_cases c : v ≥ 0
  · rw [if_pos (hpos.2 c)]
    obtain ⟨L, e1, hL, hB, hvL⟩ := Bits_ev v (k := k) (by omega)
    obtain ⟨Q, r, e2, hQ, hBQ, hq, hr⟩ := Divide_ev hn hn2 hL hB (k := k) (by omega)
    have hu : un v = v := by unfold un; unfold R128 at hv; omega
    rw [hvL, hu] at hq hr
    have hd := div_le hn c
    rw [e1, Option.bind_some, e2, Option.bind_some]
    dsimp only
    unfold R128 at hv
    rw [Wide_ev hQ hBQ (by omega) (k := k) (by omega), Option.bind_some]
    dsimp only
    have hs : sg (val Q) = v / n := by unfold sg; rw [if_neg (by omega), hq]
    rw [hs, specInt_ev (by unfold R128; omega), Option.bind_some]
    rfl
  · rw [if_neg (fun h => c (hpos.1 h)), specNeg_ev hv, Option.bind_some]
    dsimp only
    obtain ⟨L, e1, hL, hB, hvL⟩ := Bits_ev (neg v) (k := k) (by omega)
    obtain ⟨Q, r, e2, hQ, hBQ, hq, hr⟩ := Divide_ev hn hn2 hL hB (k := k) (by omega)
    have hu : un (neg v) = -v := by unfold un neg; unfold R128 at hv; split <;> omega
    rw [hvL, hu] at hq hr
    have hd := div_le (u := -v) hn (by omega)
    unfold R128 at hv
    have hs : neg (sg (val Q)) = -(-v / n) := by unfold sg neg; rw [hq]; split <;> split <;> omega
    have hsr : R128 (sg (val Q)) := by unfold sg R128; split <;> omega
    rw [e1, Option.bind_some, e2, Option.bind_some]
    dsimp only
    rw [Wide_ev hQ hBQ (by omega) (k := k) (by omega), Option.bind_some]
    dsimp only
    rw [specNeg_ev hsr, hs, Option.bind_some]
    dsimp only
    by_cases d : r > 0
    · rw [if_pos d]
      have hm := div_neg_in (u := -v) hn (by omega) (by omega)
      rw [Int.neg_neg] at hm
      have hn2 : n ≠ 1 := by rintro rfl; rw [Int.emod_one] at hr; omega
      have hq2 : -v / n ≤ -v / 2 := by
        have := Int.ediv_emod_unique (a := -v) (b := n) (r := (-v) % n) (q := (-v) / n) (by omega)
        have e := Int.mul_ediv_add_emod (-v) n
        have l := Int.emod_nonneg (-v) (b := n) (by omega)
        have : 2 * (-v / n) ≤ n * (-v / n) := Int.mul_le_mul_of_nonneg_right (by omega) hd.1
        omega
      rw [specOf_ev (by unfold H64; omega), Option.bind_some]
      dsimp only
      rw [specAdd_ev (by unfold R128; omega), Option.bind_some]
      dsimp only
      rw [show -(-v / n) + -1 = v / n by omega, specInt_ev (by unfold R128; omega), Option.bind_some]
      rfl
    · rw [if_neg d]
      have hm := div_neg_exact (u := -v) hn (by omega) (by have := Int.emod_nonneg (-v) (b := n) (by omega); omega)
      rw [Int.neg_neg] at hm
      rw [← hm, specInt_ev (by unfold R128; omega), Option.bind_some]
      rfl
/-! the machine's division -/
def tbl : ByteArray := (⟨#[0, 1, 2, 2, 3, 3, 3, 3, 4, 4, 4, 4, 4, 4, 4, 4, 5, 5, 5, 5, 5, 5, 5, 5, 5, 5, 5, 5, 5, 5, 5, 5, 6, 6, 6, 6, 6, 6, 6, 6, 6, 6, 6, 6, 6, 6, 6, 6, 6, 6, 6, 6, 6, 6, 6, 6, 6, 6, 6, 6, 6, 6, 6, 6, 7, 7, 7, 7, 7, 7, 7, 7, 7, 7, 7, 7, 7, 7, 7, 7, 7, 7, 7, 7, 7, 7, 7, 7, 7, 7, 7, 7, 7, 7, 7, 7, 7, 7, 7, 7, 7, 7, 7, 7, 7, 7, 7, 7, 7, 7, 7, 7, 7, 7, 7, 7, 7, 7, 7, 7, 7, 7, 7, 7, 7, 7, 7, 7, 8, 8, 8, 8, 8, 8, 8, 8, 8, 8, 8, 8, 8, 8, 8, 8, 8, 8, 8, 8, 8, 8, 8, 8, 8, 8, 8, 8, 8, 8, 8, 8, 8, 8, 8, 8, 8, 8, 8, 8, 8, 8, 8, 8, 8, 8, 8, 8, 8, 8, 8, 8, 8, 8, 8, 8, 8, 8, 8, 8, 8, 8, 8, 8, 8, 8, 8, 8, 8, 8, 8, 8, 8, 8, 8, 8, 8, 8, 8, 8, 8, 8, 8, 8, 8, 8, 8, 8, 8, 8, 8, 8, 8, 8, 8, 8, 8, 8, 8, 8, 8, 8, 8, 8, 8, 8, 8, 8, 8, 8, 8, 8, 8, 8, 8, 8, 8, 8, 8, 8, 8, 8, 8, 8, 8, 8, 8, 8]⟩ : ByteArray)
theorem Len_j0 (k : Nat) (x0 x2 : Int) : bits_Len64.j0 (k + 1) x0 x2 = (if x0 ≥ 65536 then (if (x0 / 65536) ≥ 256 then (if 0 ≤ (((x0 / 65536) / 256) % 256) then (if (((x0 / 65536) / 256) % 256) < 256 then (some (wrap64 ((wrap64 ((wrap64 (x2 + 16)) + 8)) + (wrap64 (bt tbl (((x0 / 65536) / 256) % 256)))))) else (none)) else (none)) else (if 0 ≤ ((x0 / 65536) % 256) then (if ((x0 / 65536) % 256) < 256 then (some (wrap64 ((wrap64 (x2 + 16)) + (wrap64 (bt tbl ((x0 / 65536) % 256)))))) else (none)) else (none))) else (if x0 ≥ 256 then (if 0 ≤ ((x0 / 256) % 256) then (if ((x0 / 256) % 256) < 256 then (some (wrap64 ((wrap64 (x2 + 8)) + (wrap64 (bt tbl ((x0 / 256) % 256)))))) else (none)) else (none)) else (if 0 ≤ ((x0) % 256) then (if ((x0) % 256) < 256 then (some (wrap64 (x2 + (wrap64 (bt tbl ((x0) % 256)))))) else (none)) else (none)))) := by
  rw [bits_Len64.j0]; rfl
theorem tbl_ok' : ∀ i : Fin 256, 0 ≤ bt tbl (i.val : Int) ∧ (bt tbl (i.val : Int)).toNat ≤ 8 ∧ i.val < 2 ^ (bt tbl (i.val : Int)).toNat ∧ (i.val < 16 → (bt tbl (i.val : Int)).toNat ≤ 4) := by
  decide +kernel
theorem tbl_ok {i : Int} (h0 : 0 ≤ i) (h : i < 256) : ∃ e : Nat, bt tbl i = (e : Int) ∧ e ≤ 8 ∧ i.toNat < 2 ^ e ∧ (i < 16 → e ≤ 4) := by
  obtain ⟨n, rfl⟩ : ∃ n : Nat, i = (n : Int) := ⟨i.toNat, by omega⟩
  obtain ⟨a, b, c, d⟩ := tbl_ok' ⟨n, by omega⟩
  refine ⟨(bt tbl (n : Int)).toNat, by rw [Int.toNat_of_nonneg a], b, by rw [Int.toNat_natCast]; exact c, fun h => d (by show n < 16; omega)⟩
theorem pow_add_n (a b : Nat) : (2 : Nat) ^ (a + b) = 2 ^ a * 2 ^ b := Nat.pow_add ..
theorem Len_ev {n : Int} (hn : 1 ≤ n) (hn2 : n ≤ 1000000) {k : Nat} (hk : 0 < k) : ∃ e : Nat, bits_Len64.f k n = some (e : Int) ∧ 1 ≤ e ∧ e ≤ 20 ∧ n.toNat < 2 ^ e := by
  obtain ⟨k, rfl⟩ : ∃ m, k = m + 1 := ⟨k - 1, by omega⟩
  unfold bits_Len64.f
  rw [if_neg (by omega), Len_j0]
  by_cases c1 : n ≥ 65536
  · obtain ⟨e, h1, h2, h3, h4⟩ := tbl_ok (i := n / 65536 % 256) (by omega) (by omega)
    have h4 := h4 (by omega)
    rw [if_pos c1, if_neg (by omega), if_pos (by omega), if_pos (by omega), h1, w64 (n := (e : Int)) (by omega) (by omega), w64 (n := 0 + 16) (by omega) (by omega), w64 (by omega) (by omega)]
    refine ⟨16 + e, by rw [show ((16 + e : Nat) : Int) = 0 + 16 + (e : Int) by omega], by omega, by omega, ?_⟩
    rw [pow_add_n, show (2 : Nat) ^ 16 = 65536 by decide]
    generalize (2 : Nat) ^ e = R at *
    omega
  by_cases c2 : n ≥ 256
  · obtain ⟨e, h1, h2, h3, h4⟩ := tbl_ok (i := n / 256 % 256) (by omega) (by omega)
    rw [if_neg c1, if_pos c2, if_pos (by omega), if_pos (by omega), h1, w64 (n := (e : Int)) (by omega) (by omega), w64 (n := 0 + 8) (by omega) (by omega), w64 (by omega) (by omega)]
    refine ⟨8 + e, by rw [show ((8 + e : Nat) : Int) = 0 + 8 + (e : Int) by omega], by omega, by omega, ?_⟩
    rw [pow_add_n, show (2 : Nat) ^ 8 = 256 by decide]
    generalize (2 : Nat) ^ e = R at *
    omega
  · obtain ⟨e, h1, h2, h3, h4⟩ := tbl_ok (i := n % 256) (by omega) (by omega)
    have hm : n % 256 = n := by omega
    rw [hm] at h3
    rw [if_neg c1, if_neg c2, if_pos (by omega), if_pos (by omega), h1, w64 (n := (e : Int)) (by omega) (by omega), w64 (by omega) (by omega)]
    refine ⟨e, by rw [show 0 + (e : Int) = (e : Int) by omega], ?_, by omega, h3⟩
    rcases e with _ | e
    · simp at h3; omega
    · omega
theorem Lz_ev {n : Int} (hn : 1 ≤ n) (hn2 : n ≤ 1000000) {k : Nat} (hk : 0 < k) : ∃ e : Nat, bits_LeadingZeros64.f k n = some (64 - (e : Int)) ∧ 1 ≤ e ∧ e ≤ 20 ∧ n.toNat < 2 ^ e := by
  obtain ⟨e, h1, h2, h3, h4⟩ := Len_ev hn hn2 hk
  refine ⟨e, ?_, h2, h3, h4⟩
  unfold bits_LeadingZeros64.f
  rw [h1, Option.bind_some, w64 (by omega) (by omega)]
theorem u0' (x : Int) : 0 ≤ IntKind.u64.wrap x := by rw [IntKind.wrap_u64]; omega
theorem loop_ev {Y D u1 u0 s : Int} (hY : 1 ≤ Y) (hY2 : Y < 4294967296) (hD0 : 0 ≤ D) (hD : D < Y * 4294967296) (h1 : 0 ≤ u1 ∧ u1 < 4294967296) (h0 : 0 ≤ u0 ∧ u0 < 4294967296) (hs : 0 ≤ s) {k : Nat} (hk : 5 < k) :
    bits_Div64.l0 k (Y * 4294967296) s Y 0 D u1 u0 (IntKind.u64.wrap (Int.tdiv D Y)) (IntKind.u64.wrap (D - IntKind.u64.wrap (IntKind.u64.wrap (Int.tdiv D Y) * Y)))
    = some (D / Y * 4294967296 + (D % Y * 4294967296 + u1) / Y, shr .u64 ((D % Y * 4294967296 + u1) % Y * 4294967296 + u0) s) := by
  obtain ⟨k, rfl⟩ : ∃ m, k = m + 5 := ⟨k - 5, by omega⟩
  have eD := Int.mul_ediv_add_emod D Y
  have r1 := Int.emod_nonneg D (b := Y) (by omega)
  have r1' := Int.emod_lt_of_pos D (b := Y) (by omega)
  have q1 : 0 ≤ D / Y := Int.ediv_nonneg hD0 (by omega)
  have q1' : D / Y < 4294967296 := Int.ediv_lt_of_lt_mul (by omega) (by rw [Int.mul_comm]; exact hD)
  rw [Int.tdiv_eq_ediv_of_nonneg hD0]
  generalize D / Y = a at *
  generalize D % Y = b at *
  have eV := Int.mul_ediv_add_emod (b * 4294967296 + u1) Y
  have r2 := Int.emod_nonneg (b * 4294967296 + u1) (b := Y) (by omega)
  have r2' := Int.emod_lt_of_pos (b * 4294967296 + u1) (b := Y) (by omega)
  have q2 : 0 ≤ (b * 4294967296 + u1) / Y := Int.ediv_nonneg (by omega) (by omega)
  have q2' : (b * 4294967296 + u1) / Y < 4294967296 := Int.ediv_lt_of_lt_mul (by omega) (by omega)
  have eq0 : Int.tdiv (b * 4294967296 + u1) Y = (b * 4294967296 + u1) / Y := Int.tdiv_eq_ediv_of_nonneg (by omega)
  have m1 : a * (Y * 4294967296) = (Y * a) * 4294967296 := by rw [← Int.mul_assoc, Int.mul_comm a Y]
  generalize Y * a = c at *
  have v21 : IntKind.u64.wrap (IntKind.u64.wrap (IntKind.u64.wrap (D * 4294967296) + u1) - IntKind.u64.wrap (c * 4294967296)) = b * 4294967296 + u1 := by
    simp only [IntKind.wrap_u64]; omega
  rw [wu (u := a) (by omega) (by omega), bits_Div64.l0, if_neg (by omega), Int.mul_zero, show IntKind.u64.wrap 0 = 0 by decide, decide_eq_false (by have := u0' (IntKind.u64.wrap (4294967296 * IntKind.u64.wrap (D - IntKind.u64.wrap (a * Y))) + u1); omega),
    bits_Div64.j1, if_neg (by decide), bits_Div64.j2, if_neg (by omega)]
  rw [m1, v21, eq0]
  generalize (b * 4294967296 + u1) / Y = d at *
  generalize (b * 4294967296 + u1) % Y = e at *
  have m2 : d * (Y * 4294967296) = (Y * d) * 4294967296 := by rw [← Int.mul_assoc, Int.mul_comm d Y]
  generalize Y * d = f at *
  rw [wu (u := d) (by omega) (by omega), bits_Div64.l1, if_neg (by omega), Int.mul_zero, show IntKind.u64.wrap 0 = 0 by decide, decide_eq_false (by have := u0' (IntKind.u64.wrap (4294967296 * IntKind.u64.wrap (b * 4294967296 + u1 - IntKind.u64.wrap (d * Y))) + u0); omega),
    bits_Div64.j4, if_neg (by decide), if_pos hs, m2]
  have v22 : IntKind.u64.wrap (IntKind.u64.wrap (IntKind.u64.wrap ((b * 4294967296 + u1) * 4294967296) + u0) - IntKind.u64.wrap (f * 4294967296)) = e * 4294967296 + u0 := by
    simp only [IntKind.wrap_u64]; omega
  have v23 : IntKind.u64.wrap (IntKind.u64.wrap (a * 4294967296) + d) = a * 4294967296 + d := by
    simp only [IntKind.wrap_u64]; omega
  rw [v22, v23]
theorem shl_ev {x s : Int} {e : Nat} (hs : s = e) (he : e ≤ 64) : shl .u64 x s = (x * 2 ^ e) % 18446744073709551616 := by
  unfold shl
  rw [IntKind.wrap_u64, hs, Int.toNat_natCast, show IntKind.u64.bits = 64 from rfl, Nat.min_eq_left he]
theorem shr_ev {x s : Int} {e : Nat} (hs : s = e) (he : e ≤ 64) : shr .u64 x s = x / 2 ^ e := by
  unfold shr
  rw [hs, Int.toNat_natCast, show IntKind.u64.bits = 64 from rfl, Nat.min_eq_left he]
theorem and_lo {x : Int} (h0 : 0 ≤ x) (h : x < 18446744073709551616) : Go.bits .and .u64 x 4294967295 = x % 4294967296 :=
  bits_mask .u64 64 (by decide) (fun n a b => by rw [IntKind.wrap_u64]; omega) 32 (by decide) x h0 h
theorem or_join {a b : Int} {e : Nat} (ha : 0 ≤ a) (hb : 0 ≤ b) (hlt : b < 2 ^ e) (hs : a * 2 ^ e + b < 18446744073709551616) : Go.bits .or .u64 (a * 2 ^ e) b = a * 2 ^ e + b := by
  obtain ⟨m, rfl⟩ : ∃ n : Nat, a = (n : Int) := ⟨a.toNat, by omega⟩
  obtain ⟨n, rfl⟩ : ∃ n : Nat, b = (n : Int) := ⟨b.toNat, by omega⟩
  have e1 : (m : Int) * 2 ^ e = ((2 ^ e * m : Nat) : Int) := by rw [Nat.mul_comm]; simp
  have e2 : (2 : Int) ^ e = ((2 ^ e : Nat) : Int) := by simp
  rw [e1] at hs ⊢
  rw [e2] at hlt
  have hn : n < 2 ^ e := by omega
  rw [bits_or_u64_nat _ _ (by omega) (by omega), ← Nat.two_pow_add_eq_or_of_lt hn]
  omega
theorem pow_split {e : Nat} (he : 1 ≤ e) (he2 : e ≤ 20) : ∃ P' : Int, 0 < P' ∧ (2 : Int) ^ (64 - e) = P' * 4294967296 ∧ P' * 2 ^ e = 4294967296 := by
  refine ⟨2 ^ (32 - e), Int.pow_pos (by decide), ?_, ?_⟩
  · rw [show (4294967296 : Int) = 2 ^ 32 by decide, ← Int.pow_add]
    congr 1; omega
  · rw [show (4294967296 : Int) = 2 ^ 32 by decide, ← Int.pow_add]
    congr 1; omega
theorem quot_fin {T n P q rem : Int} (hn : 1 ≤ n) (hP : 0 < P) (h : T * P = q * (n * P) + rem) (h0 : 0 ≤ rem) (h1 : rem < n * P) : q = T / n ∧ rem / P = T % n := by
  have e : rem = (T - q * n) * P := by rw [Int.sub_mul, Int.mul_assoc]; omega
  have e2 : rem / P = T - q * n := by rw [e]; exact Int.mul_ediv_cancel _ (by omega)
  have r0 : 0 ≤ T - q * n := by rw [← e2]; exact Int.ediv_nonneg h0 (by omega)
  have r1 : T - q * n < n := by rw [← e2]; exact Int.ediv_lt_of_lt_mul hP h1
  have := (Int.ediv_emod_unique (a := T) (b := n) (r := T - q * n) (q := q) (by omega)).2 ⟨by rw [Int.mul_comm n q]; omega, r0, r1⟩
  exact ⟨this.1.symm, by rw [e2]; exact this.2.symm⟩
theorem Div64_ev {h l n : Int} (hn : 1 ≤ n) (hn2 : n ≤ 1000000) (h0 : 0 ≤ h) (h1 : h < n) (l0 : 0 ≤ l) (l1 : l < 18446744073709551616) {k : Nat} (hk : 6 < k) :
    bits_Div64.f k h l n = some ((h * 18446744073709551616 + l) / n, (h * 18446744073709551616 + l) % n) := by
  unfold bits_Div64.f
  rw [if_neg (by omega), if_neg (by omega)]
  by_cases c : h = 0
  · have d := div_le hn l0
    rw [if_pos c, Int.tdiv_eq_ediv_of_nonneg l0, Int.tmod_eq_emod_of_nonneg l0, wu d.1 (by omega), c, show 0 * 18446744073709551616 + l = l by omega]
  rw [if_neg c]
  obtain ⟨e, he, he1, he2, he3⟩ := Lz_ev hn hn2 (k := k) (by omega)
  rw [he, Option.bind_some, wu (u := 64 - (e : Int)) (by omega) (by omega), wu (u := 64 - (64 - (e : Int))) (by omega) (by omega), if_pos (by omega), if_pos (by omega)]
  obtain ⟨P', hP', p1, p2⟩ := pow_split he1 he2
  have hR : (2 : Int) ^ e = ((2 ^ e : Nat) : Int) := by simp
  have hnR : n < 2 ^ e := by rw [hR]; omega
  have hR2 : (2 : Int) ^ e ≤ 1048576 := by
    have : (2 : Nat) ^ e ≤ 2 ^ 20 := Nat.pow_le_pow_right (by decide) he2
    rw [hR]; omega
  have hR1 : (0 : Int) < 2 ^ e := Int.pow_pos (by decide)
  rw [shl_ev (x := n) (e := 64 - e) (by omega) (by omega), shl_ev (x := h) (e := 64 - e) (by omega) (by omega), shl_ev (x := l) (e := 64 - e) (by omega) (by omega), shr_ev (x := l) (s := 64 - (64 - (e : Int))) (e := e) (by omega) (by omega)]
  have nP : n * P' < 4294967296 := by rw [← p2, Int.mul_comm n]; exact Int.mul_lt_mul_of_pos_left hnR hP'
  have nP1 : 1 ≤ n * P' := by have := Int.mul_pos (a := n) (b := P') (by omega) hP'; omega
  have hPn : h * P' < n * P' := Int.mul_lt_mul_of_pos_right h1 hP'
  have hP0 : 0 ≤ h * P' := Int.mul_nonneg h0 (by omega)
  have hP1 : (h + 1) * P' ≤ n * P' := Int.mul_le_mul_of_nonneg_right (by omega) (by omega)
  have lR : l / 2 ^ e < P' * 4294967296 := by
    refine Int.ediv_lt_of_lt_mul hR1 ?_
    rw [Int.mul_right_comm, p2]; exact l1
  have lR0 : 0 ≤ l / 2 ^ e := Int.ediv_nonneg l0 (by omega)
  have lRm0 := Int.emod_nonneg l (b := 2 ^ e) (by omega)
  have lRm1 := Int.emod_lt_of_pos l (b := 2 ^ e) hR1
  have eL := Int.mul_ediv_add_emod l (2 ^ e)
  have ey : n * 2 ^ (64 - e) % 18446744073709551616 = (n * P') * 4294967296 := by
    rw [p1, ← Int.mul_assoc]; omega
  have eh : h * 2 ^ (64 - e) % 18446744073709551616 = h * 2 ^ (64 - e) := by
    rw [p1, ← Int.mul_assoc]; omega
  have hbig : h * 2 ^ (64 - e) + l / 2 ^ e < n * P' * 4294967296 := by
    rw [Int.add_mul, Int.one_mul] at hP1
    rw [p1, ← Int.mul_assoc]; omega
  have eD : Go.bits .or .u64 (h * 2 ^ (64 - e)) (l / 2 ^ e) = h * 2 ^ (64 - e) + l / 2 ^ e :=
    or_join h0 lR0 (by rw [p1]; exact lR) (by omega)
  have eu : l * 2 ^ (64 - e) % 18446744073709551616 = (l % 2 ^ e) * 2 ^ (64 - e) := by
    have a1 : l * 2 ^ (64 - e) = (l / 2 ^ e) * 18446744073709551616 + (l % 2 ^ e) * 2 ^ (64 - e) := by
      have : (2 ^ e * (l / 2 ^ e) + l % 2 ^ e) * 2 ^ (64 - e) = l * 2 ^ (64 - e) := by rw [eL]
      rw [← this, Int.add_mul, p1]
      congr 1
      rw [Int.mul_comm (2 ^ e) (l / 2 ^ e), Int.mul_assoc, ← Int.mul_assoc (2 ^ e) P', Int.mul_comm (2 ^ e) P', p2]
      rfl
    have a2 : (l % 2 ^ e) * 2 ^ (64 - e) < 18446744073709551616 := by
      have : (l % 2 ^ e) * P' < 2 ^ e * P' := Int.mul_lt_mul_of_pos_right lRm1 hP'
      rw [Int.mul_comm (2 ^ e) P', p2] at this
      rw [p1, ← Int.mul_assoc]; omega
    have a3 : 0 ≤ (l % 2 ^ e) * 2 ^ (64 - e) := Int.mul_nonneg lRm0 (by rw [p1]; omega)
    rw [a1]; omega
  have a1 : (l / 2 ^ e) * 18446744073709551616 + (l % 2 ^ e) * 2 ^ (64 - e) = l * 2 ^ (64 - e) := by
    have : (2 ^ e * (l / 2 ^ e) + l % 2 ^ e) * 2 ^ (64 - e) = l * 2 ^ (64 - e) := by rw [eL]
    rw [← this, Int.add_mul, p1]
    congr 1
    rw [Int.mul_comm (2 ^ e) (l / 2 ^ e), Int.mul_assoc, ← Int.mul_assoc (2 ^ e) P', Int.mul_comm (2 ^ e) P', p2]
    rfl
  have a2 := Int.emod_lt_of_pos (l * 2 ^ (64 - e)) (b := 18446744073709551616) (by decide)
  have a3 := Int.emod_nonneg (l * 2 ^ (64 - e)) (b := 18446744073709551616) (by decide)
  rw [ey, eh, eD, eu]
  rw [eu] at a2 a3
  have hy1 : n * P' * 4294967296 / 4294967296 = n * P' := by omega
  have hy0 : Go.bits .and .u64 (n * P' * 4294967296) 4294967295 = 0 := by rw [and_lo (by omega) (by omega)]; omega
  rw [hy1, hy0, and_lo a3 a2, if_neg (by omega)]
  have hDnn : 0 ≤ h * 2 ^ (64 - e) + l / 2 ^ e := by
    have : 0 ≤ h * 2 ^ (64 - e) := Int.mul_nonneg h0 (by rw [p1]; omega)
    omega
  rw [loop_ev nP1 nP hDnn hbig (by omega) (by omega) (by omega) (k := k) (by omega)]
  have hT : (h * 18446744073709551616 + l) * 2 ^ (64 - e) = (h * 2 ^ (64 - e) + l / 2 ^ e) * 18446744073709551616 + l % 2 ^ e * 2 ^ (64 - e) := by
    rw [Int.add_mul, ← a1, Int.add_mul, Int.mul_right_comm]; omega
  generalize h * 2 ^ (64 - e) + l / 2 ^ e = D at *
  generalize l % 2 ^ e * 2 ^ (64 - e) = U at *
  generalize hY : n * P' = Y at *
  have g1 := Int.mul_ediv_add_emod D Y
  have g2 := Int.emod_nonneg D (b := Y) (by omega)
  have g3 := Int.emod_lt_of_pos D (b := Y) (by omega)
  generalize D / Y = a at *
  generalize D % Y = b at *
  have g4 := Int.mul_ediv_add_emod (b * 4294967296 + U / 4294967296) Y
  have g5 := Int.emod_nonneg (b * 4294967296 + U / 4294967296) (b := Y) (by omega)
  have g6 := Int.emod_lt_of_pos (b * 4294967296 + U / 4294967296) (b := Y) (by omega)
  generalize (b * 4294967296 + U / 4294967296) / Y = d at *
  generalize (b * 4294967296 + U / 4294967296) % Y = f at *
  have z : (a * 4294967296 + d) * (Y * 4294967296) = (Y * a) * 18446744073709551616 + (Y * d) * 4294967296 := by
    rw [Int.add_mul, Int.mul_assoc a, Int.mul_left_comm 4294967296 Y, ← Int.mul_assoc a, ← Int.mul_assoc d, Int.mul_comm a Y, Int.mul_comm d Y]; rfl
  have fin := quot_fin (T := h * 18446744073709551616 + l) (n := n) (P := 2 ^ (64 - e)) (q := a * 4294967296 + d) (rem := f * 4294967296 + U % 4294967296) hn (by rw [p1]; omega)
    (by rw [hT, p1, ← Int.mul_assoc n P' 4294967296, hY, z]; omega)
    (by omega) (by rw [p1, ← Int.mul_assoc n P' 4294967296, hY]; omega)
  rw [shr_ev (e := 64 - e) (by omega) (by omega), fin.1, fin.2]
/-! the machine's mean -/
def big (v : Int) : Int := if v < 0 then -v else v
theorem size_ev {v : Int} (hv : R128 v) : impl_Wide_size.f (hi v) (lo v) = some (hi (big v), lo (big v)) := by
  unfold impl_Wide_size.f
  by_cases c : v < 0
  · rw [if_pos (by unfold hi; omega), implNeg_ev hv, Option.bind_some]
    dsimp only
    unfold big neg hi lo R128 at *
    rw [if_pos c, IntKind.wrap_u64]
    congr 2
    · split <;> omega
    · split <;> omega
  · rw [if_neg (by unfold hi; omega)]
    unfold big
    rw [if_neg c, wu (by unfold hi; omega) (by unfold hi R128 at *; omega)]
theorem mean_ev {v n : Int} (hn : 1 ≤ n) : v / n = if v < 0 then (if 0 < big v % n then -(big v / n) - 1 else -(big v / n)) else big v / n := by
  unfold big
  by_cases c : v < 0
  · simp only [if_pos c]
    by_cases d : 0 < -v % n
    · rw [if_pos d]
      have := div_neg_in (u := -v) hn (by omega) d
      rwa [Int.neg_neg] at this
    · rw [if_neg d]
      have := div_neg_exact (u := -v) hn (by omega) (by have := Int.emod_nonneg (-v) (b := n) (by omega); omega)
      rwa [Int.neg_neg] at this
  · simp only [if_neg c]
theorem mean_in {v n : Int} (h : H64 (v / n)) : mean v n = (v / n, true) := by unfold mean; rw [if_pos h]
theorem mean_out {v n : Int} (h : ¬ H64 (v / n)) : mean v n = (0, false) := by unfold mean; rw [if_neg h]
theorem implMean_bad (k : Nat) (a b n : Int) (h : n < 1 ∨ n > 1000000) : impl_WideMean.f k a b n = some (0, false) := by
  unfold impl_WideMean.f impl_in.f
  by_cases c : 1 ≤ n
  · rw [if_pos c, Option.bind_some, decide_eq_false (by omega), if_neg (by decide)]
  · rw [if_neg c, Option.bind_some, if_neg (by decide)]
theorem implMean_ev {v n : Int} (hv : R128 v) (hn : 1 ≤ n) (hn2 : n ≤ 1000000) {k : Nat} (hk : 10 < k) : impl_WideMean.f k (hi v) (lo v) n = some (mean v n) := by
  obtain ⟨k, rfl⟩ : ∃ m, k = m + 1 := ⟨k - 1, by omega⟩
  unfold impl_WideMean.f impl_in.f
  rw [if_pos hn, Option.bind_some, decide_eq_true hn2, if_pos rfl, size_ev hv, Option.bind_some]
  dsimp only
  rw [wu (u := n) (by omega) (by omega), if_neg (by omega)]
  have hM0 : 0 ≤ big v := by unfold big; split <;> omega
  have hM1 : big v ≤ 170141183460469231731687303715884105728 := by unfold big; unfold R128 at hv; split <;> omega
  have hme := mean_ev (v := v) hn
  have hc : (v < 0 ↔ hi v < 0) := by unfold hi; omega
  have h0 : 0 ≤ hi (big v) := by unfold hi; omega
  have h2 : hi (big v) ≤ 9223372036854775808 := by unfold hi; omega
  have hl := lo_U (big v)
  unfold U64 at hl
  have hVM := V_hl (big v)
  unfold V at hVM
  have m0 := Int.emod_nonneg (hi (big v)) (b := n) (by omega)
  have m1 := Int.emod_lt_of_pos (hi (big v)) (b := n) (by omega)
  have dv := div_le hn h0
  rw [Int.tmod_eq_emod_of_nonneg h0, Int.tdiv_eq_ediv_of_nonneg h0, Div64_ev hn hn2 m0 m1 hl.1 hl.2 (by omega), Option.bind_some]
  dsimp only
  rw [wu (u := hi (big v) / n) (by omega) (by omega)]
  have em := Int.mul_ediv_add_emod (hi (big v)) n
  by_cases c : hi (big v) / n = 0
  · rw [c, Int.mul_zero, Int.zero_add] at em
    have q1 : big v / n < 18446744073709551616 := Int.ediv_lt_of_lt_mul (by omega) (by omega)
    have q0 := (div_le hn hM0).1
    rw [if_pos c, em, hVM]
    have r0 := Int.emod_nonneg (big v) (b := n) (by omega)
    generalize big v / n = q at *
    generalize big v % n = r at *
    by_cases d : v < 0
    · rw [if_pos d] at hme
      have d' := hc.1 d
      rw [if_neg (by omega), impl_WideMean.j0, if_neg (by decide), if_neg (by omega)]
      by_cases e : r > 0
      · rw [if_pos e, IntKind.wrap_u64]
        rw [if_pos e] at hme
        by_cases f : (q + 1) % 18446744073709551616 = 0
        · rw [if_pos f, mean_out (by rw [hme]; unfold H64; omega)]
        rw [if_neg f]
        by_cases g : (q + 1) % 18446744073709551616 > 9223372036854775808
        · rw [if_pos g, mean_out (by rw [hme]; unfold H64; omega)]
        rw [if_neg g, mean_in (by rw [hme]; unfold H64; omega), hme]
        congr 2
        rw [IntKind.wrap_u64]; unfold wrap64; omega
      · rw [if_neg e]
        rw [if_neg (by omega)] at hme
        by_cases g : q > 9223372036854775808
        · rw [if_pos g, mean_out (by rw [hme]; unfold H64; omega)]
        rw [if_neg g, mean_in (by rw [hme]; unfold H64; omega), hme]
        congr 2
        rw [IntKind.wrap_u64]; unfold wrap64; omega
    · rw [if_neg d] at hme
      have d' : hi v ≥ 0 := by have := mt hc.2 d; omega
      rw [if_pos d', impl_WideMean.j0]
      by_cases e : q > 9223372036854775807
      · rw [decide_eq_true e, if_pos rfl, mean_out (by rw [hme]; unfold H64; omega)]
      · rw [decide_eq_false e, if_neg (by decide), if_pos d', mean_in (by rw [hme]; unfold H64; omega), hme, w64 (by omega) (by omega)]
  · rw [if_neg c, mean_out]
    have q1 : 18446744073709551616 ≤ big v / n := by
      rw [Int.le_ediv_iff_mul_le (by omega)]
      have : n * 1 ≤ n * (hi (big v) / n) := Int.mul_le_mul_of_nonneg_left (by omega) (by omega)
      omega
    rw [hme]; unfold H64
    split
    · split <;> omega
    · omega
/-! the law -/
theorem and_nat (m j : Nat) : m &&& 2 ^ j = 0 ↔ m.testBit j = false := by
  constructor
  · intro h
    have := congrArg (fun x => x.testBit j) h
    simpa [Nat.testBit_and, Nat.testBit_two_pow] using this
  · intro h
    apply Nat.eq_of_testBit_eq
    intro i
    rw [Nat.testBit_and, Nat.testBit_two_pow, Nat.zero_testBit]
    by_cases c : j = i
    · subst c; rw [h]; rfl
    · rw [decide_eq_false c, Bool.and_false]
theorem and_bit {n : Int} (h0 : 0 ≤ n) (h1 : n < 9223372036854775808) (j : Nat) (hj : j ≤ 40) : (Go.bits .and .i64 n (2 ^ j) = 0) ↔ n / 2 ^ j % 2 = 0 := by
  obtain ⟨m, rfl⟩ : ∃ m : Nat, n = (m : Int) := ⟨n.toNat, by omega⟩
  have e2 : (2 : Int) ^ j = ((2 ^ j : Nat) : Int) := by simp
  have hb : (2 : Nat) ^ j < 2 ^ 63 := Nat.pow_lt_pow_right (by decide) (by omega)
  rw [e2, (bits_nat .i64 63 (by decide) (fun n a b => by rw [IntKind.wrap_i64]; omega) m (2 ^ j) (by omega) hb).1]
  have e3 : (m : Int) / ((2 ^ j : Nat) : Int) % 2 = ((m / 2 ^ j % 2 : Nat) : Int) := by omega
  have e4 := and_nat m j
  rw [Nat.testBit_eq_decide_div_mod_eq, decide_eq_false_iff_not] at e4
  rw [e3]
  generalize m &&& 2 ^ j = x at *
  generalize m / 2 ^ j % 2 = y at *
  omega
theorem prod_R {m t : Int} (hm : H64 m) (h0 : 0 ≤ t) (h1 : t ≤ 1048576) : -9671406556917033397649408 ≤ m * t ∧ m * t ≤ 9671406556917033397649408 := by
  unfold H64 at hm
  have a : -9223372036854775808 * t ≤ m * t := Int.mul_le_mul_of_nonneg_right hm.1 h0
  have b : m * t ≤ 9223372036854775807 * t := Int.mul_le_mul_of_nonneg_right hm.2 h0
  omega
def half (j : Nat) : Int := match j with
  | 0 => 0
  | j + 1 => 2 ^ j
theorem half_td (j : Nat) (hj : j ≤ 40) : wrap64 (Int.tdiv (2 ^ j) 2) = half j := by
  cases j with
  | zero => rw [Int.pow_zero, show Int.tdiv 1 2 = 0 from rfl, w64 (by omega) (by omega)]; rfl
  | succ j =>
    have e2 : (2 : Int) ^ j = ((2 ^ j : Nat) : Int) := by simp
    have hb : (2 : Nat) ^ j ≤ 2 ^ 40 := Nat.pow_le_pow_right (by decide) (by omega)
    have hp : (0 : Int) < 2 ^ j := Int.pow_pos (by decide)
    show _ = (2 : Int) ^ j
    rw [Int.tdiv_eq_ediv_of_nonneg (Int.pow_nonneg (by decide)), Int.pow_succ, Int.mul_ediv_cancel _ (by decide), w64 (by omega) (by omega)]
theorem loop_law {v n m : Int} (hv : R128 v) (hn : 1 ≤ n) (hn2 : n ≤ 1000000) (hm : m = v / n) (hm2 : H64 m) (j : Nat) : ∀ (k : Nat), j + 8 < k → j ≤ 21 →
    laws_FnMean.l0 k n m (half j) (hi v) (lo v) (hi (m * (n / 2 ^ j))) (lo (m * (n / 2 ^ j))) = some true := by
  induction j with
  | zero =>
    intro k hk hj
    obtain ⟨k, rfl⟩ : ∃ m, k = m + 1 := ⟨k - 1, by omega⟩
    have hR := prod_R hm2 (t := n) (by omega) (by omega)
    have e1 := Int.mul_ediv_add_emod v n
    have e2 := Int.emod_nonneg v (b := n) (by omega)
    have e3 := Int.emod_lt_of_pos v (b := n) (by omega)
    rw [← hm, Int.mul_comm] at e1
    rw [laws_FnMean.l0, if_neg (show ¬ half 0 > 0 by show ¬ (0 : Int) > 0; omega), Int.pow_zero, Int.ediv_one, implOf_ev (by unfold H64; omega), Option.bind_some]
    dsimp only
    rw [implAdd_ev (by unfold R128; omega), Option.bind_some]
    dsimp only
    rw [cmp_ev _ _ (by omega), Option.bind_some]
    have f1 : (if m * n < v then (-1 : Int) else if m * n > v then 1 else 0) ≤ 0 := by
      split
      · omega
      · rw [if_neg (by omega)]; omega
    rw [if_pos f1, cmp_ev _ _ (by omega), Option.bind_some, if_pos (by omega)]
    rfl
  | succ j ih =>
    intro k hk hj
    obtain ⟨k, rfl⟩ : ∃ m, k = m + 1 := ⟨k - 1, by omega⟩
    have hp : (0 : Int) < 2 ^ j := Int.pow_pos (by decide)
    have hh : n / 2 ^ (j + 1) = n / 2 ^ j / 2 := by rw [Int.pow_succ, Int.ediv_ediv_of_nonneg (by omega)]
    have hx := div_le (u := n) (n := 2 ^ j) (by omega) (by omega)
    have hb := and_bit (n := n) (by omega) (by omega) j (by omega)
    rw [hh]
    have ih := ih k (by omega) (by omega)
    have htd := half_td j (by omega)
    have hhalf : half (j + 1) = 2 ^ j := rfl
    rw [hhalf]
    generalize (2 : Int) ^ j = P at *
    generalize n / P = t at *
    have hR := prod_R hm2 (t := t / 2) (by omega) (by omega)
    have hR2 := prod_R hm2 (t := t) (by omega) (by omega)
    rw [laws_FnMean.l0, if_pos (by omega), implAdd_ev (by unfold R128; omega), Option.bind_some]
    dsimp only
    have e2 : m * (t / 2) + m * (t / 2) = m * (2 * (t / 2)) := by rw [Int.mul_left_comm]; omega
    rw [e2]
    by_cases c : t % 2 = 0
    · rw [if_pos (hb.2 c), htd, show 2 * (t / 2) = t by omega]
      exact ih
    · have e3 : m * (2 * (t / 2)) + m = m * t := by
        have : m * t = m * (2 * (t / 2) + 1) := by congr 1; omega
        rw [this, Int.mul_add, Int.mul_one]
      rw [if_neg (fun h => c (hb.1 h)), implOf_ev hm2, Option.bind_some]
      dsimp only
      rw [implAdd_ev (by unfold R128; omega), Option.bind_some]
      dsimp only
      rw [e3, htd]
      exact ih
theorem law_ev {v n : Int} (hv : R128 v) (hn : H64 n) : ∃ r, spec_WideMean.f 300 (hi v) (lo v) n = some r ∧ impl_WideMean.f 300 (hi v) (lo v) n = some r ∧
    (r = (0, false) ∨ (1 ≤ n ∧ n ≤ 1000000 ∧ r = (v / n, true) ∧ H64 (v / n))) := by
  by_cases c : n < 1 ∨ n > 1000000
  · exact ⟨_, specMean_bad 299 _ _ _ c, implMean_bad 300 _ _ _ c, Or.inl rfl⟩
  · have h1 : 1 ≤ n := by omega
    have h2 : n ≤ 1000000 := by omega
    refine ⟨mean v n, specMean_ev hv h1 h2 (by omega), implMean_ev hv h1 h2 (by omega), ?_⟩
    by_cases d : H64 (v / n)
    · exact Or.inr ⟨h1, h2, mean_in d, d⟩
    · exact Or.inl (mean_out d)
theorem main_ev {bs : List Int} (hbig : bs.length ≤ 1048576) {v n : Int} (hv : R128 v) (hn : H64 n) (hd : spec_DrawWideMean.f bs = some (hi v, lo v, n)) : laws_FnMean.f 300 bs = some true := by
  unfold laws_FnMean.f laws_big.f
  obtain ⟨r, h1, h2, h3⟩ := law_ev hv hn
  rw [Option.bind_some, decide_eq_false (by omega), if_neg (by decide), hd, Option.bind_some]
  dsimp only
  rw [h1, Option.bind_some, h2, Option.bind_some]
  rw [if_neg (by simp), if_pos rfl]
  rcases h3 with rfl | ⟨a, b, rfl, d⟩
  · rfl
  · dsimp only
    rw [laws_FnMean.j0, if_neg (by decide)]
    have e := loop_law hv a b rfl d 21 299 (by omega) (by omega)
    have z : n / 2 ^ 21 = 0 := by omega
    rw [z, Int.mul_zero] at e
    exact e
/-! the draws -/
theorem V_of {h l : Int} (hl : U64 l) : h = hi (V h l) ∧ l = lo (V h l) := ⟨(hi_V hl).symm, (lo_V hl).symm⟩
theorem hi_H64 {n : Int} (h : H64 n) : H64 (hi n) := by unfold H64 hi at *; omega
theorem wide_ev {bs : List Int} (hb : Bytes bs) {M a s : Int} (hc : Cur M a s) (hM : M ≤ 1099511500000) (hl : bs.length ≤ 1099511627776000) :
    ∃ h l a' s', spec_l01Cur_wideNum.f bs a s = some (h, l, a', s') ∧ H64 h ∧ U64 l ∧ Cur (M + 6) a' s' := by
  unfold spec_l01Cur_wideNum.f
  obtain ⟨v1, a1, s1, e1, r1, r1', c1⟩ := raw_ev hb hc (by omega) hl
  have w1 : H64 v1 := ⟨r1, r1'⟩
  rw [e1, Option.bind_some]
  dsimp only
  rw [specOf_ev w1, Option.bind_some]
  obtain ⟨v2, a2, s2, e2, r2, r2', c2⟩ := pick_ev hb 5 c1 (by omega) hl
  rw [e2, Option.bind_some]
  dsimp only
  by_cases d0 : v2 = 0
  · obtain ⟨v3, a3, s3, e3, r3, r3', c3⟩ := raw_ev hb c2 (by omega) hl
    have w3 : H64 v3 := ⟨r3, r3'⟩
    have hR : R128 (v1 + v3) := by unfold R128 H64 at *; omega
    rw [if_pos d0, e3, Option.bind_some]
    dsimp only
    rw [specOf_ev w3, Option.bind_some]
    dsimp only
    rw [specAdd_ev hR, Option.bind_some]
    exact ⟨_, _, _, _, rfl, hi_H hR, lo_U _, c3.mono (by omega)⟩
  rw [if_neg d0]
  by_cases d1 : v2 = 1
  · obtain ⟨v3, a3, s3, e3, r3, r3', c3⟩ := raw_ev hb c2 (by omega) hl
    have w3 : H64 v3 := ⟨r3, r3'⟩
    obtain ⟨v4, a4, s4, e4, r4, r4', c4⟩ := pick_ev hb 3 c3 (by omega) hl
    rw [if_pos d1, e3, Option.bind_some]
    dsimp only
    rw [Option.bind_some, e4, Option.bind_some]
    dsimp only
    have hv : H64 (rd [v3, 0, -1] v4) := by
      have : v4 = 0 ∨ v4 = 1 ∨ v4 = 2 := by omega
      rcases this with rfl | rfl | rfl
      · exact w3
      · show H64 0; unfold H64; omega
      · show H64 (-1); unfold H64; omega
    rw [if_pos r4, if_pos (by simp only [List.length_cons, List.length_nil]; omega)]
    exact ⟨_, _, _, _, rfl, hv, lo_U _, c4.mono (by omega)⟩
  rw [if_neg d1]
  by_cases d2 : v2 = 2
  · obtain ⟨v4, a4, s4, e4, r4, r4', c4⟩ := pick_ev hb 4 c2 (by omega) hl
    rw [if_pos d2, Option.bind_some, e4, Option.bind_some]
    dsimp only
    have hv : U64 (rd [0, 18446744073709551615, 9223372036854775808, 9223372036854775807] v4) := by
      have : v4 = 0 ∨ v4 = 1 ∨ v4 = 2 ∨ v4 = 3 := by omega
      rcases this with rfl | rfl | rfl | rfl
      · show U64 0; unfold U64; omega
      · show U64 18446744073709551615; unfold U64; omega
      · show U64 9223372036854775808; unfold U64; omega
      · show U64 9223372036854775807; unfold U64; omega
    rw [if_pos r4, if_pos (by simp only [List.length_cons, List.length_nil]; omega)]
    exact ⟨_, _, _, _, rfl, hi_H64 w1, hv, c4.mono (by omega)⟩
  rw [if_neg d2]
  exact ⟨_, _, _, _, rfl, hi_H64 w1, lo_U _, c2.mono (by omega)⟩
theorem draw_ev {bs : List Int} (hb : Bytes bs) (hl : bs.length ≤ 1099511627776000) :
    ∃ v n, spec_DrawWideMean.f bs = some (hi v, lo v, n) ∧ R128 v ∧ H64 n := by
  unfold spec_DrawWideMean.f spec_l01Open.f
  have c0 : Cur 0 0 (101 + (bs.length : Int) % 1000) := by unfold Cur; omega
  rw [Option.bind_some]
  dsimp only
  obtain ⟨h, l, a1, s1, e1, hh, hlo, c1⟩ := wide_ev hb c0 (by omega) hl
  rw [e1, Option.bind_some]
  dsimp only
  obtain ⟨v2, a2, s2, e2, r2, r2', c2⟩ := pick_ev hb 200 c1 (by omega) hl
  rw [e2, Option.bind_some]
  dsimp only
  obtain ⟨v3, a3, s3, e3, r3, r3', c3⟩ := raw_ev hb c2 (by omega) hl
  rw [e3, Option.bind_some, Option.bind_some]
  dsimp only
  obtain ⟨v4, a4, s4, e4, r4, r4', c4⟩ := pick_ev hb 7 c3 (by omega) hl
  rw [e4, Option.bind_some]
  dsimp only
  rw [if_pos r4, if_pos (by simp only [List.length_cons, List.length_nil]; omega)]
  obtain ⟨x1, x2⟩ := V_of (h := h) hlo
  have hn : H64 (rd [1, 2, 3, wrap64 (1 + v2), 1000000, 1000001, v3] v4) := by
    have : v4 = 0 ∨ v4 = 1 ∨ v4 = 2 ∨ v4 = 3 ∨ v4 = 4 ∨ v4 = 5 ∨ v4 = 6 := by omega
    rcases this with rfl | rfl | rfl | rfl | rfl | rfl | rfl
    · show H64 1; unfold H64; omega
    · show H64 2; unfold H64; omega
    · show H64 3; unfold H64; omega
    · exact ⟨w64_lo _, w64_hi _⟩
    · show H64 1000000; unfold H64; omega
    · show H64 1000001; unfold H64; omega
    · exact ⟨r3, r3'⟩
  refine ⟨V h l, _, ?_, V_range hh hlo, hn⟩
  rw [← x1, ← x2]
theorem FnMean : laws_FnMean.Pure := by
  intro l0 _ hsz hwf
  by_cases c : (l0.length : Int) > 1048576
  · refine ⟨0, ?_⟩
    unfold laws_FnMean.f laws_big.f
    rw [Option.bind_some, decide_eq_true c, if_pos rfl]
  · have hb : Bytes l0 := fun x hx => by
      have := hwf x hx
      simp [Lit.wf, IntKind.min, IntKind.max, IntKind.signed, IntKind.bits] at this
      omega
    obtain ⟨v, n, e, hv, hn⟩ := draw_ev hb (by omega)
    exact ⟨300, main_ev (by omega) hv hn e⟩
end Go.Proofs.Ytkikbhcicpkhgaa.Pure
