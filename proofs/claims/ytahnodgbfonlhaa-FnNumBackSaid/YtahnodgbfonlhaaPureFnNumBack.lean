/- The law FnNumBack answers true for every code: the zigzag varint of every int, written between other bytes, is read back with its length, and has at most ten bytes. Conditions: none beyond the given statement's. -/
import Derived.Test.YtahnodgbfonlhaaQFnNumBackx2
namespace Go.Proofs.Ytahnodgbfonlhaa.Pure
open Go.RowKit Go.Proofs.Ytahnodgbfonlhaa.PFnNumBack Go.Proofs.YtahnodgbfonlhaaW.PrintWords Go.Proofs.YtahnodgbfonlhaaW.PrintLast Go.Proofs.YtahnodgbfonlhaaW.PrintMore

theorem w64 {n : Int} (h0 : -9223372036854775808 ≤ n) (h1 : n ≤ 9223372036854775807) : wrap64 n = n := by unfold wrap64; omega
theorem w64_lo (n : Int) : -9223372036854775808 ≤ wrap64 n := by unfold wrap64; omega
theorem w64_hi (n : Int) : wrap64 n ≤ 9223372036854775807 := by unfold wrap64; omega

def Cur (M a s : Int) : Prop := 0 ≤ a ∧ a ≤ M ∧ 0 ≤ s ∧ s < 65521
def Bytes (bs : List Int) : Prop := ∀ x ∈ bs, 0 ≤ x ∧ x ≤ 255
theorem rd_byte {bs : List Int} (hb : Bytes bs) (i : Int) : 0 ≤ rd bs i ∧ rd bs i ≤ 255 := by
  unfold rd
  rw [List.getD_eq_getElem?_getD]
  rcases h : bs[i.toNat]? with _ | x
  · simp
  · exact hb x (List.mem_of_getElem? h)
theorem tm {x n : Int} (hx : 0 ≤ x) (hn : 2 ≤ n) : 0 ≤ Int.tmod x n ∧ Int.tmod x n < n := by
  rw [Int.tmod_eq_emod_of_nonneg hx]
  exact ⟨Int.emod_nonneg _ (by omega), Int.emod_lt_of_pos _ (by omega)⟩
theorem pick_ev {bs : List Int} (hb : Bytes bs) {M a s : Int} (n : Int) (hc : Cur M a s) (hM : M ≤ 1099511627776) (hl : bs.length ≤ 1099511627776000) :
    ∃ v a' s', spec_l01Cur_pick.f bs a s n = some (v, a', s') ∧ 0 ≤ v ∧ (v < n ∨ v = 0) ∧ Cur (M + 1) a' s' := by
  obtain ⟨h0, h1, h2, h3⟩ := hc
  unfold spec_l01Cur_pick.f
  by_cases c1 : n < 2
  · rw [if_pos c1]; exact ⟨_, _, _, rfl, by omega, by omega, by omega, by omega, h2, h3⟩
  rw [if_neg c1]
  have ea : wrap64 (a + 1) = a + 1 := w64 (by omega) (by omega)
  by_cases c2 : a < (bs.length : Int)
  · have hr := rd_byte hb a
    have ht := tm (x := wrap64 (rd bs a)) (n := n) (by rw [w64] <;> omega) (by omega)
    rw [if_pos c2, if_pos h0, if_neg (by omega), ea]
    exact ⟨_, _, _, rfl, ht.1, Or.inl ht.2, by omega, by omega, h2, h3⟩
  rw [if_neg c2]
  have e1 : wrap64 (s * 1103) = s * 1103 := w64 (by omega) (by omega)
  have e2 : wrap64 (s * 1103 + 12345) = s * 1103 + 12345 := w64 (by omega) (by omega)
  simp only [e1, e2, ea]
  have hm := tm (x := s * 1103 + 12345) (n := 65521) (by omega) (by omega)
  generalize Int.tmod (s * 1103 + 12345) 65521 = q at hm ⊢
  by_cases c3 : (bs.length : Int) > 0
  · have hd : 0 ≤ Int.tmod a (bs.length : Int) ∧ Int.tmod a (bs.length : Int) < (bs.length : Int) := by
      rw [Int.tmod_eq_emod_of_nonneg h0]
      exact ⟨Int.emod_nonneg _ (by omega), Int.emod_lt_of_pos _ (by omega)⟩
    have hr := rd_byte hb (Int.tmod a (bs.length : Int))
    have hq : 0 ≤ Int.tdiv q 7 ∧ Int.tdiv q 7 ≤ 65521 := by
      rw [Int.tdiv_eq_ediv_of_nonneg hm.1]; omega
    have ht := tm (x := wrap64 (wrap64 (Int.tdiv q 7) + wrap64 (rd bs (Int.tmod a (bs.length : Int))))) (n := n) (by rw [w64 (n := Int.tdiv q 7), w64 (n := rd bs _), w64] <;> omega) (by omega)
    rw [if_pos c3, if_neg (by omega), if_pos hd.1, if_pos hd.2, if_neg (by omega)]
    exact ⟨_, _, _, rfl, ht.1, Or.inl ht.2, by omega, by omega, hm.1, hm.2⟩
  · rw [if_neg c3, if_neg (by omega)]
    exact ⟨_, _, _, rfl, by simp, Or.inr (by simp), by omega, by omega, hm.1, hm.2⟩
theorem raw_ev {bs : List Int} (hb : Bytes bs) {M a s : Int} (hc : Cur M a s) (hM : M ≤ 1099511600000) (hl : bs.length ≤ 1099511627776000) :
    ∃ v a' s', spec_l01Cur_raw.f bs a s = some (v, a', s') ∧ -9223372036854775808 ≤ v ∧ v ≤ 9223372036854775807 ∧ Cur (M + 2) a' s' := by
  unfold spec_l01Cur_raw.f
  obtain ⟨v, a1, s1, e, hv, hv', hc1⟩ := pick_ev hb 8 hc (by omega) hl
  rw [e]; simp only [Option.bind_some]
  by_cases c0 : v = 0
  · rw [if_pos c0]
    obtain ⟨v2, a2, s2, e2, hv2, hv2', hc2⟩ := pick_ev hb 256 hc1 (by omega) hl
    rw [e2]; simp only [Option.bind_some]
    exact ⟨_, _, _, rfl, w64_lo _, w64_hi _, by unfold Cur at hc2 ⊢; omega⟩
  rw [if_neg c0]
  by_cases c1 : v = 1
  · rw [if_pos c1]
    obtain ⟨v2, a2, s2, e2, hv2, hv2', hc2⟩ := pick_ev hb 8 hc1 (by omega) hl
    rw [e2]; simp only [Option.bind_some]
    rw [if_pos hv2, if_pos (by simp; omega)]
    refine ⟨_, _, _, rfl, ?_, ?_, by unfold Cur at hc2 ⊢; omega⟩
    all_goals
      have : v2 = 0 ∨ v2 = 1 ∨ v2 = 2 ∨ v2 = 3 ∨ v2 = 4 ∨ v2 = 5 ∨ v2 = 6 ∨ v2 = 7 := by omega
      rcases this with rfl | rfl | rfl | rfl | rfl | rfl | rfl | rfl <;> decide
  rw [if_neg c1]
  obtain ⟨v2, a2, s2, e2, hv2, hv2', hc2⟩ := pick_ev hb 14 hc1 (by omega) hl
  rw [e2]; simp only [Option.bind_some]
  exact ⟨_, _, _, rfl, w64_lo _, w64_hi _, by unfold Cur at hc2 ⊢; omega⟩
/-! the digits -/
def enc : Nat → Nat → List Int
  | 0, u => [(u : Int)]
  | d + 1, u => ((u % 128 + 128 : Nat) : Int) :: enc d (u / 128)
theorem enc_len : ∀ d u, (enc d u).length = d + 1
  | 0, _ => rfl
  | d + 1, u => by unfold enc; simp [enc_len d]
theorem or128_nat : ∀ a : Fin 256, a.val ||| 128 = a.val % 128 + 128 := by decide +kernel
theorem or128 (a : Nat) (h : a < 256) : Go.bits .or .u8 (a : Int) 128 = ((a % 128 + 128 : Nat) : Int) := by
  have := (bits_nat .u8 8 (by decide) (fun n h0 h1 => wraps_u8 n h0 h1) a 128 (by omega) (by omega)).2
  rw [show ((128 : Nat) : Int) = 128 from rfl] at this
  rw [this, or128_nat ⟨a, h⟩]
theorem numBytes_l (d : Nat) : ∀ (u k : Nat) (acc : List Int), u < 128 ^ (d + 1) → (d ≠ 0 → 128 ^ d ≤ u) → d < k → acc.length + d + 1 < 1000 →
    impl_NumBytes.l0 k acc (u : Int) = some (acc ++ enc d u) := by
  induction d with
  | zero =>
    intro u k acc h1 _ hk ha
    obtain ⟨k, rfl⟩ : ∃ m, k = m + 1 := ⟨k - 1, by omega⟩
    have h1 : u < 128 := by simpa using h1
    simp only [impl_NumBytes.l0]
    rw [if_neg (by omega), if_pos (by omega)]
    have : (u : Int) % 256 = (u : Int) := by omega
    rw [this]; rfl
  | succ d ih =>
    intro u k acc h1 h2 hk ha
    obtain ⟨k, rfl⟩ : ∃ m, k = m + 1 := ⟨k - 1, by omega⟩
    have h2 := h2 (by omega)
    have hp : 128 ≤ u := by
      have : 128 ^ (d + 1) = 128 ^ d * 128 := Nat.pow_succ ..
      have : 0 < 128 ^ d := Nat.pow_pos (by omega)
      omega
    simp only [impl_NumBytes.l0]
    rw [if_pos (by omega), if_pos (by omega)]
    have e1 : (u : Int) % 256 = ((u % 256 : Nat) : Int) := by omega
    have e2 : (u : Int) / 128 = ((u / 128 : Nat) : Int) := by omega
    rw [e1, e2, or128 _ (by omega), ih (u / 128) k _ ?_ ?_ (by omega) (by simp; omega)]
    · have : u % 256 % 128 = u % 128 := by omega
      rw [this]; simp [enc]
    · rw [Nat.pow_succ] at h1; exact Nat.div_lt_of_lt_mul (by rw [Nat.mul_comm]; exact h1)
    · intro _; rw [Nat.pow_succ] at h2; exact (Nat.le_div_iff_mul_le (by omega)).2 h2
theorem digits_of (u : Nat) : ∀ n, u < 128 ^ (n + 1) → ∃ d, d ≤ n ∧ u < 128 ^ (d + 1) ∧ (d ≠ 0 → 128 ^ d ≤ u)
  | 0, h => ⟨0, by omega, h, fun h => absurd rfl h⟩
  | n + 1, h => by
    by_cases c : 128 ^ (n + 1) ≤ u
    · exact ⟨n + 1, by omega, h, fun _ => c⟩
    · obtain ⟨d, h1, h2⟩ := digits_of u n (by omega)
      exact ⟨d, by omega, h2⟩
/-! zigzag -/
def zig (n : Int) : Nat := if 0 ≤ n then (2 * n).toNat else (-2 * n - 1).toNat
theorem zig_lt {n : Int} (h0 : -9223372036854775808 ≤ n) (h1 : n ≤ 9223372036854775807) : zig n < 18446744073709551616 := by unfold zig; split <;> omega
theorem xor_u64_nat (a b : Nat) (ha : a < 18446744073709551616) (hb : b < 18446744073709551616) : Go.bits .xor .u64 (a : Int) (b : Int) = ((a ^^^ b : Nat) : Int) := by
  have hx : a ^^^ b < 2 ^ 64 := Nat.xor_lt_two_pow (by omega) (by omega)
  have h1 : (BitVec.ofInt 64 (a : Int)).toNat = a := by
    rw [BitVec.ofInt_natCast, BitVec.toNat_ofNat]; exact Nat.mod_eq_of_lt (by omega)
  have h2 : (BitVec.ofInt 64 (b : Int)).toNat = b := by
    rw [BitVec.ofInt_natCast, BitVec.toNat_ofNat]; exact Nat.mod_eq_of_lt (by omega)
  show IntKind.u64.wrap ((BitVec.ofInt 64 (a : Int) ^^^ BitVec.ofInt 64 (b : Int)).toNat : Int) = _
  rw [BitVec.toNat_xor, h1, h2, IntKind.wrap_u64]
  omega
theorem xor_ones (a : Nat) (h : a < 18446744073709551616) : a ^^^ 18446744073709551615 = 18446744073709551615 - a := by
  have h1 : (BitVec.ofNat 64 a ^^^ BitVec.allOnes 64).toNat = (~~~ BitVec.ofNat 64 a).toNat := by rw [BitVec.xor_allOnes]
  rw [BitVec.toNat_xor, BitVec.toNat_not, BitVec.toNat_allOnes, BitVec.toNat_ofNat, Nat.mod_eq_of_lt (by omega)] at h1
  simpa using h1
theorem zigzag_ev {n : Int} (h0 : -9223372036854775808 ≤ n) (h1 : n ≤ 9223372036854775807) : impl_zigzag.f n = some (zig n : Int) := by
  unfold impl_zigzag.f zig
  simp only [IntKind.wrap_u64]
  by_cases c : 0 ≤ n
  · rw [if_pos c]
    have e1 : n % 18446744073709551616 * 2 % 18446744073709551616 = ((2 * n).toNat : Int) := by omega
    have e2 : n / 9223372036854775808 % 18446744073709551616 = ((0 : Nat) : Int) := by omega
    rw [e1, e2, xor_u64_nat _ _ (by omega) (by omega)]; simp
  · rw [if_neg c]
    have e1 : n % 18446744073709551616 * 2 % 18446744073709551616 = ((2 * n + 18446744073709551616).toNat : Int) := by omega
    have e2 : n / 9223372036854775808 % 18446744073709551616 = ((18446744073709551615 : Nat) : Int) := by omega
    rw [e1, e2, xor_u64_nat _ _ (by omega) (by omega), xor_ones _ (by omega)]
    congr 2; omega
theorem xor_i64_zero (a : Int) (h0 : 0 ≤ a) (h1 : a ≤ 9223372036854775807) : Go.bits .xor .i64 a 0 = a := by
  show IntKind.i64.wrap ((BitVec.ofInt 64 a ^^^ BitVec.ofInt 64 0).toNat : Int) = _
  obtain ⟨a, rfl⟩ := Int.eq_ofNat_of_zero_le h0
  rw [BitVec.ofInt_natCast, BitVec.toNat_xor, BitVec.toNat_ofNat, Nat.mod_eq_of_lt (by omega)]
  simp [IntKind.wrap_i64]; omega
theorem xor_i64_ones (a : Int) (h0 : 0 ≤ a) (h1 : a ≤ 9223372036854775807) : Go.bits .xor .i64 a (-1) = -1 - a := by
  show IntKind.i64.wrap ((BitVec.ofInt 64 a ^^^ BitVec.ofInt 64 (-1)).toNat : Int) = _
  obtain ⟨a, rfl⟩ := Int.eq_ofNat_of_zero_le h0
  have e : (BitVec.ofInt 64 (-1)) = BitVec.allOnes 64 := by decide
  rw [BitVec.ofInt_natCast, e, BitVec.toNat_xor, BitVec.toNat_ofNat, Nat.mod_eq_of_lt (by omega), BitVec.toNat_allOnes, show 2 ^ 64 - 1 = 18446744073709551615 from rfl, xor_ones _ (by omega), IntKind.wrap_i64]
  omega
theorem and1 (u : Nat) (h : u < 18446744073709551616) : Go.bits .and .u64 (u : Int) 1 = ((u % 2 : Nat) : Int) := by
  have := bits_and_u64_nat u 1 h (by omega)
  rw [show ((1 : Nat) : Int) = 1 from rfl] at this
  rw [this]
  congr 1
  simp [Nat.and_one_is_mod]
theorem unzig {n : Int} (h0 : -9223372036854775808 ≤ n) (h1 : n ≤ 9223372036854775807) :
    Go.bits .xor .i64 (wrap64 ((zig n : Int) / 2)) (wrap64 (-(wrap64 (Go.bits .and .u64 (zig n : Int) 1)))) = n := by
  have hz := zig_lt h0 h1
  rw [and1 _ hz]
  have e0 : wrap64 (((zig n % 2 : Nat)) : Int) = ((zig n % 2 : Nat) : Int) := w64 (by omega) (by omega)
  rw [e0, w64 (n := (zig n : Int) / 2) (by omega) (by omega), w64 (n := -((zig n % 2 : Nat) : Int)) (by omega) (by omega)]
  clear e0
  unfold zig at *
  by_cases c : 0 ≤ n
  · rw [if_pos c] at hz ⊢
    have e1 : (((2 * n).toNat : Nat) : Int) / 2 = n := by omega
    have e2 : -((((2 * n).toNat % 2 : Nat)) : Int) = 0 := by omega
    rw [e1, e2, xor_i64_zero n c h1]
  · rw [if_neg c] at hz ⊢
    have e1 : (((-2 * n - 1).toNat : Nat) : Int) / 2 = -1 - n := by omega
    have e2 : -((((-2 * n - 1).toNat % 2 : Nat)) : Int) = -1 := by omega
    rw [e1, e2, xor_i64_ones _ (by omega) (by omega)]; omega
theorem numBytes_ev {n : Int} (h0 : -9223372036854775808 ≤ n) (h1 : n ≤ 9223372036854775807) {d k : Nat} (hd : zig n < 128 ^ (d + 1)) (hd2 : d ≠ 0 → 128 ^ d ≤ zig n) (hd9 : d ≤ 9) (hk : d < k) :
    impl_NumBytes.f k n = some (enc d (zig n)) := by
  unfold impl_NumBytes.f
  rw [zigzag_ev h0 h1]; simp only [Option.bind_some]
  rw [numBytes_l d (zig n) k [] hd hd2 hk (by simp; omega)]; simp
/-! reading -/
theorem and127 (x : Nat) (h : x < 256) : Go.bits .and .u8 (x : Int) 127 = ((x % 128 : Nat) : Int) := by
  have := bits_mask .u8 8 (by decide) (fun n h0 h1 => wraps_u8 n h0 h1) 7 (by omega) (x : Int) (by omega) (by omega)
  rw [show (2 : Int) ^ 7 - 1 = 127 from rfl, show (2 : Int) ^ 7 = 128 from rfl] at this
  rw [this]; omega
theorem or_low (a b i : Nat) (ha : a < 2 ^ i) (hb : a + b * 2 ^ i < 18446744073709551616) : Go.bits .or .u64 (a : Int) ((b * 2 ^ i : Nat) : Int) = ((a + b * 2 ^ i : Nat) : Int) := by
  rw [bits_or_u64_nat _ _ (by omega) (by omega), Nat.or_comm, Nat.mul_comm b, ← Nat.two_pow_add_eq_or_of_lt ha b, Nat.add_comm]
theorem rd_drop {l : List Int} {i : Nat} {x : Int} {r : List Int} (h : l.drop i = x :: r) : rd l (i : Int) = x ∧ l.drop (i + 1) = r ∧ i < l.length := by
  have hl : i < l.length := by
    apply Classical.byContradiction; intro hn
    rw [List.drop_eq_nil_of_le (by omega)] at h; cases h
  rw [List.drop_eq_getElem_cons hl] at h
  injection h with h1 h2
  refine ⟨?_, h2, hl⟩
  unfold rd
  rw [List.getD_eq_getElem?_getD]
  simp [List.getElem?_eq_getElem hl, h1]
theorem step_word (x7 v i : Nat) (h : x7 < 2 ^ (7 * i)) (hi : i ≤ 9) (hu : x7 + v * 2 ^ (7 * i) < 18446744073709551616) (b : Int) (hb : b = ((v % 128 : Nat) : Int) ∨ b = ((v % 128 + 128 : Nat) : Int)) :
    Go.bits .or .u64 (x7 : Int) (shl .u64 (IntKind.u64.wrap (Go.bits .and .u8 b 127)) (wrap64 (7 * (i : Int)))) = ((x7 + v % 128 * 2 ^ (7 * i) : Nat) : Int) := by
  have e1 : Go.bits .and .u8 b 127 = ((v % 128 : Nat) : Int) := by
    rcases hb with rfl | rfl
    · rw [and127 _ (by omega)]; omega
    · rw [and127 _ (by omega)]; omega
  have hle : v % 128 * 2 ^ (7 * i) ≤ v * 2 ^ (7 * i) := Nat.mul_le_mul_right _ (Nat.mod_le _ _)
  have e2 : shl .u64 (((v % 128 : Nat) : Int)) (7 * (i : Int)) = ((v % 128 * 2 ^ (7 * i) : Nat) : Int) := by
    unfold shl
    rw [show min (7 * (i : Int)).toNat IntKind.u64.bits = 7 * i from by simp [IntKind.bits]; omega, IntKind.wrap_u64]
    rw [show ((v % 128 : Nat) : Int) * 2 ^ (7 * i) = ((v % 128 * 2 ^ (7 * i) : Nat) : Int) from by simp]
    omega
  rw [e1, IntKind.wrap_u64, show ((v % 128 : Nat) : Int) % 18446744073709551616 = ((v % 128 : Nat) : Int) from by omega, w64 (by omega) (by omega), e2, or_low _ _ _ h (by omega)]
theorem numRead_l {n : Int} (h0 : -9223372036854775808 ≤ n) (h1 : n ≤ 9223372036854775807) {d0 : Nat} (hd : zig n < 128 ^ (d0 + 1)) (hd2 : d0 ≠ 0 → 128 ^ d0 ≤ zig n) (hd9 : d0 ≤ 9) (seg post : List Int) (d : Nat) :
    ∀ (i k x7 v : Nat), d0 = i + d → d0 + d + 1 < k → v < 128 ^ (d + 1) → (d ≠ 0 → 128 ^ d ≤ v) → x7 < 2 ^ (7 * i) → zig n = x7 + v * 2 ^ (7 * i) → seg.drop i = enc d v ++ post →
      impl_NumRead.l0 k 2 (x7 : Int) seg (seg.length : Int) (i : Int) = some (n, 3 + (d0 : Int), true) := by
  have hz := zig_lt h0 h1
  induction d with
  | zero =>
    intro i k x7 v hi hk hv hv2 hx hu hs
    obtain ⟨k, rfl⟩ : ∃ m, k = m + 1 := ⟨k - 1, by omega⟩
    have hv : v < 128 := by simpa using hv
    unfold enc at hs
    obtain ⟨r1, r2, r3⟩ := rd_drop hs
    have hw := step_word x7 v i hx (by omega) (by omega) (v : Int) (Or.inl (by omega))
    rw [Nat.mod_eq_of_lt hv, ← hu] at hw
    simp only [impl_NumRead.l0]
    rw [if_pos (by omega), if_pos (by omega), if_pos (by omega), if_pos (by rw [w64] <;> omega), r1, if_neg (by omega), hw, unzig h0 h1, numBytes_ev h0 h1 hd hd2 hd9 (by omega)]
    rw [Option.bind_some, enc_len, if_pos (by rw [w64] <;> omega)]
    rw [show wrap64 (wrap64 (2 + (i : Int)) + 1) = 3 + (d0 : Int) from by rw [w64 (n := 2 + (i : Int)), w64] <;> omega]
    by_cases c9 : (i : Int) = 9
    · rw [if_pos c9, if_neg ?_]
      intro hgt
      have c9' : i = 9 := by omega
      subst c9'
      have : v ≥ 2 := by omega
      have : 2 * 2 ^ (7 * 9) ≤ v * 2 ^ (7 * 9) := Nat.mul_le_mul_right _ this
      have e64 : 2 * 2 ^ (7 * 9) = 18446744073709551616 := by decide
      omega
    · rw [if_neg c9]
  | succ d ih =>
    intro i k x7 v hi hk hv hv2 hx hu hs
    obtain ⟨k, rfl⟩ : ∃ m, k = m + 1 := ⟨k - 1, by omega⟩
    have hv2 := hv2 (by omega)
    unfold enc at hs
    rw [List.cons_append] at hs
    obtain ⟨r1, r2, r3⟩ := rd_drop hs
    have hw := step_word x7 v i hx (by omega) (by omega) ((v % 128 + 128 : Nat) : Int) (Or.inr rfl)
    simp only [impl_NumRead.l0]
    rw [if_pos (by omega), if_pos (by omega), if_pos (by omega), if_pos (by rw [w64] <;> omega), r1, if_pos (by omega), hw, show wrap64 ((i : Int) + 1) = ((i + 1 : Nat) : Int) from by rw [w64] <;> omega]
    have hpw : 2 ^ (7 * (i + 1)) = 128 * 2 ^ (7 * i) := by rw [show 7 * (i + 1) = 7 + 7 * i from by omega, Nat.pow_add]
    refine ih (i + 1) k (x7 + v % 128 * 2 ^ (7 * i)) (v / 128) (by omega) (by omega) ?_ ?_ ?_ ?_ r2
    · rw [Nat.pow_succ] at hv; exact Nat.div_lt_of_lt_mul (by rw [Nat.mul_comm]; exact hv)
    · intro _; rw [Nat.pow_succ] at hv2; exact (Nat.le_div_iff_mul_le (by omega)).2 hv2
    · rw [hpw]
      have : v % 128 * 2 ^ (7 * i) ≤ 127 * 2 ^ (7 * i) := Nat.mul_le_mul_right _ (by omega)
      omega
    · rw [hu, hpw]
      have e : v = v % 128 + v / 128 * 128 := by omega
      have e2 : v * 2 ^ (7 * i) = v % 128 * 2 ^ (7 * i) + v / 128 * (128 * 2 ^ (7 * i)) := by
        rw [← Nat.mul_assoc, ← Nat.add_mul, ← e]
      omega
theorem FnNumBack : laws_FnNumBack.Pure := by
  intro l0 _ _ hwf
  have hb : Bytes l0 := by
    intro x hx
    have := hwf x hx
    simp [Lit.wf, IntKind.min, IntKind.max, IntKind.signed, IntKind.bits] at this
    omega
  refine ⟨100, ?_⟩
  unfold laws_FnNumBack.f laws_big.f
  simp only [Option.bind_some]
  by_cases hbig : (l0.length : Int) > 1048576
  · rw [if_pos (by simpa using hbig)]
  rw [if_neg (by simpa using hbig)]
  have hc : Cur 0 0 (101 + (l0.length : Int) % 1000) := by unfold Cur; omega
  obtain ⟨n, a', s', hr, h0, h1, _⟩ := raw_ev hb hc (by omega) (by omega)
  have hdr : spec_DrawNumBytes.f l0 = some n := by
    unfold spec_DrawNumBytes.f spec_l01Open.f
    rw [Option.bind_some]
    dsimp only
    rw [hr]; rfl
  have hz := zig_lt h0 h1
  obtain ⟨d, hd9, hd, hd2⟩ := digits_of (zig n) 9 (by omega)
  rw [hdr, Option.bind_some, numBytes_ev h0 h1 hd hd2 hd9 (by omega), Option.bind_some, enc_len, if_pos (by simp; omega), if_pos (by simp [enc_len]; omega)]
  have hlen : ([200, 7] ++ enc d (zig n) ++ [255]).length = d + 4 := by simp [enc_len]
  have hrd : impl_NumRead.f 100 ([200, 7] ++ enc d (zig n) ++ [255]) 2 = some (n, 3 + (d : Int), true) := by
    unfold impl_NumRead.f impl_in.f
    rw [hlen, w64 (n := ((d + 4 : Nat) : Int) - 1) (by omega) (by omega), w64 (n := (2 : Int) + 10) (by omega) (by omega), if_pos (by omega), Option.bind_some, if_pos (by simp; omega), if_pos (by omega)]
    obtain ⟨m, hm, hm2⟩ : ∃ m : Nat, mn ((d + 4 : Nat) : Int) (2 + 10) = ((m + 2 : Nat) : Int) ∧ d + 1 ≤ m ∧ m ≤ d + 2 := by
      unfold mn
      split
      · exact ⟨10, by omega, by omega, by omega⟩
      · exact ⟨d + 2, by omega, by omega, by omega⟩
    rw [hm, if_pos (by omega), if_pos (by omega)]
    have hseg : ([200, 7] ++ enc d (zig n) ++ [255]).take (((m + 2 : Nat) : Int)).toNat = [200, 7] ++ (enc d (zig n) ++ [255].take (m - (d + 1))) := by
      rw [show (((m + 2 : Nat) : Int)).toNat = m + 2 from by omega]
      simp only [List.cons_append, List.nil_append, List.take_succ_cons, List.take_append, enc_len]
      rw [List.take_of_length_le (by rw [enc_len]; omega)]
    rw [hseg, show ((2 : Int)).toNat = 2 from rfl]
    simp only [List.cons_append, List.nil_append, List.drop_succ_cons, List.drop_zero]
    refine numRead_l h0 h1 hd hd2 hd9 _ ([255].take (m - (d + 1))) d 0 100 0 (zig n) (by omega) (by omega) hd hd2 (by decide) (by simp) (by simp)
  rw [hrd, Option.bind_some]
  simp only
  rw [if_pos trivial, if_pos trivial, if_pos (by rw [w64] <;> omega)]
  simp; omega

end Go.Proofs.Ytahnodgbfonlhaa.Pure
