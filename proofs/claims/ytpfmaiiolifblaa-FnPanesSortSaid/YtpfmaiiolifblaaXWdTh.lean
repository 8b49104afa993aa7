/- Numbers of 128 bits as two halves, in plain Lean. -/
namespace Go.Eng
/-- The upper and the lower half of a number. -/
def whi (v : Int) : Int := (v / 18446744073709551616 + 9223372036854775808) % 18446744073709551616 - 9223372036854775808
def wlo (v : Int) : Int := v % 18446744073709551616
def R127 (v : Int) : Prop := -170141183460469231731687303715884105728 ≤ v ∧ v < 170141183460469231731687303715884105728
theorem whi_b (v : Int) : -9223372036854775808 ≤ whi v ∧ whi v ≤ 9223372036854775807 := by unfold whi; omega
theorem wlo_b (v : Int) : 0 ≤ wlo v ∧ wlo v ≤ 18446744073709551615 := by unfold wlo; omega
theorem wof_neg {n : Int} (h : -9223372036854775808 ≤ n) (h0 : n < 0) : whi n = -1 ∧ wlo n = n + 18446744073709551616 := by unfold whi wlo; omega
theorem wof_pos {n : Int} (h : n ≤ 9223372036854775807) (h0 : 0 ≤ n) : whi n = 0 ∧ wlo n = n := by unfold whi wlo; omega
theorem wparts {h l : Int} (h1 : -9223372036854775808 ≤ h ∧ h ≤ 9223372036854775807) (h2 : 0 ≤ l ∧ l ≤ 18446744073709551615) : whi (h * 18446744073709551616 + l) = h ∧ wlo (h * 18446744073709551616 + l) = l := by unfold whi wlo; omega
theorem wval {v : Int} (h : R127 v) : v = whi v * 18446744073709551616 + wlo v := by unfold R127 at h; unfold whi wlo; omega
theorem wlo_add (a b : Int) : wlo (a + b) = if wlo a + wlo b ≤ 18446744073709551615 then wlo a + wlo b else wlo a + wlo b - 18446744073709551616 := by unfold wlo; split <;> omega
def s64 (x : Int) : Int := (x + 9223372036854775808) % 18446744073709551616 - 9223372036854775808
theorem whi_add (a b : Int) : whi (a + b) = s64 (whi a + whi b + if wlo a + wlo b ≤ 18446744073709551615 then 0 else 1) := by unfold wlo whi s64; split <;> omega
theorem whi_neg (a : Int) : whi (-1 - a) = -1 - whi a := by unfold whi; omega
theorem wlo_neg (a : Int) : wlo (-1 - a) = 18446744073709551615 - wlo a := by unfold wlo; omega
theorem weq {a b : Int} (ha : R127 a) (hb : R127 b) (h1 : whi a = whi b) (h2 : wlo a = wlo b) : a = b := by rw [wval ha, wval hb, h1, h2]
theorem wlt {a b : Int} (ha : R127 a) (hb : R127 b) : a < b ↔ whi a < whi b ∨ whi a = whi b ∧ wlo a < wlo b := by
  unfold R127 at ha hb; unfold whi wlo; omega
theorem R127_i64 {n : Int} (h : -9223372036854775808 ≤ n ∧ n ≤ 9223372036854775807) : R127 n := by unfold R127; omega
/-- A number in range that has the same halves. -/
def wsg (x : Int) : Int := (x + 170141183460469231731687303715884105728) % 340282366920938463463374607431768211456 - 170141183460469231731687303715884105728
theorem wsg_R (x : Int) : R127 (wsg x) := by unfold R127 wsg; omega
theorem wsg_id {x : Int} (h : R127 x) : wsg x = x := by unfold R127 at h; unfold wsg; omega
theorem wsg_hi (x : Int) : whi (wsg x) = whi x := by unfold whi wsg; omega
theorem wsg_lo (x : Int) : wlo (wsg x) = wlo x := by unfold wlo wsg; omega
theorem wsg_eq {x y : Int} (h1 : whi x = whi y) (h2 : wlo x = wlo y) : wsg x = wsg y := by
  refine weq (wsg_R x) (wsg_R y) ?_ ?_
  · rw [wsg_hi, wsg_hi, h1]
  · rw [wsg_lo, wsg_lo, h2]
end Go.Eng
