/- What is left of the law FnExactSlotsOk without memory: for any two lists of bytes the law's function answers true. No condition beyond the lengths that every input has. -/
import Derived.Test.YtahnodgbfonlhaaPFnExactSlotsOkx2
namespace Go.Proofs.Ytahnodgbfonlhaa.Pure
open Go.RowKit Go.Proofs.Ytahnodgbfonlhaa.PFnExactSlotsOk Go.Proofs.YtahnodgbfonlhaaW.PrintWords Go.Proofs.YtahnodgbfonlhaaW.PrintLast Go.Proofs.YtahnodgbfonlhaaW.PrintMore

theorem w64 {n : Int} (h0 : -9223372036854775808 ≤ n) (h1 : n ≤ 9223372036854775807) : wrap64 n = n := by unfold wrap64; omega
theorem w64s {i : Nat} (h : i ≤ 1099511627776000) : wrap64 ((i : Int) + 1) = ((i + 1 : Nat) : Int) := by rw [w64] <;> omega
theorem toByte_l (xs : List Int) (hx : xs.length ≤ 10000000) (d : Nat) : ∀ (i k : Nat) (acc : List Int), i + d = xs.length → d < k → acc.length = xs.length → (∀ j, j < i → acc[j]? = xs[j]?) →
    laws_toByteS.l0 k xs acc (i : Int) = some xs := by
  induction d with
  | zero =>
    intro i k acc hi hk hl ha
    obtain ⟨k, rfl⟩ : ∃ m, k = m + 1 := ⟨k - 1, by omega⟩
    rw [laws_toByteS.l0, if_neg (by omega)]
    congr 1
    apply List.ext_getElem?
    intro j
    by_cases hj : j < i
    · exact ha j hj
    · rw [List.getElem?_eq_none (by omega), List.getElem?_eq_none (by omega)]
  | succ d ih =>
    intro i k acc hi hk hl ha
    obtain ⟨k, rfl⟩ : ∃ m, k = m + 1 := ⟨k - 1, by omega⟩
    rw [laws_toByteS.l0, if_pos (by omega), if_pos (by omega), if_pos (by omega), w64s (by omega), Int.toNat_natCast]
    refine ih (i + 1) k _ (by omega) (by omega) (by simpa using hl) ?_
    intro j hj
    by_cases e : j = i
    · subst e
      rw [List.getElem?_set_self (by omega)]
      unfold rd
      rw [List.getD_eq_getElem?_getD, Int.toNat_natCast, List.getElem?_eq_getElem (by omega)]; rfl
    · rw [List.getElem?_set_ne (by omega)]; exact ha j (by omega)
theorem toByte_ev {xs : List Int} (hx : xs.length ≤ 1048576) {k : Nat} (hk : 1048576 < k) : laws_toByteS.f k xs = some xs := by
  unfold laws_toByteS.f
  rw [if_pos (by omega), if_pos (by omega)]
  exact toByte_l xs (by omega) xs.length 0 k _ (by omega) (by omega) (by simp) (by intro j hj; omega)
theorem eqByte_l (xs : List Int) (hx : xs.length ≤ 10000000) (d : Nat) : ∀ (i k : Nat), i + d = xs.length → d < k → laws_eqByteS.l0 k xs xs (i : Int) = some true := by
  induction d with
  | zero =>
    intro i k hi hk
    obtain ⟨k, rfl⟩ : ∃ m, k = m + 1 := ⟨k - 1, by omega⟩
    rw [laws_eqByteS.l0, if_neg (by omega)]
  | succ d ih =>
    intro i k hi hk
    obtain ⟨k, rfl⟩ : ∃ m, k = m + 1 := ⟨k - 1, by omega⟩
    rw [laws_eqByteS.l0, if_pos (by omega), if_pos (by omega), if_pos (by omega), if_pos rfl, w64s (by omega)]
    exact ih (i + 1) k (by omega) (by omega)
theorem eqByte_ev {xs : List Int} (hx : xs.length ≤ 1048576) {k : Nat} (hk : 1048576 < k) : laws_eqByteS.f k xs xs = some true := by
  unfold laws_eqByteS.f
  rw [if_pos rfl]
  exact eqByte_l xs (by omega) xs.length 0 k (by omega) (by omega)
-- What is left of the law about SlotsOk.
theorem slotsOk (a b : List Int) (ha : a.length ≤ maxLen) (hb : b.length ≤ maxLen) : ∃ k, laws_FnExactSlotsOk.f k a b = some true := by
  refine ⟨2000000, ?_⟩
  unfold maxLen at ha hb
  unfold laws_FnExactSlotsOk.f laws_szSlots.f laws_szByteS.f
  rw [w64 (n := 1048576 - (a.length : Int)) (by omega) (by omega)]
  by_cases h1 : 1048576 - (a.length : Int) < 0
  · rw [if_pos h1, Option.bind_some, if_pos (by omega), Option.bind_some, if_pos (by omega)]
  rw [if_neg h1, Option.bind_some, if_neg h1, w64 (n := 1048576 - (a.length : Int) - (b.length : Int)) (by omega) (by omega)]
  by_cases h2 : 1048576 - (a.length : Int) - (b.length : Int) < 0
  · rw [if_pos h2, Option.bind_some, if_pos (by omega), Option.bind_some, if_pos (by omega)]
  rw [if_neg h2, Option.bind_some, if_neg h2, Option.bind_some, if_neg h2]
  unfold laws_toSlots.f impl_SlotsOk.f laws_eqSlots.f
  rw [toByte_ev (xs := a) (by omega) (by omega), toByte_ev (xs := b) (by omega) (by omega)]
  have hs : impl_areSlots.f a b = spec_SlotsOk.f a b := rfl
  obtain ⟨q, hq⟩ : ∃ q, spec_SlotsOk.f a b = some q := by
    unfold spec_SlotsOk.f; split
    · exact ⟨_, rfl⟩
    · exact ⟨_, rfl⟩
  simp only [Option.bind_some, hs, hq]
  rw [if_neg (by simp), eqByte_ev (xs := a) (by omega) (by omega), eqByte_ev (xs := b) (by omega) (by omega)]
  simp

end Go.Proofs.Ytahnodgbfonlhaa.Pure
