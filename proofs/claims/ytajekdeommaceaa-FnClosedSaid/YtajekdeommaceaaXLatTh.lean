import Derived.Test.YtajekdeommaceaaXLA
namespace Go.Eng.T
open Go.Proofs Go.Eng
set_option maxRecDepth 100000

theorem side_refl {N : Nat} {up : List Int} {u : Bool} (h : LatI N up) {a : Int} (ha : 0 ≤ a ∧ a < N) : side up a a u = true := by
  have := (h.2.2.2.2.1 a ha.1 ha.2).1
  unfold side; split <;> exact this

theorem row_of {N : Nat} {up : List Int} (h : LatI N up) {a b : Int} (ha : 0 ≤ a ∧ a < N) (hb : 0 ≤ b ∧ b < N) : RowB N up a b := by
  have := (h.2.2.2.2.1 a ha.1 ha.2).2 b hb.1 (by rw [Int.toNat_natCast]; omega)
  rwa [Int.toNat_natCast] at this

theorem side_trans {N : Nat} {up : List Int} {u : Bool} (h : LatI N up) {a b c : Int} (ha : 0 ≤ a ∧ a < N) (hb : 0 ≤ b ∧ b < N) (hc : 0 ≤ c ∧ c < N) (h1 : side up a b u = true) (h2 : side up b c u = true) : side up a c u = true := by
  unfold side at *
  cases u
  · simp only [Bool.false_eq_true, if_false] at *
    exact (row_of h hc hb).2 a ha.1 ha.2 h2 h1
  · simp only [if_true] at *
    exact (row_of h ha hb).2 c hc.1 hc.2 h1 h2

theorem side_anti {N : Nat} {up : List Int} {u : Bool} (h : LatI N up) {a b : Int} (ha : 0 ≤ a ∧ a < N) (hb : 0 ≤ b ∧ b < N) (h1 : side up a b u = true) (h2 : side up b a u = true) : a = b := by
  apply Decidable.byContradiction
  intro hne
  unfold side at *
  cases u
  · simp only [Bool.false_eq_true, if_false] at *
    exact (row_of h ha hb).1 ⟨hne, h2, h1⟩
  · simp only [if_true] at *
    exact (row_of h ha hb).1 ⟨hne, h1, h2⟩

theorem fitsTo_iff {up : List Int} {a b c : Int} {u : Bool} {N : Nat} : fitsTo up a b u c N = true ↔ side up a c u = true ∧ side up b c u = true ∧ ∀ d : Int, 0 ≤ d → d < N → side up a d u = true → side up b d u = true → side up c d u = true := by
  simp only [fitsTo, Bool.and_eq_true, List.all_eq_true, List.mem_range, Bool.or_eq_true, Bool.not_eq_true', Bool.and_eq_false_iff]
  constructor
  · rintro ⟨⟨h1, h2⟩, h3⟩
    refine ⟨h1, h2, fun d d0 d1 h4 h5 => ?_⟩
    rcases h3 d.toNat (by omega) with h | h
    · rw [show ((d.toNat : Nat) : Int) = d by omega] at h
      rcases h with h | h <;> simp_all
    · rwa [show ((d.toNat : Nat) : Int) = d by omega] at h
  · rintro ⟨h1, h2, h3⟩
    refine ⟨⟨h1, h2⟩, fun d hd => ?_⟩
    cases h4 : side up a d u
    · simp
    · cases h5 : side up b d u
      · simp
      · exact .inr (h3 d (by omega) (by omega) h4 h5)

theorem bound_ok {N : Nat} {up : List Int} {a b : Int} {u : Bool} (h : 0 ≤ bound N up a b u) : bound N up a b u < N ∧ side up a (bound N up a b u) u = true ∧ side up b (bound N up a b u) u = true ∧
    ∀ d : Int, 0 ≤ d → d < N → side up a d u = true → side up b d u = true → side up (bound N up a b u) d u = true := by
  cases hc : (List.range N).find? fun (c : Nat) => fitsTo up a b u c N with
  | none => simp only [bound, hc] at h; omega
  | some c =>
    have e : bound N up a b u = c := by simp only [bound, hc]
    rw [e]
    have h1 := List.mem_range.1 (List.mem_of_find?_eq_some hc)
    have h2 : fitsTo up a b u c N = true := List.find?_some (p := fun (c : Nat) => fitsTo up a b u c N) hc
    exact ⟨by omega, fitsTo_iff.1 h2⟩

theorem bound_ex {N : Nat} {up : List Int} {a b c : Int} {u : Bool} (hc : 0 ≤ c ∧ c < N) (h : fitsTo up a b u c N = true) : 0 ≤ bound N up a b u := by
  unfold bound
  split
  · omega
  · rename_i h1
    have := List.find?_eq_none.1 h1 c.toNat (List.mem_range.2 (by omega))
    rw [show ((c.toNat : Nat) : Int) = c by omega] at this
    exact absurd h this

theorem bound_symm {N : Nat} {up : List Int} {a b : Int} {u : Bool} : bound N up a b u = bound N up b a u := by
  have : (fun c : Nat => fitsTo up a b u c N) = fun c : Nat => fitsTo up b a u c N := by
    funext c
    rw [Bool.eq_iff_iff, fitsTo_iff, fitsTo_iff]
    exact ⟨fun ⟨h1, h2, h3⟩ => ⟨h2, h1, fun d a b c e => h3 d a b e c⟩, fun ⟨h1, h2, h3⟩ => ⟨h2, h1, fun d a b c e => h3 d a b e c⟩⟩
  unfold bound
  rw [this]

theorem bound_is {N : Nat} {up : List Int} {a b c : Int} {u : Bool} (h : LatI N up) (_ : 0 ≤ a ∧ a < N) (_ : 0 ≤ b ∧ b < N) (hc : 0 ≤ c ∧ c < N) (h1 : side up a c u = true) (h2 : side up b c u = true)
    (h3 : ∀ d : Int, 0 ≤ d → d < N → side up a d u = true → side up b d u = true → side up c d u = true) : bound N up a b u = c := by
  have h0 := bound_ex hc (fitsTo_iff.2 ⟨h1, h2, h3⟩)
  obtain ⟨k1, k2, k3, k4⟩ := bound_ok h0
  exact side_anti h ⟨h0, k1⟩ hc (k4 c hc.1 hc.2 h1 h2) (h3 _ h0 k1 k2 k3)

theorem bound_self {N : Nat} {up : List Int} {a : Int} {u : Bool} (ha : 0 ≤ a ∧ a < N) (hr : bit (up.getD a.toNat default) a = true) : 0 ≤ bound N up a a u :=
  bound_ex ha (fitsTo_iff.2 ⟨by unfold side; split <;> exact hr, by unfold side; split <;> exact hr, fun _ _ _ h _ => h⟩)

theorem fdiv_lt {x : Int} {N : Nat} (hN : N ≤ 16) (h0 : 0 ≤ x) : x.fdiv (2 ^ min N IntKind.u64.bits) = 0 ↔ x < 2 ^ N := by
  rw [show min N IntKind.u64.bits = N from by show min N 64 = N; omega]
  have h2 : (0 : Int) < 2 ^ N := Int.pow_pos (by omega)
  rw [Int.fdiv_eq_ediv_of_nonneg _ (by omega)]
  constructor
  · intro h
    have := Int.emod_add_mul_ediv x (2 ^ N)
    rw [h] at this
    have h3 := Int.emod_lt_of_pos x h2
    omega
  · intro h
    exact Int.ediv_eq_zero_of_lt h0 h

theorem words_get {up : List Int} (h : Words up) (i : Nat) : 0 ≤ up.getD i default := by
  by_cases hi : i < up.length
  · rw [List.getD_eq_getElem?_getD, List.getElem?_eq_getElem hi]
    exact (h _ (List.getElem_mem hi)).1
  · rw [List.getD_eq_getElem?_getD, List.getElem?_eq_none (by omega)]
    decide

theorem latI_iff {N : Int} {up : List Int} (hw : Words up) : LatI N up ↔ LatP N up := by
  constructor
  · rintro ⟨h1, h2, h3, h4, h5, h6⟩
    obtain ⟨M, rfl⟩ : ∃ M : Nat, N = M := ⟨N.toNat, by omega⟩
    refine ⟨h1, h2, h3, fun a a0 a1 => ⟨(h5 a a0 a1).1, ?_, (h5 a a0 a1).2⟩, fun a b b0 ba a1 => h6 a b (by omega) a1 b0 (by omega)⟩
    exact (fdiv_lt (by omega) (words_get hw _)).1 (h4 a a0 a1)
  · rintro ⟨h1, h2, h3, h4, h5⟩
    obtain ⟨M, rfl⟩ : ∃ M : Nat, N = M := ⟨N.toNat, by omega⟩
    refine ⟨h1, h2, h3, fun a a0 a1 => (fdiv_lt (by omega) (words_get hw _)).2 (h4 a a0 a1).2.1, fun a a0 a1 => ⟨(h4 a a0 a1).1, (h4 a a0 a1).2.2⟩, fun a b a0 a1 b0 b1 => ?_⟩
    rcases (by omega : b < a ∨ a < b ∨ a = b) with h | h | rfl
    · exact h5 a b b0 h a1
    · rw [bound_symm, bound_symm (u := false)]
      exact h5 b a a0 h b1
    · rw [Int.toNat_natCast]
      exact ⟨bound_self ⟨a0, by omega⟩ (h4 a a0 a1).1, bound_self ⟨a0, by omega⟩ (h4 a a0 a1).1⟩

theorem endTo_side {N : Nat} {up : List Int} {u : Bool} (h : LatI N up) : ∀ k : Nat, k ≤ N → ∀ i : Int, 0 ≤ i → i < k → side up i (endTo N up u k) u = true
  | 0, _, i, h0, h1 => by omega
  | k + 1, hk, i, h0, h1 => by
    obtain ⟨e1, e2⟩ := endTo_ok (u := u) h k (by omega)
    have e3 := endTo_ok (u := u) h (k + 1) hk
    have hb : 0 ≤ bound N up (endTo N up u k) k u := e3.1
    obtain ⟨b1, b2, b3, _⟩ := bound_ok hb
    by_cases hi : i < k
    · exact side_trans h ⟨h0, by omega⟩ ⟨e1, e2⟩ e3 (endTo_side h k (by omega) i h0 hi) b2
    · rw [show i = k by omega]; exact b3

/-- What a lattice's joins and meets are. -/
structure Joined (N : Nat) (up : List Int) (a b j m c : Int) : Prop where
  aj : bit (up.getD a.toNat default) j = true
  bj : bit (up.getD b.toNat default) j = true
  above : (bit (up.getD a.toNat default) c = true ∧ bit (up.getD b.toNat default) c = true) ↔ bit (up.getD j.toNat default) c = true
  below : (bit (up.getD c.toNat default) a = true ∧ bit (up.getD c.toNat default) b = true) ↔ bit (up.getD c.toNat default) m = true
  le : bit (up.getD a.toNat default) b = true ↔ j = b
  ma : m = a ↔ j = b
  jr : 0 ≤ j ∧ j < N
  mr : 0 ≤ m ∧ m < N

theorem joined {N : Nat} {up : List Int} (h : LatI N up) {a b c : Int} (ha : 0 ≤ a ∧ a < N) (hb : 0 ≤ b ∧ b < N) (hc : 0 ≤ c ∧ c < N) : Joined N up a b (bound N up a b true) (bound N up a b false) c := by
  have h6 := h.2.2.2.2.2 a b ha.1 ha.2 hb.1 hb.2
  rw [Int.toNat_natCast] at h6
  obtain ⟨j1, j2, j3, j4⟩ := bound_ok h6.1
  obtain ⟨m1, m2, m3, m4⟩ := bound_ok h6.2
  have le1 : bit (up.getD a.toNat default) b = true ↔ bound N up a b true = b := by
    constructor
    · intro hl
      exact bound_is h ha hb hb (by simpa [side] using hl) (side_refl h hb) fun d _ _ _ hd => hd
    · intro e; rw [e] at j2; simpa [side] using j2
  have le2 : bit (up.getD a.toNat default) b = true ↔ bound N up a b false = a := by
    constructor
    · intro hl
      exact bound_is h ha hb ha (side_refl h ha) (by simpa [side] using hl) fun d _ _ hd _ => hd
    · intro e; rw [e] at m3; simpa [side] using m3
  refine ⟨by simpa [side] using j2, by simpa [side] using j3, ⟨fun ⟨x, y⟩ => ?_, fun x => ⟨?_, ?_⟩⟩, ⟨fun ⟨x, y⟩ => ?_, fun x => ⟨?_, ?_⟩⟩, le1, le2.symm.trans le1, ⟨h6.1, j1⟩, ⟨h6.2, m1⟩⟩
  · simpa [side] using j4 c hc.1 hc.2 (by simpa [side] using x) (by simpa [side] using y)
  · simpa [side] using side_trans (u := true) h ha ⟨h6.1, j1⟩ hc j2 (by simpa [side] using x)
  · simpa [side] using side_trans (u := true) h hb ⟨h6.1, j1⟩ hc j3 (by simpa [side] using x)
  · simpa [side] using m4 c hc.1 hc.2 (by simpa [side] using x) (by simpa [side] using y)
  · simpa [side] using side_trans (u := false) h ha ⟨h6.2, m1⟩ hc m2 (by simpa [side] using x)
  · simpa [side] using side_trans (u := false) h hb ⟨h6.2, m1⟩ hc m3 (by simpa [side] using x)
end Go.Eng.T
