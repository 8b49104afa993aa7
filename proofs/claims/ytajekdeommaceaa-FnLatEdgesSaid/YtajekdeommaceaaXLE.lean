import Derived.Test.YtajekdeommaceaaXLatTh
import Derived.Test.YtajekdeommaceaaXL6
import Derived.Test.YtajekdeommaceaaXLD
import Derived.Test.YtajekdeommaceaaXL20h
import Derived.Test.YtajekdeommaceaaXL23
import Derived.Test.YtajekdeommaceaaXL18
namespace Go.Eng.T
open Go.Proofs Go.Eng
set_option maxRecDepth 100000

/-- Numbers by their bits. -/
theorem bit_testBit {n k : Nat} (_ : n < 2 ^ 64) (hk : k ≤ 60) : bit (n : Int) (k : Int) = n.testBit k := by
  unfold bit
  rw [wrap_u64 (x := (k : Int)) (by omega), Int.toNat_natCast, show min k IntKind.u64.bits = k from by show min k 64 = k; omega]
  have h2 : (0 : Int) < 2 ^ k := Int.pow_pos (by omega)
  rw [Int.fdiv_eq_ediv_of_nonneg _ (by omega)]
  have e : ((n : Int) / 2 ^ k) = ((n / 2 ^ k : Nat) : Int) := by push_cast; rfl
  rw [e]
  show (IntKind.u64.wrap ↑((BitVec.ofInt 64 ((n / 2 ^ k : Nat) : Int)) &&& (BitVec.ofInt 64 1)).toNat == 1) = _
  have e3 : ((BitVec.ofInt 64 ((n / 2 ^ k : Nat) : Int)) &&& (BitVec.ofInt 64 1)).toNat = n / 2 ^ k % 2 := by
    rw [BitVec.toNat_and, BitVec.ofInt_natCast, BitVec.toNat_ofNat]
    show (n / 2 ^ k % 2 ^ 64) &&& 1 = _
    rw [Nat.and_one_is_mod]
    omega
  rw [e3, wrap_u64 (by omega), Nat.testBit_eq_decide_div_mod_eq, Bool.eq_iff_iff]
  simp only [beq_iff_eq, decide_eq_true_eq]
  omega

theorem pow_int (n : Nat) : ((2 ^ n : Nat) : Int) = (2 : Int) ^ n := by push_cast; rfl
theorem pow16 {N : Nat} (hN : N ≤ 16) : (2 : Nat) ^ N ≤ 65536 := Nat.pow_le_pow_right (n := 2) (by omega) hN

theorem word_nat {x : Int} {N : Nat} (hN : N ≤ 16) (h : 0 ≤ x ∧ x < 2 ^ N) : ∃ n : Nat, x = n ∧ n < 2 ^ N ∧ n < 2 ^ 64 := by
  rw [← pow_int] at h
  have := pow16 hN
  exact ⟨x.toNat, by omega, by omega, by omega⟩

theorem word_ext {N : Nat} (hN : N ≤ 16) {x y : Int} (hx : 0 ≤ x ∧ x < 2 ^ N) (hy : 0 ≤ y ∧ y < 2 ^ N) (h : ∀ b : Int, 0 ≤ b → b < N → bit x b = bit y b) : x = y := by
  obtain ⟨n, rfl, n1, n2⟩ := word_nat hN hx
  obtain ⟨m, rfl, m1, m2⟩ := word_nat hN hy
  congr 1
  refine Nat.eq_of_testBit_eq fun i => ?_
  by_cases hi : i < N
  · have := h i (by omega) (by omega)
    rwa [bit_testBit n2 (by omega), bit_testBit m2 (by omega)] at this
  · have h1 : n < 2 ^ i := Nat.lt_of_lt_of_le n1 (Nat.pow_le_pow_right (by omega) (by omega))
    have h2 : m < 2 ^ i := Nat.lt_of_lt_of_le m1 (Nat.pow_le_pow_right (by omega) (by omega))
    rw [Nat.testBit_lt_two_pow h1, Nat.testBit_lt_two_pow h2]

theorem word_one {N : Nat} (hN : N ≤ 16) {a : Int} (ha : 0 ≤ a ∧ a < N) : (0 ≤ (2 : Int) ^ a.toNat ∧ (2 : Int) ^ a.toNat < 2 ^ N) ∧ ∀ b : Int, 0 ≤ b → b < N → bit ((2 : Int) ^ a.toNat) b = decide (a = b) := by
  obtain ⟨k, rfl⟩ : ∃ k : Nat, a = k := ⟨a.toNat, by omega⟩
  rw [Int.toNat_natCast, ← pow_int, ← pow_int]
  have h1 : 2 ^ k < 2 ^ N := Nat.pow_lt_pow_right (by omega) (by omega)
  have h2 := pow16 hN
  refine ⟨⟨Int.natCast_nonneg _, Int.ofNat_lt.2 h1⟩, fun b b0 b1 => ?_⟩
  obtain ⟨j, rfl⟩ : ∃ j : Nat, b = j := ⟨b.toNat, by omega⟩
  rw [bit_testBit (by omega) (by omega), Nat.testBit_two_pow, Bool.eq_iff_iff]
  simp only [decide_eq_true_eq]
  omega

/-- The 'or' of two words, as the program forms it. -/
abbrev orW (x y : Int) : Int := IntKind.u64.wrap ↑((fun x1 x2 => x1 ||| x2) (BitVec.ofInt IntKind.u64.bits x) (BitVec.ofInt IntKind.u64.bits y)).toNat
theorem word_or {N : Nat} (hN : N ≤ 16) {x y : Int} (hx : 0 ≤ x ∧ x < 2 ^ N) (hy : 0 ≤ y ∧ y < 2 ^ N) : (0 ≤ orW x y ∧ orW x y < 2 ^ N) ∧ ∀ b : Int, 0 ≤ b → b < N → bit (orW x y) b = (bit x b || bit y b) := by
  obtain ⟨n, rfl, n1, n2⟩ := word_nat hN hx
  obtain ⟨m, rfl, m1, m2⟩ := word_nat hN hy
  have h2 := pow16 hN
  have e3 : ((BitVec.ofInt 64 (n : Int)) ||| (BitVec.ofInt 64 (m : Int))).toNat = n ||| m := by
    rw [BitVec.toNat_or, BitVec.ofInt_natCast, BitVec.ofInt_natCast, BitVec.toNat_ofNat, BitVec.toNat_ofNat, Nat.mod_eq_of_lt n2, Nat.mod_eq_of_lt m2]
  have h3 : n ||| m < 2 ^ N := Nat.or_lt_two_pow n1 m1
  have e : orW (n : Int) (m : Int) = ((n ||| m : Nat) : Int) := by
    show IntKind.u64.wrap ↑((BitVec.ofInt 64 (n : Int)) ||| (BitVec.ofInt 64 (m : Int))).toNat = _
    rw [e3, wrap_u64 (by omega)]
  rw [e, ← pow_int]
  refine ⟨⟨by omega, by omega⟩, fun b b0 b1 => ?_⟩
  obtain ⟨j, rfl⟩ : ∃ j : Nat, b = j := ⟨b.toNat, by omega⟩
  rw [bit_testBit (by omega) (by omega), bit_testBit n2 (by omega), bit_testBit m2 (by omega), Nat.testBit_or]

/-- A relation on the labels. -/
abbrev Rel := Int → Int → Bool
structure OrdR (N : Nat) (L : Rel) : Prop where
  refl : ∀ a, 0 ≤ a → a < (N : Int) → L a a = true
  anti : ∀ a b, 0 ≤ a → a < (N : Int) → 0 ≤ b → b < (N : Int) → L a b = true → L b a = true → a = b
  trans : ∀ a b c, 0 ≤ a → a < (N : Int) → 0 ≤ b → b < (N : Int) → 0 ≤ c → c < (N : Int) → L a b = true → L b c = true → L a c = true

/-- b is the next above a. -/
def Cov (N : Nat) (L : Rel) (a b : Int) : Prop := a ≠ b ∧ L a b = true ∧ ∀ c, 0 ≤ c → c < (N : Int) → c ≠ a → c ≠ b → L a c = true → L c b = true → False

theorem count_lt {p q : Nat → Bool} : ∀ {l : List Nat}, (∀ x ∈ l, p x = true → q x = true) → (∃ x ∈ l, q x = true ∧ p x = false) → l.countP p < l.countP q
  | [], _, h => by obtain ⟨x, hx, _⟩ := h; cases hx
  | y :: l, h, ⟨x, hx, h1, h2⟩ => by
    have le : l.countP p ≤ l.countP q := List.countP_mono_left fun z hz => h z (List.mem_cons_of_mem _ hz)
    rw [List.countP_cons, List.countP_cons]
    rcases List.mem_cons.1 hx with rfl | hx
    · rw [h1, h2]; simp; omega
    · have := count_lt (l := l) (fun z hz => h z (List.mem_cons_of_mem _ hz)) ⟨x, hx, h1, h2⟩
      have h3 := h y List.mem_cons_self
      cases hp : p y <;> cases hq : q y
      · simp; omega
      · simp; omega
      · rw [h3 hp] at hq; cases hq
      · simp; omega

theorem gen {N : Nat} {L R : Rel} (h : OrdR N L) (refl : ∀ a, 0 ≤ a → a < (N : Int) → R a a = true) (cov : ∀ a b, 0 ≤ a → a < (N : Int) → 0 ≤ b → b < (N : Int) → Cov N L a b → R a b = true)
    (trans : ∀ a b c, 0 ≤ a → a < (N : Int) → 0 ≤ b → b < (N : Int) → 0 ≤ c → c < (N : Int) → R a b = true → R b c = true → R a c = true) :
    ∀ (m : Nat) (a b : Int), 0 ≤ a → a < (N : Int) → 0 ≤ b → b < (N : Int) → (List.range N).countP (fun (d : Nat) => L a d && L d b) ≤ m → L a b = true → R a b = true := by
  intro m
  induction m with
  | zero =>
    intro a b a0 a1 b0 b1 hm hL
    have h0 : (List.range N).countP (fun (d : Nat) => L a d && L d b) = 0 := by omega
    rw [List.countP_eq_zero] at h0
    have := h0 a.toNat (List.mem_range.2 (by omega))
    rw [show ((a.toNat : Nat) : Int) = a by omega, h.refl a a0 a1, hL] at this
    exact absurd rfl this
  | succ m ih =>
    intro a b a0 a1 b0 b1 hm hL
    by_cases hab : a = b
    · subst hab; exact refl a a0 a1
    by_cases hc : ∃ c : Int, 0 ≤ c ∧ c < N ∧ c ≠ a ∧ c ≠ b ∧ L a c = true ∧ L c b = true
    · obtain ⟨c, c0, c1, ca, cb, h1, h2⟩ := hc
      refine trans a c b a0 a1 c0 c1 b0 b1 (ih a c a0 a1 c0 c1 ?_ h1) (ih c b c0 c1 b0 b1 ?_ h2)
      · have : (List.range N).countP (fun (d : Nat) => L a d && L d c) < (List.range N).countP (fun (d : Nat) => L a d && L d b) := by
          refine count_lt (fun d hd k => ?_) ⟨b.toNat, List.mem_range.2 (by omega), ?_, ?_⟩
          · simp only [Bool.and_eq_true] at k ⊢
            have := List.mem_range.1 hd
            exact ⟨k.1, h.trans d c b (by omega) (by omega) c0 c1 b0 b1 k.2 h2⟩
          · rw [show ((b.toNat : Nat) : Int) = b by omega, hL, h.refl b b0 b1]; rfl
          · rw [show ((b.toNat : Nat) : Int) = b by omega, hL, Bool.true_and]
            exact Bool.eq_false_iff.2 fun k => cb (h.anti c b c0 c1 b0 b1 h2 k)
        omega
      · have : (List.range N).countP (fun (d : Nat) => L c d && L d b) < (List.range N).countP (fun (d : Nat) => L a d && L d b) := by
          refine count_lt (fun d hd k => ?_) ⟨a.toNat, List.mem_range.2 (by omega), ?_, ?_⟩
          · simp only [Bool.and_eq_true] at k ⊢
            have := List.mem_range.1 hd
            exact ⟨h.trans a c d a0 a1 c0 c1 (by omega) (by omega) h1 k.1, k.2⟩
          · rw [show ((a.toNat : Nat) : Int) = a by omega, hL, h.refl a a0 a1]; rfl
          · rw [show ((a.toNat : Nat) : Int) = a by omega, hL, Bool.and_true]
            exact Bool.eq_false_iff.2 fun k => ca (h.anti c a c0 c1 a0 a1 k h1)
        omega
    · exact cov a b a0 a1 b0 b1 ⟨hab, hL, fun c c0 c1 ca cb h1 h2 => hc ⟨c, c0, c1, ca, cb, h1, h2⟩⟩

/-- The closure after k rounds. -/
structure WInv (N : Nat) (L : Rel) (k : Int) (R : Rel) : Prop where
  sound : ∀ a b, 0 ≤ a → a < (N : Int) → 0 ≤ b → b < (N : Int) → R a b = true → L a b = true
  refl : ∀ a, 0 ≤ a → a < (N : Int) → R a a = true
  cov : ∀ a b, 0 ≤ a → a < (N : Int) → 0 ≤ b → b < (N : Int) → Cov N L a b → R a b = true
  thru : ∀ c, 0 ≤ c → c < k → ∀ a b, 0 ≤ a → a < (N : Int) → 0 ≤ b → b < (N : Int) → R a c = true → R c b = true → R a b = true

theorem WInv.step {N : Nat} {L R R' : Rel} {k : Int} (hL : OrdR N L) (k0 : 0 ≤ k) (kN : k < N) (h : WInv N L k R) (hs : ∀ a b, 0 ≤ a → a < (N : Int) → 0 ≤ b → b < (N : Int) → R' a b = (R a b || (R a k && R k b))) : WInv N L (k + 1) R' := by
  refine ⟨fun a b a0 a1 b0 b1 hr => ?_, fun a a0 a1 => ?_, fun a b a0 a1 b0 b1 hc => ?_, fun c c0 ck a b a0 a1 b0 b1 h1 h2 => ?_⟩
  · rw [hs a b a0 a1 b0 b1, Bool.or_eq_true, Bool.and_eq_true] at hr
    rcases hr with hr | ⟨h1, h2⟩
    · exact h.sound a b a0 a1 b0 b1 hr
    · exact hL.trans a k b a0 a1 k0 kN b0 b1 (h.sound a k a0 a1 k0 kN h1) (h.sound k b k0 kN b0 b1 h2)
  · rw [hs a a a0 a1 a0 a1, h.refl a a0 a1]; rfl
  · rw [hs a b a0 a1 b0 b1, h.cov a b a0 a1 b0 b1 hc]; rfl
  · have cN : c < N := by omega
    rw [hs a c a0 a1 c0 cN, Bool.or_eq_true, Bool.and_eq_true] at h1
    rw [hs c b c0 cN b0 b1, Bool.or_eq_true, Bool.and_eq_true] at h2
    rw [hs a b a0 a1 b0 b1, Bool.or_eq_true, Bool.and_eq_true]
    by_cases e : c = k
    · subst e
      have h3 : R a c = true := by rcases h1 with h1 | h1; exact h1; exact h1.1
      have h4 : R c b = true := by rcases h2 with h2 | h2; exact h2; exact h2.2
      exact .inr ⟨h3, h4⟩
    · have t := h.thru c c0 (by omega)
      rcases h1 with h1 | h1 <;> rcases h2 with h2 | h2
      · exact .inl (t a b a0 a1 b0 b1 h1 h2)
      · exact .inr ⟨t a k a0 a1 k0 kN h1 h2.1, h2.2⟩
      · exact .inr ⟨h1.1, t k b k0 kN b0 b1 h1.2 h2⟩
      · exact .inr ⟨h1.1, h2.2⟩

theorem WInv.done {N : Nat} {L R : Rel} (hL : OrdR N L) (h : WInv N L N R) {a b : Int} (a0 : 0 ≤ a) (a1 : a < N) (b0 : 0 ≤ b) (b1 : b < N) : R a b = L a b := by
  rw [Bool.eq_iff_iff]
  exact ⟨h.sound a b a0 a1 b0 b1, gen hL h.refl h.cov (fun a b c a0 a1 b0 b1 c0 c1 h1 h2 => h.thru b b0 b1 a c a0 a1 c0 c1 h1 h2) _ a b a0 a1 b0 b1 (Nat.le_refl _)⟩

/-- The relation of words. -/
abbrev relW (w : List Int) : Rel := fun a b => bit (w.getD a.toNat default) b

theorem latI_ord {N : Nat} {up : List Int} (h : LatI N up) : OrdR N (relW up) := by
  refine ⟨fun a a0 a1 => (h.2.2.2.2.1 a a0 a1).1, fun a b a0 a1 b0 b1 h1 h2 => ?_, fun a b c a0 a1 b0 b1 c0 c1 h1 h2 => ?_⟩
  · exact side_anti (u := true) h ⟨a0, a1⟩ ⟨b0, b1⟩ h1 h2
  · exact side_trans (u := true) h ⟨a0, a1⟩ ⟨b0, b1⟩ ⟨c0, c1⟩ h1 h2

/-- Words of N labels. -/
def WordsN (N : Nat) (w : List Int) : Prop := w.length = N ∧ ∀ a : Int, 0 ≤ a → a < N → 0 ≤ w.getD a.toNat default ∧ w.getD a.toNat default < 2 ^ N

theorem words_eq {N : Nat} (hN : N ≤ 16) {v w : List Int} (hv : WordsN N v) (hw : WordsN N w) (h : ∀ a b : Int, 0 ≤ a → a < N → 0 ≤ b → b < N → relW v a b = relW w a b) : v = w := by
  refine List.ext_getElem (by rw [hv.1, hw.1]) fun i h1 h2 => ?_
  have h3 := word_ext hN (hv.2 i (by omega) (by have := hv.1; omega)) (hw.2 i (by omega) (by have := hw.1; omega)) (fun b b0 b1 => h i b (by omega) (by have := hv.1; omega) b0 b1)
  rw [Int.toNat_natCast, List.getD_eq_getElem?_getD, List.getD_eq_getElem?_getD, List.getElem?_eq_getElem h1, List.getElem?_eq_getElem h2] at h3
  exact h3

theorem latI_words {N : Nat} {up : List Int} (hw : Words up) (h : LatI N up) : WordsN N up := by
  refine ⟨by have := h.2.2.1; omega, fun a a0 a1 => ⟨words_get hw _, ?_⟩⟩
  have := h.2.2.2.1 a a0 a1
  rw [Int.toNat_natCast] at this
  exact (fdiv_lt (by have := h.2.1; omega) (words_get hw _)).1 this

theorem getD_set {w : List Int} {a i : Int} {x : Int} (ha : 0 ≤ a ∧ a < w.length) (hi : 0 ≤ i) : (w.set a.toNat x).getD i.toNat default = if i = a then x else w.getD i.toNat default := by
  rw [List.getD_eq_getElem?_getD, List.getD_eq_getElem?_getD, List.getElem?_set]
  by_cases h : i = a
  · subst h; rw [if_pos rfl, if_pos (by omega)]; simp
  · rw [if_neg (by omega), if_neg h]

/-- What lies between. -/
def btw (up : List Int) (a b : Int) (k : Nat) : Bool := (List.range k).any fun (c : Nat) => (c : Int) != a && ((c : Int) != b && (bit (up.getD a.toNat default) c && bit (up.getD c default) b))
theorem btw_zero {up : List Int} {a b : Int} : btw up a b 0 = false := rfl
theorem btw_succ {up : List Int} {a b : Int} {k : Nat} : btw up a b (k + 1) = (btw up a b k || ((k : Int) != a && ((k : Int) != b && (bit (up.getD a.toNat default) k && bit (up.getD k default) b)))) := by
  simp only [btw, List.range_succ, List.any_append, List.any_cons, List.any_nil, Bool.or_false]
def covB (N : Nat) (up : List Int) (a b : Int) : Bool := a != b && (bit (up.getD a.toNat default) b && !btw up a b N)
theorem covB_iff {N : Nat} {up : List Int} {a b : Int} : covB N up a b = true ↔ Cov N (relW up) a b := by
  simp only [covB, Cov, relW, Bool.and_eq_true, bne_iff_ne, ne_eq, Bool.not_eq_true', btw, List.any_eq_false, List.mem_range, Bool.and_eq_true, bne_iff_ne]
  constructor
  · rintro ⟨h1, h2, h3⟩
    refine ⟨h1, h2, fun c c0 c1 ca cb k1 k2 => h3 c.toNat (by omega) ?_⟩
    rw [show ((c.toNat : Nat) : Int) = c by omega]
    exact ⟨ca, cb, k1, k2⟩
  · rintro ⟨h1, h2, h3⟩
    refine ⟨h1, h2, fun c hc => ?_⟩
    rintro ⟨k1, k2, k3, k4⟩
    exact h3 c (by omega) (by omega) k1 k2 k3 (by rw [Int.toNat_natCast]; exact k4)

def rowE (N : Nat) (up : List Int) (a : Int) (k : Nat) : List (Int × Int) := ((List.range k).filter fun (b : Nat) => covB N up a b).map fun (b : Nat) => (a, (b : Int))
def edgeE (N : Nat) (up : List Int) : Nat → List (Int × Int)
  | 0 => []
  | k + 1 => edgeE N up k ++ rowE N up k N
theorem rowE_zero {N : Nat} {up : List Int} {a : Int} : rowE N up a 0 = [] := rfl
theorem rowE_succ {N : Nat} {up : List Int} {a : Int} {k : Nat} : rowE N up a (k + 1) = if covB N up a k then rowE N up a k ++ [(a, (k : Int))] else rowE N up a k := by
  unfold rowE
  rw [List.range_succ, List.filter_append, List.map_append, List.filter_cons]
  split <;> simp
theorem rowE_len {N : Nat} {up : List Int} {a : Int} {k : Nat} : (rowE N up a k).length ≤ k := by
  unfold rowE
  rw [List.length_map]
  exact Nat.le_trans (List.length_filter_le _ _) (by simp)
theorem edgeE_len {N : Nat} {up : List Int} : ∀ {k : Nat}, (edgeE N up k).length ≤ k * N
  | 0 => by simp [edgeE]
  | k + 1 => by
    have h1 := edgeE_len (N := N) (up := up) (k := k)
    have h2 := rowE_len (N := N) (up := up) (a := k) (k := N)
    rw [edgeE, List.length_append, Nat.add_mul]
    omega
theorem rowE_mem {N : Nat} {up : List Int} {a : Int} {k : Nat} {e : Int × Int} : e ∈ rowE N up a k ↔ e.1 = a ∧ 0 ≤ e.2 ∧ e.2 < k ∧ covB N up a e.2 = true := by
  simp only [rowE, List.mem_map, List.mem_filter, List.mem_range]
  constructor
  · rintro ⟨b, ⟨h1, h2⟩, rfl⟩
    exact ⟨rfl, Int.natCast_nonneg _, by simpa using h1, h2⟩
  · rintro ⟨h1, h2, h3, h4⟩
    refine ⟨e.2.toNat, ⟨by omega, ?_⟩, ?_⟩
    · rw [show ((e.2.toNat : Nat) : Int) = e.2 by omega]; exact h4
    · rw [show ((e.2.toNat : Nat) : Int) = e.2 by omega, ← h1]
theorem edgeE_mem {N : Nat} {up : List Int} {e : Int × Int} : ∀ {k : Nat}, e ∈ edgeE N up k ↔ 0 ≤ e.1 ∧ e.1 < k ∧ 0 ≤ e.2 ∧ e.2 < N ∧ covB N up e.1 e.2 = true
  | 0 => by simp [edgeE]; omega
  | k + 1 => by
    rw [edgeE, List.mem_append, edgeE_mem (k := k), rowE_mem]
    constructor
    · rintro (⟨h1, h2, h3⟩ | ⟨h1, h2, h3, h4⟩)
      · exact ⟨h1, by omega, h3⟩
      · exact ⟨by omega, by omega, h2, h3, by rw [h1]; exact h4⟩
    · rintro ⟨h1, h2, h3, h4, h5⟩
      rcases (by omega : e.1 < (k : Int) ∨ e.1 = (k : Int)) with h | h
      · exact .inl ⟨h1, h, h3, h4, h5⟩
      · exact .inr ⟨h, h3, h4, by rw [← h]; exact h5⟩

/-- The words once the edges are in. -/
theorem WInv.start {N : Nat} {up w : List Int} (hI : LatI N up) (h : ∀ a b : Int, 0 ≤ a → a < N → 0 ≤ b → b < N → (relW w a b = true ↔ a = b ∨ (a, b) ∈ edgeE N up N)) : WInv N (relW up) 0 (relW w) := by
  have hO := latI_ord hI
  refine ⟨fun a b a0 a1 b0 b1 hr => ?_, fun a a0 a1 => (h a a a0 a1 a0 a1).2 (.inl rfl), fun a b a0 a1 b0 b1 hc => (h a b a0 a1 b0 b1).2 (.inr ?_), fun c c0 c1 => by omega⟩
  · rcases (h a b a0 a1 b0 b1).1 hr with rfl | hm
    · exact hO.refl a a0 a1
    · exact (covB_iff.1 (edgeE_mem.1 hm).2.2.2.2).2.1
  · exact edgeE_mem.2 ⟨a0, a1, b0, b1, covB_iff.2 hc⟩

/-- One more edge. -/
theorem edge_step {N : Nat} (hN : N ≤ 16) {w : List Int} (hw : WordsN N w) {lo hi : Int} (h1 : 0 ≤ lo ∧ lo < N) (h2 : 0 ≤ hi ∧ hi < N) :
    WordsN N (w.set lo.toNat (orW (w.getD lo.toNat default) (2 ^ hi.toNat))) ∧ ∀ a b : Int, 0 ≤ a → a < N → 0 ≤ b → b < N → (relW (w.set lo.toNat (orW (w.getD lo.toNat default) (2 ^ hi.toNat))) a b = true ↔ relW w a b = true ∨ (a, b) = (lo, hi)) := by
  have o := word_one hN h2
  have r := word_or hN (hw.2 lo h1.1 h1.2) o.1
  have hl := hw.1
  refine ⟨⟨by rw [List.length_set]; exact hw.1, fun a a0 a1 => ?_⟩, fun a b a0 a1 b0 b1 => ?_⟩
  · rw [getD_set (by omega) a0]; split
    · exact r.1
    · exact hw.2 a a0 a1
  · unfold relW
    rw [getD_set (by omega) a0]; split
    · rename_i e
      subst e
      rw [r.2 b b0 b1, o.2 b b0 b1, Bool.or_eq_true, decide_eq_true_eq, Prod.mk.injEq]
      constructor
      · rintro (h | h); exact .inl h; exact .inr ⟨rfl, h.symm⟩
      · rintro (h | h); exact .inl h; exact .inr h.2.symm
    · rename_i e
      rw [Prod.mk.injEq]
      constructor
      · exact .inl
      · rintro (h | h); exact h; exact absurd h.1 e

/-- The rows of a round up to a. -/
def RndInv (N : Nat) (w0 w : List Int) (k a : Int) : Prop := WordsN N w ∧ ∀ i b : Int, 0 ≤ i → i < N → 0 ≤ b → b < N → relW w i b = if i < a then (relW w0 i b || (relW w0 i k && relW w0 k b)) else relW w0 i b
theorem RndInv.start {N : Nat} {w : List Int} {k : Int} (h : WordsN N w) : RndInv N w w k 0 := ⟨h, fun i b i0 _ _ _ => by rw [if_neg (by omega)]⟩
theorem RndInv.skip {N : Nat} {w0 w : List Int} {k a : Int} (h : RndInv N w0 w k a) (ha : 0 ≤ a ∧ a < N) (hk : 0 ≤ k ∧ k < N) (hr : relW w a k = false) : RndInv N w0 w k (a + 1) := by
  refine ⟨h.1, fun i b i0 i1 b0 b1 => ?_⟩
  rw [h.2 i b i0 i1 b0 b1]
  by_cases e : i = a
  · subst e
    have := h.2 i k i0 i1 hk.1 hk.2
    rw [if_neg (by omega)] at this
    rw [if_neg (by omega), if_pos (by omega), ← this, hr]; simp
  · by_cases c : i < a
    · rw [if_pos c, if_pos (by omega)]
    · rw [if_neg c, if_neg (by omega)]
theorem RndInv.join {N : Nat} (hN : N ≤ 16) {w0 w : List Int} {k a : Int} (h : RndInv N w0 w k a) (ha : 0 ≤ a ∧ a < N) (hk : 0 ≤ k ∧ k < N) (hr : relW w a k = true) : RndInv N w0 (w.set a.toNat (orW (w.getD a.toNat default) (w.getD k.toNat default))) k (a + 1) := by
  have r := word_or hN (h.1.2 a ha.1 ha.2) (h.1.2 k hk.1 hk.2)
  have hl := h.1.1
  refine ⟨⟨by rw [List.length_set]; exact hl, fun i i0 i1 => ?_⟩, fun i b i0 i1 b0 b1 => ?_⟩
  · rw [getD_set (by omega) i0]; split
    · exact r.1
    · exact h.1.2 i i0 i1
  · have hak := h.2 a k ha.1 ha.2 hk.1 hk.2
    rw [if_neg (by omega)] at hak
    have hib := h.2 i b i0 i1 b0 b1
    show bit _ b = _
    rw [getD_set (by omega) i0]
    by_cases e : i = a
    · subst e
      have hkb := h.2 k b hk.1 hk.2 b0 b1
      rw [if_neg (by omega)] at hib
      rw [if_pos rfl, if_pos (by omega), r.2 b b0 b1]
      show (relW w i b || relW w k b) = _
      rw [hib, hkb, ← hak, hr]
      split
      · cases relW w0 i b <;> cases relW w0 k b <;> cases relW w0 k k <;> rfl
      · rfl
    · rw [if_neg e]
      show relW w i b = _
      rw [hib]
      by_cases c : i < a
      · rw [if_pos c, if_pos (by omega)]
      · rw [if_neg c, if_neg (by omega)]
theorem RndInv.fin {N : Nat} {L : Rel} {w0 w : List Int} {k : Int} (hL : OrdR N L) (hk : 0 ≤ k ∧ k < N) (h0 : WInv N L k (relW w0)) (h : RndInv N w0 w k N) : WInv N L (k + 1) (relW w) :=
  h0.step hL hk.1 hk.2 fun a b a0 a1 b0 b1 => by rw [h.2 a b a0 a1 b0 b1, if_pos a1]
theorem closed_eq {N : Nat} {up w : List Int} (hw : Words up) (hI : LatI N up) (h : WordsN N w) (hc : WInv N (relW up) N (relW w)) : w = up :=
  words_eq (by have := hI.2.1; omega) h (latI_words hw hI) fun _ _ a0 a1 b0 b1 => hc.done (latI_ord hI) a0 a1 b0 b1
end Go.Eng.T

namespace Go.Eng.T
open Go.Proofs Go.Eng
set_option maxRecDepth 100000
set_option maxHeartbeats 0

def annEdges : Ann := { imm := immL [], keep := keepL [(5, [1, 3, 13, 14], [(3, 0), (70, 1)]), (8, [1, 3, 4, 13, 14, 18, 19], [(3, 0), (70, 1)]), (13, [1, 3, 4, 5, 6, 13, 14, 18, 19, 33, 34], [(3, 0), (70, 1)])], sw := swL [(5, (70, 1), [13]), (8, (70, 1), [70])] }
abbrev edgesO (M : Nat) (up : List Int) (l : List (Int × Int)) : Store := mkOb [((3, 0), some (.arr false 2 [latV M up])), ((70, 1), some (.arr true 2 (l.map encE)))]

theorem LatEdgesI.ac (N : Int) (up : List Int) {K : V → List Obj → List Obj → Prop} (hK1 : LatI N up → K (.ls (1, 0) 2 0 (edgeE N.toNat up N.toNat).length) [] [.arr true 2 ((edgeE N.toNat up N.toNat).map encE)]) (hK0 : ¬ LatI N up → K nilS [] []) : AC Try.prog 11 [latV N up] [] K := by
  refine ac_body annEdges [((3, 0), true), ((13, 0), true), ((69, 0), true), ((70, 0), false), ((70, 1), false)] hm htt Try.func11 rfl (by kernel_rfl) rfl rfl ?_
  conv => whnf
  refine isLat.ac _ _ fun r hr => ?_
  conv => whnf
  cases r
  · conv => whnf
    exact hK0 fun h => by have := hr.2 h; cases this
  conv => whnf
  have hL := hr.1 rfl
  obtain ⟨M, rfl⟩ : ∃ M : Nat, N = M := ⟨N.toNat, by have := hL.1; omega⟩
  have hl : (up.map uv).length = M := by rw [List.length_map]; have := hL.2.2.1; omega
  have hM := hL.2.1
  rw [Int.toNat_natCast] at hK1
  refine cwF_loop (fun n st => ∃ (a : Int) (l : List (Int × Int)), (n = (M - a).toNat ∧ 0 ≤ a ∧ a ≤ M ∧ edgeE M up a.toNat = l) ∧
    st = ⟨[.un, .lp (3, 0) 2 0 0, .un, .ls (70, 1) 2 0 l.length] ++ List.replicate 9 .un ++ [iv M, iv a] ++ List.replicate 57 .un, edgesO M up l⟩) M (by kernel_rfl) ⟨0, [], ?_, rfl⟩ ?_
  · exact ⟨by simp, by omega, by omega, rfl⟩
  rintro n st ⟨a, l0, ⟨rfl, a1, a2, el0⟩, rfl⟩
  have ll0 := edgeE_len (N := M) (up := up) (k := a.toNat)
  rw [el0] at ll0
  have m0 : a.toNat * M ≤ 16 * 16 := Nat.mul_le_mul (by omega) (by omega)
  conv => whnf
  refine vif_dec (fun a4 => ?_) (fun a4 => ?_)
  rotate_left
  · conv => whnf
    have eA : a = M := by omega
    subst eA
    rw [Int.toNat_natCast] at el0
    subst el0
    exact hK1 hL
  conv => whnf
  refine cwF_loop (fun n st => ∃ (b : Int) (l : List (Int × Int)), (n = (M - b).toNat ∧ 0 ≤ b ∧ b ≤ M ∧ l0 ++ rowE M up a b.toNat = l) ∧
    st = ⟨[.un, .lp (3, 0) 2 0 0, .un, .ls (70, 1) 2 0 l.length, iv a] ++ List.replicate 8 .un ++ [iv M, iv a, .un, .un, .un, iv M, iv b] ++ List.replicate 52 .un, edgesO M up l⟩) M (by kernel_rfl) ⟨0, l0, ?_, rfl⟩ ?_
  · exact ⟨by simp, by omega, by omega, by rw [Int.toNat_zero, rowE_zero, List.append_nil]⟩
  rintro n st ⟨b, l, ⟨rfl, b1, b2, el⟩, rfl⟩
  have ll : l.length ≤ 16 * 16 + 16 := by
    have := rowE_len (N := M) (up := up) (a := a) (k := b.toNat)
    rw [← el, List.length_append]; omega
  conv => whnf
  refine vif_dec (fun b4 => ?_) (fun b4 => ?_)
  rotate_left
  · conv => whnf
    refine ⟨by kernel_rfl, (M - (a + 1)).toNat, by omega, _, l, ?_, rfl⟩
    rw [wrap_i64 (by omega)]
    refine ⟨rfl, by omega, by omega, ?_⟩
    rw [show (a + 1).toNat = a.toNat + 1 by omega, edgeE, el0, ← el, show ((a.toNat : Nat) : Int) = a by omega, show b.toNat = M by omega]
  have er : l0 ++ rowE M up a (b + 1).toNat = if covB M up a b then l ++ [(a, b)] else l := by
    rw [show (b + 1).toNat = b.toNat + 1 by omega, rowE_succ, show ((b.toNat : Nat) : Int) = b by omega]
    split
    · rw [← List.append_assoc, el]
    · exact el
  conv => whnf
  have nob (hc : covB M up a b = false) : IntKind.i64.wrap (b + 1) = b + 1 ∧ (M - (b + 1)).toNat < (M - b).toNat ∧ (((M : Int) - (b + 1)).toNat = ((M : Int) - (b + 1)).toNat ∧ 0 ≤ b + 1 ∧ b + 1 ≤ M ∧ l0 ++ rowE M up a (b + 1).toNat = l) :=
    ⟨wrap_i64 (by omega), by omega, rfl, by omega, by omega, by rw [er, hc]; rfl⟩
  refine (Bool.eq_false_or_eq_true (a == b)).elim (fun hne => ?_) (fun hne => ?_)
  · refine gif_bool (fun h => absurd h (by rw [hne]; decide)) (fun _ => ?_)
    conv => whnf
    refine gif_bool (fun h => absurd h (by rw [hne]; decide)) (fun _ => ?_)
    conv => whnf
    refine gif_bool (fun h => absurd h (by rw [hne]; decide)) (fun _ => ?_)
    conv => whnf
    refine gif_bool (fun h => absurd h (by rw [hne]; decide)) (fun _ => ?_)
    conv => whnf
    refine gif_bool (fun h => absurd h (by rw [hne]; decide)) (fun _ => ?_)
    conv => whnf
    refine pif_bool (fun _ => ?_) (fun h => absurd h (by rw [hne]; decide))
    conv => whnf
    have hc : covB M up a b = false := by simp only [covB, bne, hne, Bool.not_true, Bool.false_and]
    obtain ⟨k1, k2, k3⟩ := nob hc
    refine ⟨by kernel_rfl, (M - (b + 1)).toNat, k2, _, l, ?_, rfl⟩
    rw [k1]; exact k3
  refine gif_bool (fun _ => ?_) (fun h => absurd h (by rw [hne]; decide))
  conv => whnf
  refine gif_bool (fun _ => ?_) (fun h => absurd h (by rw [hne]; decide))
  conv => whnf
  refine gif_bool (fun _ => ?_) (fun h => absurd h (by rw [hne]; decide))
  conv => whnf
  refine gif_bool (fun _ => ?_) (fun h => absurd h (by rw [hne]; decide))
  conv => whnf
  refine le.ac _ _ a b (by omega) (by omega) fun v1 s1 => ?_
  conv => whnf
  refine gif_bool (fun _ => ?_) (fun h => absurd h (by rw [hne]; decide))
  conv => whnf
  refine pif_bool (fun h => absurd h (by rw [hne]; decide)) (fun _ => ?_)
  conv => whnf
  cases v1
  · conv => whnf
    have hc : covB M up a b = false := by simp only [covB, s1, Bool.false_and, Bool.and_false]
    obtain ⟨k1, k2, k3⟩ := nob hc
    refine ⟨by kernel_rfl, (M - (b + 1)).toNat, k2, _, l, ?_, rfl⟩
    rw [k1]; exact k3
  conv => whnf
  have cv : covB M up a b = !btw up a b M := by simp only [covB, s1, bne, hne, Bool.not_false, Bool.true_and]
  refine cwF_loop (fun n st => ∃ (c : Int) (w : Bool), (n = (M - c).toNat ∧ 0 ≤ c ∧ c ≤ M ∧ btw up a b c.toNat = w) ∧
    st = ⟨[.un, .lp (3, 0) 2 0 0, .un, .ls (70, 1) 2 0 l.length, iv a, iv b, bv w] ++ List.replicate 6 .un ++ [iv M, iv a, .un, .un, .un, iv M, iv b] ++ List.replicate 13 .un ++ [iv M, iv c] ++ List.replicate 37 .un, edgesO M up l⟩) M (by kernel_rfl) ⟨0, false, ?_, rfl⟩ ?_
  · exact ⟨by simp, by omega, by omega, rfl⟩
  rintro n st ⟨c, w, ⟨rfl, c1, c2, ew⟩, rfl⟩
  conv => whnf
  refine vif_dec (fun c4 => ?_) (fun c4 => ?_)
  rotate_left
  · conv => whnf
    have eC : c.toNat = M := by omega
    rw [eC] at ew
    cases w
    · conv => whnf
      refine ⟨⟨by decide, rfl, rfl, by rw [List.length_map]; omega, ⟨by show (_ + 1) * 16 ≤ _; omega, by show _ + 1 ≤ _; omega⟩, rfl, by decide⟩, fun l' es' hl he => ?_⟩
      obtain rfl : es' = (l ++ [(a, b)]).map encE := by rw [he, List.drop_zero, List.take_of_length_le (by simp), List.map_append]; rfl
      obtain rfl : l' = (l ++ [(a, b)]).length := by rw [hl]; simp
      conv => whnf
      refine ⟨by kernel_rfl, (M - (b + 1)).toNat, by omega, _, l ++ [(a, b)], ?_, rfl⟩
      rw [wrap_i64 (by omega)]
      exact ⟨rfl, by omega, by omega, by rw [er, cv, ew]; rfl⟩
    · conv => whnf
      obtain ⟨k1, k2, k3⟩ := nob (by rw [cv, ew]; rfl)
      refine ⟨by kernel_rfl, (M - (b + 1)).toNat, k2, _, l, ?_, rfl⟩
      rw [k1]; exact k3
  have ex (v : Bool) (hv : btw up a b (c.toNat + 1) = v) : IntKind.i64.wrap (c + 1) = c + 1 ∧ (M - (c + 1)).toNat < (M - c).toNat ∧ (((M : Int) - (c + 1)).toNat = ((M : Int) - (c + 1)).toNat ∧ 0 ≤ c + 1 ∧ c + 1 ≤ M ∧ btw up a b (c + 1).toNat = v) :=
    ⟨wrap_i64 (by omega), by omega, rfl, by omega, by omega, by rw [show (c + 1).toNat = c.toNat + 1 by omega]; exact hv⟩
  rw [btw_succ, ew, show ((c.toNat : Nat) : Int) = c by omega] at ex
  cases w
  rotate_left
  · conv => whnf
    obtain ⟨k1, k2, k3⟩ := ex true rfl
    refine ⟨by kernel_rfl, (M - (c + 1)).toNat, k2, _, true, ?_, rfl⟩
    rw [k1]; exact k3
  conv => whnf
  refine (Bool.eq_false_or_eq_true (c != a)).elim (fun h1 => ?_) (fun h1 => ?_)
  rotate_left
  · refine gif_bool (fun h => absurd h (by rw [h1]; decide)) (fun _ => ?_)
    conv => whnf
    refine gif_bool (fun h => absurd h (by rw [h1]; decide)) (fun _ => ?_)
    conv => whnf
    refine gif_bool (fun h => absurd h (by rw [h1]; decide)) (fun _ => ?_)
    conv => whnf
    refine pif_bool (fun h => absurd h (by rw [h1]; decide)) (fun _ => ?_)
    conv => whnf
    obtain ⟨k1, k2, k3⟩ := ex false (by rw [h1]; rfl)
    refine ⟨by kernel_rfl, (M - (c + 1)).toNat, k2, _, false, ?_, rfl⟩
    rw [k1]; exact k3
  refine gif_bool (fun _ => ?_) (fun h => absurd h (by rw [h1]; decide))
  conv => whnf
  refine gif_bool (fun _ => ?_) (fun h => absurd h (by rw [h1]; decide))
  conv => whnf
  refine gif_bool (fun _ => ?_) (fun h => absurd h (by rw [h1]; decide))
  conv => whnf
  refine pif_bool (fun _ => ?_) (fun h => absurd h (by rw [h1]; decide))
  conv => whnf
  refine (Bool.eq_false_or_eq_true (c != b)).elim (fun h2 => ?_) (fun h2 => ?_)
  rotate_left
  · refine gif_bool (fun h => absurd h (by rw [h2]; decide)) (fun _ => ?_)
    conv => whnf
    refine gif_bool (fun h => absurd h (by rw [h2]; decide)) (fun _ => ?_)
    conv => whnf
    refine gif_bool (fun h => absurd h (by rw [h2]; decide)) (fun _ => ?_)
    conv => whnf
    refine gif_bool (fun h => absurd h (by rw [h2]; decide)) (fun _ => ?_)
    conv => whnf
    refine pif_bool (fun h => absurd h (by rw [h2]; decide)) (fun _ => ?_)
    conv => whnf
    obtain ⟨k1, k2, k3⟩ := ex false (by rw [h1, h2]; rfl)
    refine ⟨by kernel_rfl, (M - (c + 1)).toNat, k2, _, false, ?_, rfl⟩
    rw [k1]; exact k3
  refine gif_bool (fun _ => ?_) (fun h => absurd h (by rw [h2]; decide))
  conv => whnf
  refine gif_bool (fun _ => ?_) (fun h => absurd h (by rw [h2]; decide))
  conv => whnf
  refine gif_bool (fun _ => ?_) (fun h => absurd h (by rw [h2]; decide))
  conv => whnf
  refine gif_bool (fun _ => ?_) (fun h => absurd h (by rw [h2]; decide))
  conv => whnf
  refine le.ac _ _ a c (by omega) (by omega) fun u1 t1 => ?_
  conv => whnf
  refine pif_bool (fun _ => ?_) (fun h => absurd h (by rw [h2]; decide))
  conv => whnf
  cases u1
  · conv => whnf
    obtain ⟨k1, k2, k3⟩ := ex false (by rw [h1, h2, t1]; rfl)
    refine ⟨by kernel_rfl, (M - (c + 1)).toNat, k2, _, false, ?_, rfl⟩
    rw [k1]; exact k3
  conv => whnf
  refine le.ac _ _ c b (by omega) (by omega) fun u2 t2 => ?_
  conv => whnf
  obtain ⟨k1, k2, k3⟩ := ex u2 (by rw [h1, h2, t1, t2]; rfl)
  refine ⟨by kernel_rfl, (M - (c + 1)).toNat, k2, _, u2, ?_, rfl⟩
  rw [k1]; exact k3
end Go.Eng.T

namespace Go.Eng.T
open Go.Proofs Go.Eng
set_option maxRecDepth 100000
set_option maxHeartbeats 0

theorem AC.lat1n {P : Program} {f : FuncId} {N a : Int} {up : List Int} {n : Nat} {K : V → List Obj → List Obj → Prop} (hn : up.length = n) (h : AC P f [latV N up, iv a] [] fun v o n => (v.noIs = true ∧ noIsO o = true ∧ noIsO n = true) ∧ K v (o ++ [upO up]) n) :
    AC P f [.agg [iv N, .ls (0, 0) 1 0 n], iv a] [upO up] K := by subst hn; exact AC.lat1 h
theorem AC.lat2n {P : Program} {f : FuncId} {N a b : Int} {up : List Int} {n : Nat} {K : V → List Obj → List Obj → Prop} (hn : up.length = n) (h : AC P f [latV N up, iv a, iv b] [] fun v o n => (v.noIs = true ∧ noIsO o = true ∧ noIsO n = true) ∧ K v (o ++ [upO up]) n) :
    AC P f [.agg [iv N, .ls (0, 0) 1 0 n], iv a, iv b] [upO up] K := by subst hn; exact AC.lat2 h
theorem AC.lat0n {P : Program} {f : FuncId} {N : Int} {up : List Int} {n : Nat} {K : V → List Obj → List Obj → Prop} (hn : up.length = n) (h : AC P f [latV N up] [] fun v o n => (v.noIs = true ∧ noIsO o = true ∧ noIsO n = true) ∧ K v (o ++ [upO up]) n) :
    AC P f [.agg [iv N, .ls (0, 0) 1 0 n]] [upO up] K := by subst hn; exact AC.lat0 h

theorem shl1 {a : Int} (h : 0 ≤ a ∧ a ≤ 16) : IntKind.u64.wrap (1 * 2 ^ min a.toNat IntKind.u64.bits) = 2 ^ a.toNat := by
  rw [show min a.toNat IntKind.u64.bits = a.toNat from by show min a.toNat 64 = _; omega, Int.one_mul, wrap_u64]
  have h1 : (0 : Int) < 2 ^ a.toNat := Int.pow_pos (by omega)
  have h2 : (2 : Nat) ^ a.toNat ≤ 2 ^ 16 := Nat.pow_le_pow_right (by omega) (by omega)
  rw [← pow_int] at h1 ⊢
  omega

def annLatOfI : Ann := { imm := immL [], keep := keepL [(5, [0, 1, 4, 6, 25, 26], [(6, 0), (8, 0), (25, 0)]), (10, [0, 4, 6, 36, 37, 38], [(6, 0), (8, 0), (25, 0)]), (17, [0, 4, 6, 67, 68], [(6, 0), (8, 0), (25, 0)]), (20, [0, 4, 6, 10, 67, 68, 71, 72], [(6, 0), (8, 0), (25, 0)])] }
abbrev latOfO (M : Nat) (ws : List V) : Store := mkOb [((6, 0), some (.arr false 2 [.agg [iv 0, nilS]])), ((8, 0), some (.arr false 2 [.agg [iv M, .ls (25, 0) 1 0 M]])), ((25, 0), some (.arr true 1 ws))]

theorem LatOfI.ac (M : Nat) (up : List Int) (es : List (Int × Int)) (hw : Words up) (hI : LatI M up) (he : es = edgeE M up M) (hlen : es.length ≤ 100) {K : V → List Obj → List Obj → Prop} (hK : K (.tup [.agg [iv M, .ls (1, 0) 1 0 M], bv true]) [] [upO up]) : AC Try.prog 13 [iv M, .is 2 (es.map encE)] [] K := by
  have hM := hI.2.1
  have hM1 := hI.1
  have hN : M ≤ 16 := by omega
  have hel : (es.map encE).length = es.length := List.length_map ..
  refine ac_body annLatOfI [((6, 0), true), ((8, 0), true), ((25, 0), false), ((11, 0), true)] hm htt Try.func13 rfl (by kernel_rfl) rfl rfl ?_
  conv => whnf
  refine in.ac _ _ _ fun r hr => ?_
  obtain rfl : r = true := hr.2 ⟨hM1, hM⟩
  conv => whnf
  refine vif_dec (fun h => by omega) (fun _ => ?_)
  conv => whnf
  refine ⟨⟨by decide, rfl, by omega, by omega, by omega, by show (M : Int) * 8 ≤ _; omega⟩, ?_⟩
  conv => whnf
  refine cwF_loop (fun n st => ∃ (a : Int) (w : List Int) (ws : List V), (n = (M - a).toNat ∧ 0 ≤ a ∧ a ≤ M ∧ WordsN M w ∧ (∀ i b : Int, 0 ≤ i → i < a → 0 ≤ b → b < M → bit (w.getD i.toNat default) b = decide (i = b)) ∧ ws = w.map uv) ∧
    st = ⟨[iv M, .is 2 (es.map encE), .un, .un, .lp (6, 0) 2 0 0, .un, .lp (8, 0) 2 0 0] ++ List.replicate 18 .un ++ [iv M, iv a] ++ List.replicate 71 .un, latOfO M ws⟩) M (by kernel_rfl) ⟨0, List.replicate M 0, List.replicate M (uv 0), ?_, rfl⟩ ?_
  · refine ⟨by simp, by omega, by omega, ⟨by simp, fun a a0 a1 => ?_⟩, fun i b i0 i1 => by omega, by rw [List.map_replicate]⟩
    have : (List.replicate M (0 : Int)).getD a.toNat default = 0 := by
      rw [List.getD_eq_getElem?_getD, List.getElem?_replicate]; split <;> rfl
    rw [this]
    exact ⟨by decide, Int.pow_pos (by decide)⟩
  rintro n st ⟨a, w, ws, ⟨rfl, a1, a2, hW, hb, rfl⟩, rfl⟩
  have hwl : (w.map uv).length = M := by rw [List.length_map]; exact hW.1
  conv => whnf
  refine vif_dec (fun a4 => ?_) (fun a4 => ?_)
  · conv => whnf
    refine ⟨by omega, ?_⟩
    conv => whnf
    refine ⟨⟨rfl, by omega, by omega⟩, ?_⟩
    conv => whnf
    refine ⟨⟨rfl, rfl, List.not_mem_nil⟩, _, map_get0 (by omega), fun es' he' => ?_⟩
    obtain rfl : es' = (w.set a.toNat (2 ^ a.toNat)).map uv := by rw [he', Nat.zero_add, List.map_set, shl1 (by omega)]
    conv => whnf
    refine ⟨by kernel_rfl, ?_⟩
    conv => whnf
    have o := word_one hN ⟨a1, a4⟩
    have hwl' := hW.1
    refine ⟨by kernel_rfl, (M - (a + 1)).toNat, by omega, _, w.set a.toNat (2 ^ a.toNat), _, ⟨?_, ?_, ?_, ⟨by rw [List.length_set]; exact hW.1, fun i i0 i1 => ?_⟩, fun i b i0 i1 b0 b1 => ?_, rfl⟩, rfl⟩
    · rw [wrap_i64 (by omega)]
    · rw [wrap_i64 (by omega)]; omega
    · rw [wrap_i64 (by omega)]; omega
    · rw [getD_set (by omega) i0]; split
      · exact o.1
      · exact hW.2 i i0 i1
    · rw [wrap_i64 (by omega)] at i1
      rw [getD_set (by omega) i0]; split
      · rename_i e; rw [e]; exact o.2 b b0 b1
      · exact hb i b i0 (by omega) b0 b1
  conv => whnf
  have eA : a = M := by omega
  subst eA
  refine cwF_loop (fun n st => ∃ (i : Int) (w : List Int) (ws : List V), (n = (es.length - i).toNat ∧ 0 ≤ i ∧ i ≤ es.length ∧ WordsN M w ∧ (∀ a b : Int, 0 ≤ a → a < M → 0 ≤ b → b < M → (relW w a b = true ↔ a = b ∨ (a, b) ∈ es.take i.toNat)) ∧ ws = w.map uv) ∧
    st = ⟨[iv M, .un, .un, .un, .lp (6, 0) 2 0 0, .un, .lp (8, 0) 2 0 0] ++ List.replicate 29 .un ++ [.is 2 (es.map encE), iv (es.map encE).length, iv i] ++ List.replicate 59 .un, latOfO M ws⟩) es.length (by kernel_rfl) ⟨0, w, _, ⟨?_, ?_, ?_, hW, ?_, rfl⟩, rfl⟩ ?_
  · simp
  · omega
  · omega
  · intro a b a0 a1 b0 b1
    unfold relW
    rw [hb a b a0 a1 b0 b1]; simp
  clear hW hb hwl
  rintro n st ⟨i, w, ws, ⟨rfl, i1, i2, hW, hb, rfl⟩, rfl⟩
  have hwl : (w.map uv).length = M := by rw [List.length_map]; exact hW.1
  conv => whnf
  refine vif_dec (fun i4 => ?_) (fun i4 => ?_)
  · conv => whnf
    refine ⟨⟨rfl, by omega, by omega⟩, ?_⟩
    conv => whnf
    refine ⟨_, map_get (by omega), ?_⟩
    conv => whnf
    have hme : es.getD i.toNat default ∈ edgeE M up M := by
      rw [← he, List.getD_eq_getElem?_getD, List.getElem?_eq_getElem (by omega)]; exact List.getElem_mem _
    obtain ⟨e1, e2, e3, e4, _⟩ := edgeE_mem.1 hme
    refine AC.lat1n hW.1 (has.ac _ _ _ (by omega) fun r hr => ?_)
    obtain rfl : r = true := hr.2 ⟨e1, e2⟩
    refine ⟨⟨rfl, rfl, rfl⟩, ?_⟩
    conv => whnf
    refine AC.lat1n hW.1 (has.ac _ _ _ (by omega) fun r hr => ?_)
    obtain rfl : r = true := hr.2 ⟨e3, e4⟩
    refine ⟨⟨rfl, rfl, rfl⟩, ?_⟩
    conv => whnf
    refine ⟨⟨rfl, e1, e2⟩, ?_⟩
    conv => whnf
    refine ⟨rfl, _, map_get0 (by omega), ?_⟩
    conv => whnf
    refine ⟨e3, ?_⟩
    conv => whnf
    refine ⟨⟨rfl, e1, e2⟩, ?_⟩
    conv => whnf
    refine ⟨⟨rfl, rfl, List.not_mem_nil⟩, _, map_get0 (by omega), fun es' he' => ?_⟩
    obtain rfl : es' = (w.set (es.getD i.toNat default).1.toNat (orW (w.getD (es.getD i.toNat default).1.toNat default) (2 ^ (es.getD i.toNat default).2.toNat))).map uv := by
      rw [he', Nat.zero_add, List.map_set, shl1 (by omega)]
    conv => whnf
    refine ⟨by kernel_rfl, ?_⟩
    conv => whnf
    have s := edge_step hN hW ⟨e1, e2⟩ ⟨e3, e4⟩
    refine ⟨by kernel_rfl, (es.length - (i + 1)).toNat, by omega, _, _, _, ⟨?_, ?_, ?_, s.1, fun a b a0 a1 b0 b1 => ?_, rfl⟩, rfl⟩
    · rw [wrap_i64 (by omega)]
    · rw [wrap_i64 (by omega)]; omega
    · rw [wrap_i64 (by omega)]; omega
    · rw [wrap_i64 (by omega), s.2 a b a0 a1 b0 b1, hb a b a0 a1 b0 b1, show (i + 1).toNat = i.toNat + 1 by omega, List.take_add_one, List.getElem?_eq_getElem (by omega), List.mem_append, Option.toList_some, List.mem_singleton, List.getD_eq_getElem?_getD, List.getElem?_eq_getElem (by omega), Option.getD_some, or_assoc]
  conv => whnf
  have hS : WInv M (relW up) 0 (relW w) := WInv.start hI fun a b a0 a1 b0 b1 => by
    rw [hb a b a0 a1 b0 b1, List.take_of_length_le (by omega), he]
  clear hb
  have hO := latI_ord hI
  refine cwF_loop (fun n st => ∃ (k : Int) (w : List Int) (ws : List V), (n = (M - k).toNat ∧ 0 ≤ k ∧ k ≤ M ∧ WordsN M w ∧ WInv M (relW up) k (relW w) ∧ ws = w.map uv) ∧
    st = ⟨[iv M, .un, .un, .un, .lp (6, 0) 2 0 0, .un, .lp (8, 0) 2 0 0] ++ List.replicate 60 .un ++ [iv M, iv k] ++ List.replicate 29 .un, latOfO M ws⟩) M (by kernel_rfl) ⟨0, w, _, ⟨?_, ?_, ?_, hW, hS, rfl⟩, rfl⟩ ?_
  · simp
  · omega
  · omega
  clear hS hW hwl
  rintro n st ⟨k, w0, ws, ⟨rfl, k1, k2, hW0, hS, rfl⟩, rfl⟩
  conv => whnf
  refine vif_dec (fun k4 => ?_) (fun k4 => ?_)
  · conv => whnf
    refine cwF_loop (fun n st => ∃ (a : Int) (w : List Int) (ws : List V), (n = (M - a).toNat ∧ 0 ≤ a ∧ a ≤ M ∧ RndInv M w0 w k a ∧ ws = w.map uv) ∧
      st = ⟨[iv M, .un, .un, .un, .lp (6, 0) 2 0 0, .un, .lp (8, 0) 2 0 0, .un, .un, .un, iv k] ++ List.replicate 56 .un ++ [iv M, iv k, .un, .un, iv M, iv a] ++ List.replicate 25 .un, latOfO M ws⟩) M (by kernel_rfl) ⟨0, w0, _, ⟨?_, ?_, ?_, RndInv.start hW0, rfl⟩, rfl⟩ ?_
    · simp
    · omega
    · omega
    rintro n st ⟨a, w, ws, ⟨rfl, a1, a2, hR, rfl⟩, rfl⟩
    have hwl : (w.map uv).length = M := by rw [List.length_map]; exact hR.1.1
    conv => whnf
    refine vif_dec (fun a4 => ?_) (fun a4 => ?_)
    · conv => whnf
      refine AC.lat2n hR.1.1 (le.ac _ _ a k (by omega) (by omega) fun r hr => ⟨⟨rfl, rfl, rfl⟩, ?_⟩)
      conv => whnf
      cases r
      · conv => whnf
        refine ⟨by kernel_rfl, (M - (a + 1)).toNat, by omega, _, w, _, ⟨?_, ?_, ?_, ?_, rfl⟩, rfl⟩
        · rw [wrap_i64 (by omega)]
        · rw [wrap_i64 (by omega)]; omega
        · rw [wrap_i64 (by omega)]; omega
        · rw [wrap_i64 (by omega)]; exact hR.skip ⟨a1, a4⟩ ⟨k1, k4⟩ hr
      · conv => whnf
        refine ⟨⟨rfl, by omega, by omega⟩, ?_⟩
        conv => whnf
        refine ⟨rfl, _, map_get0 (by omega), ?_⟩
        conv => whnf
        refine ⟨⟨rfl, by omega, by omega⟩, ?_⟩
        conv => whnf
        refine ⟨rfl, _, map_get0 (by omega), ?_⟩
        conv => whnf
        refine ⟨⟨rfl, by omega, by omega⟩, ?_⟩
        conv => whnf
        refine ⟨⟨rfl, rfl, List.not_mem_nil⟩, _, map_get0 (by omega), fun es' he' => ?_⟩
        obtain rfl : es' = (w.set a.toNat (orW (w.getD a.toNat default) (w.getD k.toNat default))).map uv := by
          rw [he', Nat.zero_add, List.map_set]
        conv => whnf
        refine ⟨by kernel_rfl, ?_⟩
        conv => whnf
        refine ⟨by kernel_rfl, (M - (a + 1)).toNat, by omega, _, _, _, ⟨?_, ?_, ?_, ?_, rfl⟩, rfl⟩
        · rw [wrap_i64 (by omega)]
        · rw [wrap_i64 (by omega)]; omega
        · rw [wrap_i64 (by omega)]; omega
        · rw [wrap_i64 (by omega)]; exact hR.join hN ⟨a1, a4⟩ ⟨k1, k4⟩ hr
    · conv => whnf
      have eA : a = M := by omega
      subst eA
      refine ⟨by kernel_rfl, (M - (k + 1)).toNat, by omega, _, w, _, ⟨?_, ?_, ?_, hR.1, ?_, rfl⟩, rfl⟩
      · rw [wrap_i64 (by omega)]
      · rw [wrap_i64 (by omega)]; omega
      · rw [wrap_i64 (by omega)]; omega
      · rw [wrap_i64 (by omega)]; exact hR.fin hO ⟨k1, k4⟩ hS
  conv => whnf
  have eK : k = M := by omega
  subst eK
  obtain rfl : w0 = up := closed_eq hw hI hW0 hS
  refine AC.lat0n hW0.1 (isLat.ac _ _ fun r hr => ?_)
  obtain rfl : r = true := hr.2 hI
  refine ⟨⟨rfl, rfl, rfl⟩, ?_⟩
  conv => whnf
  exact hK
end Go.Eng.T

namespace Go.Eng.T
open Go.Proofs Go.Eng
set_option maxRecDepth 100000
set_option maxHeartbeats 0

theorem DrawLatEdges.ac (D : List Int) (hd : Bytes D) (hl : D.length ≤ 1048576) {K : V → List Obj → List Obj → Prop}
    (hK : ∀ N up, (-9223372036854775808 ≤ N ∧ N ≤ 9223372036854775807) → 1 ≤ up.length → up.length ≤ 9 → Words up → K (latO N up) [] [upO up]) : AC Try.prog 10 [.is 1 (D.map encB)] [] K := by
  refine ac_body (ann []) [((4, 0), true), ((7, 0), true), ((9, 0), false)] hm htt Try.func10 rfl (by kernel_rfl) rfl rfl ?_
  conv => whnf
  refine l01Open.ac D hd hl fun s hc => ?_
  conv => whnf
  refine badLat.ac lat.ac D 0 0 s (by omega) hc fun N up p1 s1 h1 h2 h3 h4 hw hc1 => ?_
  conv => whnf
  exact hK N up ⟨h1, h2⟩ h3 h4 hw

theorem sameLat.ac (M : Nat) (up : List Int) (hM : M ≤ 1000) (hu : up.length = M) {K : V → List Obj → List Obj → Prop} (hK : K (bv true) [] []) : AC Try.prog 14 [latV M up, latV M up] [] K := by
  have hl : (up.map uv).length = M := by rw [List.length_map]; exact hu
  refine ac_body (ann [(4, [2, 3, 5], [(4, 0), (5, 0)])]) [((4, 0), true), ((5, 0), true)] hm htt Try.func14 rfl (by kernel_rfl) rfl rfl ?_
  conv => whnf
  have e : ((M : Int) != M) = false := by simp
  iterate 7
    refine gif_bool (fun _ => ?_) (fun h => absurd h (by rw [e]; decide))
    conv => whnf
  refine pif_bool (fun h => absurd h (by rw [e]; decide)) (fun _ => ?_)
  conv => whnf
  refine vif_bool (fun h => absurd h (by simp)) (fun _ => ?_)
  conv => whnf
  refine cwF_loop (fun n st => ∃ i : Int, (n = (M - i).toNat ∧ 0 ≤ i ∧ i ≤ M) ∧
    st = ⟨[.un, .un, .lp (4, 0) 2 0 0, .lp (5, 0) 2 0 0, .un, iv i] ++ List.replicate 32 .un, mkOb [((4, 0), some (.arr false 2 [latV M up])), ((5, 0), some (.arr false 2 [latV M up]))]⟩) M (by kernel_rfl) ⟨0, ?_, rfl⟩ ?_
  · exact ⟨by simp, by omega, by omega⟩
  rintro n st ⟨i, ⟨rfl, i1, i2⟩, rfl⟩
  conv => whnf
  refine vif_dec (fun i4 => ?_) (fun i4 => ?_)
  · conv => whnf
    refine ⟨⟨rfl, by omega, by omega⟩, ?_⟩
    conv => whnf
    refine ⟨_, map_get (by omega), ?_⟩
    conv => whnf
    refine ⟨⟨rfl, by omega, by omega⟩, ?_⟩
    conv => whnf
    refine ⟨_, map_get (by omega), ?_⟩
    conv => whnf
    refine ⟨by kernel_rfl, ?_⟩
    conv => whnf
    refine vif_bool (fun h => absurd h (by simp)) (fun _ => ?_)
    conv => whnf
    refine ⟨by kernel_rfl, (M - (i + 1)).toNat, by omega, _, ?_, rfl⟩
    rw [wrap_i64 (by omega)]
    exact ⟨rfl, by omega, by omega⟩
  · conv => whnf
    exact hK

theorem LatOkI.ac (N : Int) (up : List Int) {K : V → List Obj → List Obj → Prop} (hK : ∀ r, (r = true ↔ LatI N up) → K (bv r) [] []) : AC Try.prog 15 [latV N up] [] K := by
  refine ac_body (ann []) [((3, 0), true)] hm htt Try.func15 rfl (by kernel_rfl) rfl rfl ?_
  conv => whnf
  refine isLat.ac _ _ fun r hr => ?_
  conv => whnf
  exact hK r hr

theorem noIs_edges (l : List (Int × Int)) : noIsO [.arr true 2 (l.map encE)] = true := by
  have : noIsL (l.map encE) = true := noIsL_of fun x hx => by obtain ⟨i, _, rfl⟩ := List.mem_map.1 hx; rfl
  show ((noIsL (l.map encE)) && true) = true
  rw [this]; rfl
theorem AC.edges {P : Program} {f : FuncId} {N : Int} {l : List (Int × Int)} {K : V → List Obj → List Obj → Prop} (h : AC P f [iv N, .is 2 (l.map encE)] [] fun v o n => (v.noIs = true ∧ noIsO o = true ∧ noIsO n = true) ∧ K v (o ++ [.arr true 2 (l.map encE)]) n) :
    AC P f [iv N, .ls (0, 0) 2 0 l.length] [.arr true 2 (l.map encE)] K :=
  AC.borrow (objs := []) (.cons (.same List.not_mem_nil) (.cons (.all (by simp)) .nil)) (fun _ h => nomatch h) h
theorem AC.lats {P : Program} {f : FuncId} {N : Int} {up : List Int} {n : Nat} {K : V → List Obj → List Obj → Prop} (hn : up.length = n) (h : AC P f [latV N up, latV N up] [] fun v o n => (v.noIs = true ∧ noIsO o = true ∧ noIsO n = true) ∧ (v.noIs = true ∧ noIsO (o ++ [upO up]) = true ∧ noIsO n = true) ∧ K v (o ++ [upO up] ++ [upO up]) n) :
    AC P f [.agg [iv N, .ls (0, 0) 1 0 n], .agg [iv N, .ls (0, 1) 1 0 up.length]] [upO up, upO up] K := by
  subst hn
  exact AC.borrow (objs := [upO up]) (.cons (.same (by simp [V.ments, mentsL])) (.agg (.cons (.same List.not_mem_nil) (.cons (.all (by simp)) .nil)) .nil)) (fun x hx => by rw [List.mem_singleton.1 hx]; exact List.not_mem_nil)
    (AC.borrow (objs := []) (.agg (.cons (.same List.not_mem_nil) (.cons (.all (by simp)) .nil)) (.cons (.same List.not_mem_nil) .nil)) (fun _ h => nomatch h) h)

theorem FnLatEdges.ac (D : List Int) (hd : Bytes D) {K : V → List Obj → List Obj → Prop} (hK : K (bv true) [] []) : AC Try.prog 3 [.is 1 (D.map encB)] [] K := by
  refine ac_body (ann []) [((5, 0), true), ((12, 0), false), ((14, 0), false), ((25, 0), false), ((7, 0), true)] hm htt Try.func3 rfl (by kernel_rfl) rfl rfl ?_
  conv => whnf
  refine big.ac D ?_
  conv => whnf
  refine vif_dec (fun h0 => ?_) (fun h0 => ?_)
  · conv => whnf
    exact hK
  conv => whnf
  refine DrawLatEdges.ac D hd (by omega) fun N up hN u1 u2 hw => ?_
  conv => whnf
  by_cases hI : LatI N up
  rotate_left
  · refine AC.lat0 (LatEdgesI.ac N up (fun h => absurd h hI) fun _ => ⟨⟨rfl, rfl, rfl⟩, ?_⟩)
    conv => whnf
    refine AC.lat0 (LatOkS.ac N up fun r hr => ?_)
    obtain rfl : r = false := Bool.eq_false_iff.2 fun h => hI ((latI_iff hw).2 (hr.1 h))
    refine ⟨⟨rfl, rfl, rfl⟩, ?_⟩
    conv => whnf
    exact hK
  refine Exists.elim (⟨N.toNat, by have := hI.1; omega⟩ : ∃ M : Nat, N = M) fun M e => ?_
  subst e
  refine AC.lat0 (LatEdgesI.ac M up (fun _ => ?_) fun h => absurd hI h)
  rw [Int.toNat_natCast]
  refine ⟨⟨rfl, rfl, noIs_edges _⟩, ?_⟩
  conv => whnf
  refine AC.lat0 (LatOkS.ac M up fun r hr => ?_)
  obtain rfl : r = true := hr.2 ((latI_iff hw).1 hI)
  refine ⟨⟨rfl, rfl, rfl⟩, ?_⟩
  conv => whnf
  have hul : up.length = M := by have := hI.2.2.1; omega
  have hlen : (edgeE M up M).length ≤ 100 := by
    have h1 := edgeE_len (N := M) (up := up) (k := M)
    have h2 : M * M ≤ 9 * 9 := Nat.mul_le_mul (by omega) (by omega)
    omega
  refine AC.edges (LatOfI.ac M up _ hw hI rfl hlen ⟨⟨rfl, rfl, noIs_words up⟩, ?_⟩)
  conv => whnf
  refine AC.lats hul (sameLat.ac M up (by omega) hul ⟨⟨rfl, rfl, rfl⟩, ⟨rfl, noIs_words up, rfl⟩, ?_⟩)
  conv => whnf
  refine AC.lat0n hul (LatOkI.ac M up fun r hr => ?_)
  obtain rfl : r = true := hr.2 hI
  refine ⟨⟨rfl, rfl, rfl⟩, ?_⟩
  conv => whnf
  exact hK
end Go.Eng.T
