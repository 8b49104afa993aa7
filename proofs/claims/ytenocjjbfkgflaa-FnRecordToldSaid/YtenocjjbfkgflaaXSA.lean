import Derived.Test.YtenocjjbfkgflaaXEng24
namespace Go.Eng.S
open Go.Eng
set_option maxRecDepth 100000

/-- A number without a sign, and back. -/
def zz (n : Int) : Nat := if 0 ≤ n then (2 * n).toNat else (2 * (-1 - n) + 1).toNat
def unzz (u : Nat) : Int := if u % 2 = 0 then ((u / 2 : Nat) : Int) else -1 - ((u / 2 : Nat) : Int)
def I64 (n : Int) : Prop := -9223372036854775808 ≤ n ∧ n ≤ 9223372036854775807
theorem zz_lt {n : Int} (h : I64 n) : zz n < 2 ^ 64 := by
  unfold zz; unfold I64 at h; split <;> omega
theorem unzz_zz {n : Int} : unzz (zz n) = n := by
  unfold zz unzz; split <;> split <;> omega
theorem zz_unzz {u : Nat} : zz (unzz u) = u := by
  unfold zz unzz; split <;> split <;> omega
theorem unzz_I64 {u : Nat} (h : u < 2 ^ 64) : I64 (unzz u) := by
  unfold unzz I64; split <;> omega

/-- The bytes of a number without a sign, seven bits each. -/
def vbF : Nat → Nat → List Int
  | 0, u => [(u : Int)]
  | f + 1, u => if u < 128 then [(u : Int)] else ((128 + u % 128 : Nat) : Int) :: vbF f (u / 128)
def vb (u : Nat) : List Int := vbF 9 u
def numB (n : Int) : List Int := vb (zz n)
def Byte (b : Int) : Prop := 0 ≤ b ∧ b ≤ 255
/-- What bytes stand for. -/
def dv : List Int → Nat
  | [] => 0
  | b :: r => (b % 128).toNat + 128 * dv r

theorem vbF_len : ∀ {f u : Nat}, 1 ≤ (vbF f u).length ∧ (vbF f u).length ≤ f + 1
  | 0, u => by simp [vbF]
  | f + 1, u => by
    unfold vbF; split
    · simp
    · have := vbF_len (f := f) (u := u / 128)
      simp; omega
theorem vbF_dv : ∀ {f u : Nat}, u < 128 ^ (f + 1) → dv (vbF f u) = u
  | 0, u, h => by simp [vbF, dv]; omega
  | f + 1, u, h => by
    unfold vbF; split
    · simp [dv]; omega
    · have h2 : u / 128 < 128 ^ (f + 1) := by
        rw [Nat.pow_succ] at h
        exact Nat.div_lt_of_lt_mul (by omega)
      simp only [dv, vbF_dv h2]
      omega
/-- The bytes but the last go on, the last ends. -/
def Chain (P : List Int) (b : Int) : Prop := (∀ x ∈ P, 128 ≤ x ∧ x ≤ 255) ∧ 0 ≤ b ∧ b < 128
theorem vbF_chain : ∀ {f u : Nat}, u < 128 ^ (f + 1) → ∃ P b, vbF f u = P ++ [b] ∧ Chain P b
  | 0, u, h => ⟨[], u, rfl, ⟨fun x hx => (nomatch hx), by omega, by omega⟩⟩
  | f + 1, u, h => by
    unfold vbF; split
    · exact ⟨[], u, rfl, ⟨fun x hx => (nomatch hx), by omega, by omega⟩⟩
    · have h2 : u / 128 < 128 ^ (f + 1) := by
        rw [Nat.pow_succ] at h
        exact Nat.div_lt_of_lt_mul (by omega)
      obtain ⟨P, b, e, h3, h4⟩ := vbF_chain h2
      refine ⟨((128 + u % 128 : Nat) : Int) :: P, b, by rw [e]; rfl, fun x hx => ?_, h4⟩
      rcases List.mem_cons.1 hx with rfl | hx
      · omega
      · exact h3 x hx
/-- The canonical bytes are those of the right number. -/
theorem vbF_back : ∀ (P : List Int) (b : Int) (f : Nat), Chain P b → P.length ≤ f → (vbF f (dv (P ++ [b]))).length ≤ P.length + 1 ∧ ((vbF f (dv (P ++ [b]))).length = P.length + 1 ↔ vbF f (dv (P ++ [b])) = P ++ [b])
  | [], b, f, h, _ => by
    have e : dv ([] ++ [b]) = b.toNat := by simp [dv]; have := h.2; omega
    have e2 : vbF f b.toNat = [b] := by
      have := h.2
      cases f with
      | zero => simp [vbF]; omega
      | succ f => unfold vbF; rw [if_pos (by omega)]; simp; omega
    rw [e, e2]; simp
  | p :: P, b, 0, _, hf => by simp at hf
  | p :: P, b, f + 1, h, hf => by
    have hp := h.1 p List.mem_cons_self
    have ih := vbF_back P b f ⟨fun x hx => h.1 x (List.mem_cons_of_mem _ hx), h.2⟩ (by simpa using hf)
    have e : dv (p :: P ++ [b]) = (p % 128).toNat + 128 * dv (P ++ [b]) := rfl
    rw [e]
    have hm : (p % 128).toNat < 128 := by omega
    generalize hd : dv (P ++ [b]) = d at ih
    unfold vbF
    by_cases hz : d = 0
    · rw [if_pos (by omega)]
      simp only [List.length_cons, List.length_nil]
      refine ⟨by omega, fun h => by omega, fun h => ?_⟩
      have := congrArg List.length h
      simp at this
    · rw [if_neg (by omega)]
      have e1 : ((p % 128).toNat + 128 * d) / 128 = d := by omega
      have e2 : ((p % 128).toNat + 128 * d) % 128 = (p % 128).toNat := by omega
      rw [e1, e2]
      have e3 : ((128 + (p % 128).toNat : Nat) : Int) = p := by omega
      rw [e3]
      simp only [List.length_cons, List.cons_append, List.cons.injEq, true_and]
      exact ⟨by omega, by rw [← ih.2]; omega⟩
theorem pow128 : (128 : Nat) ^ 10 = 1180591620717411303424 := by decide
theorem numB_chain {n : Int} (h : I64 n) : ∃ P b, numB n = P ++ [b] ∧ Chain P b := vbF_chain (Nat.lt_of_lt_of_le (zz_lt h) (by decide))
theorem numB_dv {n : Int} (h : I64 n) : dv (numB n) = zz n := vbF_dv (Nat.lt_of_lt_of_le (zz_lt h) (by decide))
theorem numB_len {n : Int} : 1 ≤ (numB n).length ∧ (numB n).length ≤ 10 := vbF_len
theorem numB_bytes {n : Int} (h : I64 n) : ∀ x ∈ numB n, 0 ≤ x ∧ x ≤ 255 := by
  obtain ⟨P, b, e, h1, h2⟩ := numB_chain h
  rw [e]
  intro x hx
  rcases List.mem_append.1 hx with hx | hx
  · have := h1 x hx; omega
  · rw [List.mem_singleton.1 hx]; omega
/-- Two chains, one of which begins the other, are the same. -/
theorem chain_prefix : ∀ {P P' : List Int} {b b' : Int} {R : List Int}, Chain P b → Chain P' b' → P ++ [b] = (P' ++ [b'] ++ R).take (P ++ [b]).length → P = P' ∧ b = b'
  | [], [], b, b', R, _, _, h => by simp at h; exact ⟨rfl, h⟩
  | [], p :: P', b, b', R, h1, h2, h => by
    simp at h
    have := h2.1 p List.mem_cons_self
    have := h1.2
    omega
  | p :: P, [], b, b', R, h1, h2, h => by
    simp at h
    have := h1.1 p List.mem_cons_self
    have := h2.2
    omega
  | p :: P, p' :: P', b, b', R, h1, h2, h => by
    simp only [List.cons_append, List.length_cons, List.take_succ_cons, List.cons.injEq] at h
    have := chain_prefix (P := P) (P' := P') ⟨fun x hx => h1.1 x (List.mem_cons_of_mem _ hx), h1.2⟩ ⟨fun x hx => h2.1 x (List.mem_cons_of_mem _ hx), h2.2⟩ (R := R) h.2
    exact ⟨by rw [h.1, this.1], this.2⟩

/-- A number stands at a place. -/
def At (D : List Int) (at' : Nat) (n : Int) : Prop := I64 n ∧ (D.drop at').take (numB n).length = numB n
/-- The bytes from a place on to the first that ends. -/
theorem at_iff {D : List Int} {a : Nat} {P : List Int} {b : Int} {R : List Int} (hD : D.drop a = P ++ [b] ++ R) (hc : Chain P b) (n : Int) : At D a n ↔ I64 n ∧ numB n = P ++ [b] := by
  unfold At
  constructor
  · rintro ⟨h1, h2⟩
    refine ⟨h1, ?_⟩
    obtain ⟨P', b', e, h3⟩ := numB_chain h1
    rw [hD, e] at h2
    obtain ⟨e1, e2⟩ := chain_prefix h3 hc h2.symm
    rw [e, e1, e2]
  · rintro ⟨h1, h2⟩
    refine ⟨h1, ?_⟩
    rw [hD, h2]; exact List.take_left
/-- No number: too long, or not ended. -/
theorem at_none {D : List Int} {a : Nat} {j : Nat} (h : ∀ i, i < j → 128 ≤ (D.drop a).getD i 0) (hj : j = 10 ∨ D.length ≤ a + j) (n : Int) : ¬ At D a n := by
  rintro ⟨h1, h2⟩
  obtain ⟨P, b, e, h3⟩ := numB_chain h1
  have hl := numB_len (n := n)
  have hP : (numB n).length = P.length + 1 := by rw [e]; simp
  have hlen := congrArg List.length h2
  rw [List.length_take, List.length_drop] at hlen
  have hi : P.length < j := by omega
  have h4 := h P.length hi
  have h5 : (numB n).getD P.length 0 = b := by rw [e]; simp [List.getD_eq_getElem?_getD]
  have h6 : (numB n).getD P.length 0 = (D.drop a).getD P.length 0 := by
    rw [← h2, List.getD_eq_getElem?_getD, List.getD_eq_getElem?_getD, List.getElem?_take, if_pos (by omega)]
  have := h3.2
  omega
end Go.Eng.S

namespace Go.Eng.S
open Go.Eng
set_option maxRecDepth 100000

theorem dv_lt : ∀ {P : List Int}, dv P < 128 ^ P.length
  | [] => by simp [dv]
  | p :: P => by
    have := dv_lt (P := P)
    simp only [dv, List.length_cons, Nat.pow_succ]
    omega
theorem dv_snoc : ∀ {P : List Int} {x : Int}, dv (P ++ [x]) = dv P + 128 ^ P.length * (x % 128).toNat
  | [], x => by simp [dv]
  | p :: P, x => by
    have := dv_snoc (P := P) (x := x)
    simp only [List.cons_append, dv, List.length_cons, Nat.pow_succ, this]
    rw [Nat.mul_add, ← Nat.add_assoc, ← Nat.mul_assoc, Nat.mul_comm 128 (128 ^ P.length)]
theorem pow_le9 {j : Nat} (h : j ≤ 9) : (128 : Nat) ^ j ≤ 128 ^ 9 := Nat.pow_le_pow_right (by omega) h

/-- What the two programs ask once a byte ends the number. -/
theorem numB_unzz {u : Nat} : numB (unzz u) = vb u := by unfold numB; rw [zz_unzz]
theorem end_yes {D : List Int} {a : Nat} {P : List Int} {x : Int} {R : List Int} (hD : D.drop a = P ++ [x] ++ R) (hc : Chain P x) {u : Nat} (hu : u < 2 ^ 64) (h : numB (unzz u) = P ++ [x]) : At D a (unzz u) :=
  (at_iff hD hc _).2 ⟨unzz_I64 hu, h⟩
theorem end_no {D : List Int} {a : Nat} {P : List Int} {x : Int} {R : List Int} (hD : D.drop a = P ++ [x] ++ R) (hc : Chain P x) (h : numB (unzz (dv (P ++ [x]) % 2 ^ 64)) ≠ P ++ [x]) (n : Int) : ¬ At D a n := fun hn => by
  obtain ⟨h1, h2⟩ := (at_iff hD hc n).1 hn
  have h3 := numB_dv h1
  have h4 := zz_lt h1
  rw [h2] at h3
  apply h
  rw [h3, Nat.mod_eq_of_lt h4, unzz_zz, h2]
theorem end_len {P : List Int} {x : Int} (hc : Chain P x) (hP : P.length ≤ 9) : ((numB (unzz (dv (P ++ [x]) % 2 ^ 64))).length = P.length + 1 ∧ ¬ (P.length = 9 ∧ x > 1)) ↔ numB (unzz (dv (P ++ [x]) % 2 ^ 64)) = P ++ [x] := by
  rw [numB_unzz]
  have h1 := dv_snoc (P := P) (x := x)
  have h2 := dv_lt (P := P)
  have hx := hc.2
  by_cases h : P.length = 9 ∧ x > 1
  · constructor
    · intro h3; exact absurd h h3.2
    · intro h3
      exfalso
      have h4 : vb (dv (P ++ [x]) % 2 ^ 64) = vbF 9 (dv (P ++ [x]) % 2 ^ 64) := rfl
      have h5 := vbF_dv (f := 9) (u := dv (P ++ [x]) % 2 ^ 64) (Nat.lt_of_lt_of_le (Nat.mod_lt _ (by decide)) (by decide))
      rw [← h4, h3] at h5
      rw [h.1] at h1
      have h6 : (128 : Nat) ^ 9 = 9223372036854775808 := by decide
      rw [h6] at h1
      omega
  · have h3 : dv (P ++ [x]) < 2 ^ 64 := by
      have h6 : (128 : Nat) ^ 9 = 9223372036854775808 := by decide
      rcases (by omega : P.length ≤ 8 ∨ P.length = 9) with h7 | h7
      · have h8 := dv_lt (P := P ++ [x])
        have h9 := pow_le9 (j := (P ++ [x]).length) (by simp; omega)
        omega
      · rw [h7, h6] at h1
        rw [h7, h6] at h2
        have : x ≤ 1 := by
          by_cases h9 : x > 1
          · exact absurd ⟨h7, h9⟩ h
          · omega
        have h10 : (x % 128).toNat ≤ 1 := by omega
        have h11 : 9223372036854775808 * (x % 128).toNat ≤ 9223372036854775808 * 1 := Nat.mul_le_mul_left _ h10
        omega
    rw [Nat.mod_eq_of_lt h3]
    have := vbF_back P x 9 hc hP
    show ((vbF 9 (dv (P ++ [x]))).length = _ ∧ _) ↔ vbF 9 (dv (P ++ [x])) = _
    rw [← this.2]
    exact ⟨fun h4 => h4.1, fun h4 => ⟨h4, h⟩⟩

/-- The 'or' of a number and of bits that lie above it. -/
theorem or_add {u c j : Nat} (h : u < 2 ^ j) : u ||| (2 ^ j * c) = u + 2 ^ j * c := by
  rw [Nat.or_comm, ← Nat.two_pow_add_eq_or_of_lt h, Nat.add_comm]
theorem pow_128 {j : Nat} : (128 : Nat) ^ j = 2 ^ (7 * j) := by
  rw [show (128 : Nat) = 2 ^ 7 by decide, ← Nat.pow_mul]
/-- One more byte, by 'or'. -/
theorem or_step {P : List Int} {x : Int} (hP : P.length ≤ 9) : dv P ||| ((x % 128).toNat * 2 ^ (7 * P.length) % 2 ^ 64) = dv (P ++ [x]) % 2 ^ 64 := by
  have h1 := dv_snoc (P := P) (x := x)
  have h2 := dv_lt (P := P)
  rw [pow_128] at h1 h2
  have hm : (x % 128).toNat < 128 := by omega
  rcases (by omega : P.length ≤ 8 ∨ P.length = 9) with h7 | h7
  · have h3 : (x % 128).toNat * 2 ^ (7 * P.length) < 2 ^ 64 := by
      have : 2 ^ (7 * P.length) ≤ 2 ^ 56 := Nat.pow_le_pow_right (by omega) (by omega)
      have h4 : (x % 128).toNat * 2 ^ (7 * P.length) ≤ 127 * 2 ^ 56 := Nat.mul_le_mul (by omega) this
      omega
    rw [Nat.mod_eq_of_lt h3, Nat.mul_comm, or_add h2, h1, Nat.mod_eq_of_lt]
    have h5 := dv_lt (P := P ++ [x])
    have h9 := pow_le9 (j := (P ++ [x]).length) (by simp; omega)
    have h6 : (128 : Nat) ^ 9 = 9223372036854775808 := by decide
    omega
  · rw [h7] at h1 h2 ⊢
    have e : (x % 128).toNat * 2 ^ (7 * 9) % 2 ^ 64 = 2 ^ 63 * ((x % 128).toNat % 2) := by omega
    rw [e, or_add h2, h1]
    omega
end Go.Eng.S

namespace Go.Eng.S
open Go.Eng
set_option maxRecDepth 100000

/-- An operation, field by field. -/
structure OpR where
  k : Int
  eS : Int
  eK : Int
  eV : Int
  eT : Int
  pS : Int
  pB : Int
  pK : Int
  pL : Int
  s : Int
  n : Int
  deriving DecidableEq
instance : Inhabited OpR := ⟨⟨0, 0, 0, 0, 0, 0, 0, 0, 0, 0, 0⟩⟩
def OpR.zero : OpR := ⟨0, 0, 0, 0, 0, 0, 0, 0, 0, 0, 0⟩
def OpR.fs (o : OpR) : List Int := [o.k, o.eS, o.eK, o.eV, o.eT, o.pS, o.pB, o.pK, o.pL, o.s, o.n]
def OpR.ints (o : OpR) : Prop := ∀ x ∈ o.fs, I64 x
def OpR.noE (o : OpR) : Prop := o.eS = 0 ∧ o.eK = 0 ∧ o.eV = 0 ∧ o.eT = 0
def OpR.noP (o : OpR) : Prop := o.pS = 0 ∧ o.pB = 0 ∧ o.pK = 0 ∧ o.pL = 0
def OpR.ok (o : OpR) : Prop :=
  (o.k = 1 ∧ ((0 ≤ o.eS ∧ o.eS < 4) ∧ (0 ≤ o.eK ∧ o.eK ≤ 15) ∧ 0 ≤ o.eT ∧ o.eT ≤ 1000) ∧ o.noP ∧ o.s = 0 ∧ o.n = 0) ∨
  ((o.k = 2 ∨ o.k = 3) ∧ o.noE ∧ ((0 ≤ o.pS ∧ o.pS < 4) ∧ (0 ≤ o.pB ∧ o.pB ≤ 4) ∧ (0 ≤ o.pK ∧ o.pK ≤ 15) ∧ 0 ≤ o.pL ∧ o.pL < 16) ∧ o.s = 0 ∧ o.n = 0 ∧ (o.k = 2 ∨ o.pL = 0)) ∨
  (o.k = 4 ∧ o.noE ∧ o.noP ∧ (0 ≤ o.s ∧ o.s < 4) ∧ 0 ≤ o.n ∧ o.n ≤ 1000) ∨
  ((o.k = 5 ∨ o.k = 6) ∧ o.noE ∧ o.noP ∧ (0 ≤ o.s ∧ o.s < 4) ∧ o.n = 0) ∨
  ((o.k = 7 ∨ o.k = 8 ∨ o.k = 9) ∧ o.noE ∧ o.noP ∧ (0 ≤ o.s ∧ o.s < 4) ∧ 0 ≤ o.n ∧ o.n ≤ 1000000)
def OpR.good (o : OpR) : Prop := o.ok ∧ o.ints

def catB : List Int → List Int
  | [] => []
  | n :: r => numB n ++ catB r
def opB (o : OpR) : List Int := catB o.fs
theorem catB_app {a b : List Int} : catB (a ++ b) = catB a ++ catB b := by
  induction a with
  | nil => rfl
  | cons x a ih => simp [catB, ih]
theorem catB_len {l : List Int} : (catB l).length ≤ 10 * l.length := by
  induction l with
  | nil => simp [catB]
  | cons x l ih =>
    have := numB_len (n := x)
    simp only [catB, List.length_append, List.length_cons]; omega
theorem opB_len {o : OpR} : (opB o).length ≤ 110 := catB_len (l := o.fs)
theorem catB_bytes {l : List Int} (h : ∀ x ∈ l, I64 x) : ∀ x ∈ catB l, 0 ≤ x ∧ x ≤ 255 := by
  induction l with
  | nil => exact fun x hx => nomatch hx
  | cons a l ih =>
    intro x hx
    rcases List.mem_append.1 hx with hx | hx
    · exact numB_bytes (h a List.mem_cons_self) x hx
    · exact ih (fun y hy => h y (List.mem_cons_of_mem _ hy)) x hx
theorem numB_inj {n m : Int} (h1 : I64 n) (h2 : I64 m) (h : numB n = numB m) : n = m := by
  have := numB_dv h1
  rw [h, numB_dv h2] at this
  rw [← unzz_zz (n := n), ← unzz_zz (n := m), this]
theorem at_unique {D : List Int} {a : Nat} {n m : Int} (h1 : At D a n) (h2 : At D a m) : n = m := by
  obtain ⟨P, b, e, hc⟩ := numB_chain h2.1
  have hD : D.drop a = P ++ [b] ++ (D.drop a).drop (numB m).length := by
    rw [← e, ← h2.2, List.length_take]
    have : min (numB m).length (D.drop a).length = (numB m).length := by
      have := congrArg List.length h2.2
      rw [List.length_take] at this; exact this
    rw [this, List.take_append_drop]
  exact numB_inj h1.1 h2.1 (by rw [((at_iff hD hc n).1 h1).2, e])
theorem at_of {D : List Int} {l : List Int} {n : Int} {R : List Int} (h : I64 n) (hD : D = catB l ++ numB n ++ R) : At D (catB l).length n := by
  refine ⟨h, ?_⟩
  rw [hD, List.append_assoc, List.drop_left, List.take_left]
theorem at_snoc {D : List Int} {l : List Int} {n : Int} (hD : D.take (catB l).length = catB l) (h : At D (catB l).length n) : D.take (catB (l ++ [n])).length = catB (l ++ [n]) := by
  have e : catB (l ++ [n]) = catB l ++ numB n := by rw [catB_app]; simp [catB]
  rw [e, List.length_append, List.take_add, hD, h.2]

/-- A record: length, bytes, sum. -/
def sumB : List Int → Int
  | [] => 0
  | x :: r => x + sumB r
def recB (d : List Int) : List Int := (d.length : Int) :: d ++ [sumB d / 256 % 256, sumB d % 256]
theorem recB_len {d : List Int} : (recB d).length = d.length + 3 := by simp [recB]
theorem sumB_range {d : List Int} (h : ∀ x ∈ d, 0 ≤ x ∧ x ≤ 255) : 0 ≤ sumB d ∧ sumB d ≤ 255 * d.length := by
  induction d with
  | nil => simp [sumB]
  | cons a d ih =>
    have h1 := h a List.mem_cons_self
    have h2 := ih fun x hx => h x (List.mem_cons_of_mem _ hx)
    simp only [sumB, List.length_cons]; omega
theorem sumB_snoc {d : List Int} {x : Int} : sumB (d ++ [x]) = sumB d + x := by
  induction d with
  | nil => simp [sumB]
  | cons a d ih => simp only [List.cons_append, sumB, ih]; omega
theorem recB_bytes {d : List Int} (h : ∀ x ∈ d, 0 ≤ x ∧ x ≤ 255) (hl : d.length ≤ 255) : ∀ x ∈ recB d, 0 ≤ x ∧ x ≤ 255 := by
  have := sumB_range h
  intro x hx
  simp only [recB, List.cons_append, List.mem_cons, List.mem_append, List.mem_nil_iff, or_false] at hx
  rcases hx with rfl | hx | rfl | rfl
  · omega
  · exact h x hx
  · omega
  · omega

def logB : List OpR → List Int
  | [] => []
  | o :: r => recB (opB o) ++ logB r
theorem logB_app {a b : List OpR} : logB (a ++ b) = logB a ++ logB b := by
  induction a with
  | nil => rfl
  | cons x a ih => simp [logB, ih]
theorem logB_len {l : List OpR} : (logB l).length ≤ 113 * l.length := by
  induction l with
  | nil => simp [logB]
  | cons x l ih =>
    have := opB_len (o := x)
    simp only [logB, List.length_append, List.length_cons, recB_len]; omega
theorem logB_bytes {l : List OpR} (h : ∀ o ∈ l, o.ints) : ∀ x ∈ logB l, 0 ≤ x ∧ x ≤ 255 := by
  induction l with
  | nil => exact fun x hx => nomatch hx
  | cons a l ih =>
    intro x hx
    rcases List.mem_append.1 hx with hx | hx
    · exact recB_bytes (catB_bytes (h a List.mem_cons_self)) (by have := opB_len (o := a); unfold opB at this; omega) x hx
    · exact ih (fun y hy => h y (List.mem_cons_of_mem _ hy)) x hx

/-- A record of an operation stands at a place. -/
def RecAt (D : List Int) (a : Nat) (o : OpR) : Prop := o.good ∧ (D.drop a).take (recB (opB o)).length = recB (opB o)

theorem catB_inj : ∀ {l m : List Int}, l.length = m.length → (∀ x ∈ l, I64 x) → (∀ x ∈ m, I64 x) → catB l = catB m → l = m
  | [], [], _, _, _, _ => rfl
  | [], _ :: _, h, _, _, _ => by simp at h
  | _ :: _, [], h, _, _, _ => by simp at h
  | x :: l, y :: m, h, h1, h2, e => by
    simp only [catB] at e
    have a1 : At (numB x ++ catB l) 0 x := ⟨h1 x List.mem_cons_self, by rw [List.drop_zero, List.take_left]⟩
    have a2 : At (numB x ++ catB l) 0 y := ⟨h2 y List.mem_cons_self, by rw [e, List.drop_zero, List.take_left]⟩
    obtain rfl := at_unique a1 a2
    rw [catB_inj (by simpa using h) (fun z hz => h1 z (List.mem_cons_of_mem _ hz)) (fun z hz => h2 z (List.mem_cons_of_mem _ hz)) (List.append_cancel_left e)]
theorem opB_inj {o p : OpR} (h1 : o.ints) (h2 : p.ints) (h : opB o = opB p) : o = p := by
  have := catB_inj (l := o.fs) (m := p.fs) rfl h1 h2 h
  cases o; cases p
  simpa [OpR.fs] using this
theorem rec_unique {D : List Int} {a : Nat} {o p : OpR} (h1 : RecAt D a o) (h2 : RecAt D a p) : o = p := by
  obtain ⟨g1, e1⟩ := h1
  obtain ⟨g2, e2⟩ := h2
  have l1 := recB_len (d := opB o)
  have l2 := recB_len (d := opB p)
  generalize D.drop a = E at e1 e2
  have n1 : 1 ≤ E.length := by
    have := congrArg List.length e1
    rw [List.length_take] at this; omega
  obtain ⟨x, E, rfl⟩ : ∃ x E', E = x :: E' := by
    cases E with
    | nil => simp at n1
    | cons x E => exact ⟨x, E, rfl⟩
  have hl : (opB o).length = (opB p).length := by
    rw [l1] at e1
    rw [l2] at e2
    simp only [recB, List.cons_append, List.take_succ_cons, List.cons.injEq] at e1 e2
    omega
  have e3 : recB (opB o) = recB (opB p) := by rw [← e1, ← e2, l1, l2, hl]
  simp only [recB, List.cons_append, List.cons.injEq] at e3
  exact opB_inj g1.2 g2.2 (List.append_inj_left e3.2 hl)

/-- What is read off a log: the operations, and where the reading stops. -/
structure LogR (D : List Int) (ops : List OpR) : Prop where
  good : ∀ o ∈ ops, o.good
  pre : D.take (logB ops).length = logB ops
  len : ops.length ≤ 250
  stop : ops.length = 250 ∨ ∀ o, ¬ RecAt D (logB ops).length o
theorem pre_le {D E : List Int} (h : D.take E.length = E) : E.length ≤ D.length := by
  have := congrArg List.length h
  rw [List.length_take] at this; omega
theorem rec_of {D : List Int} {l r : List OpR} {o : OpR} (hg : o.good) (h : D.take (logB (l ++ o :: r)).length = logB (l ++ o :: r)) : RecAt D (logB l).length o := by
  refine ⟨hg, ?_⟩
  rw [← List.take_append_drop (logB (l ++ o :: r)).length D, h, logB_app, List.append_assoc, List.drop_left]
  simp only [logB, List.append_assoc, List.take_left]
theorem logR_unique {D : List Int} {l m : List OpR} (hl : LogR D l) (hm : LogR D m) : l = m := by
  -- one begins the other
  have key : ∀ {a b : List OpR} (r : List OpR), (∀ o ∈ a, o.good) → (∀ o ∈ b, o.good) → D.take (logB (r ++ a)).length = logB (r ++ a) → D.take (logB (r ++ b)).length = logB (r ++ b) → (∃ c, a = b ++ c) ∨ ∃ c, b = a ++ c := by
    intro a
    induction a with
    | nil => exact fun {b} _ _ _ _ _ => .inr ⟨b, rfl⟩
    | cons o a ih =>
      intro b r ha hb h1 h2
      cases b with
      | nil => exact .inl ⟨_, rfl⟩
      | cons p b =>
        obtain rfl := rec_unique (rec_of (ha o List.mem_cons_self) h1) (rec_of (hb p List.mem_cons_self) h2)
        have := ih (b := b) (r ++ [o]) (fun x hx => ha x (List.mem_cons_of_mem _ hx)) (fun x hx => hb x (List.mem_cons_of_mem _ hx)) (by simpa using h1) (by simpa using h2)
        rcases this with ⟨c, rfl⟩ | ⟨c, rfl⟩
        · exact .inl ⟨c, rfl⟩
        · exact .inr ⟨c, rfl⟩
  have stop : ∀ {a : List OpR} {o : OpR} {c : List OpR}, LogR D a → LogR D (a ++ o :: c) → False := fun {a o c} h1 h2 => by
    rcases h1.stop with h | h
    · have := h2.len; simp at this; omega
    · exact h o (rec_of (h2.good o (by simp)) h2.pre)
  rcases key [] hl.good hm.good hl.pre hm.pre with ⟨c, rfl⟩ | ⟨c, rfl⟩
  · cases c with
    | nil => simp
    | cons o c => exact (stop hm hl).elim
  · cases c with
    | nil => simp
    | cons o c => exact (stop hl hm).elim
theorem logR_self {ops : List OpR} (hg : ∀ o ∈ ops, o.good) (hl : ops.length ≤ 250) : LogR (logB ops) ops := by
  refine ⟨hg, List.take_length, hl, .inr fun o h => ?_⟩
  have := h.2
  rw [List.drop_length] at this
  simp [recB] at this

/-- An image. -/
def four (g : Int) : List Int := [g / 16777216 % 256, g / 65536 % 256, g / 256 % 256, g % 256]
def imB (g : Int) (ops : List OpR) : List Int :=
  four g ++ [((logB ops).length : Int) / 256, ((logB ops).length : Int) % 256] ++ logB ops ++ List.replicate (6990 - (logB ops).length) 0 ++ four g
def ImOk (g : Int) (ops : List OpR) : Prop := ((∀ o ∈ ops, o.good) ∧ ops.length ≤ 250) ∧ (1 ≤ g ∧ g ≤ 1000000) ∧ (logB ops).length ≤ 6990
theorem imB_len {g : Int} {ops : List OpR} (h : ImOk g ops) : (imB g ops).length = 7000 := by
  have := h.2.2
  simp only [imB, four, List.length_append, List.length_cons, List.length_nil, List.length_replicate]; omega
end Go.Eng.S
