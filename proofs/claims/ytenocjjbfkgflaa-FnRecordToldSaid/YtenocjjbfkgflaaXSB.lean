import Derived.Test.YtenocjjbfkgflaaXTryS
import Derived.Test.YtenocjjbfkgflaaXEng24
import Derived.Test.YtenocjjbfkgflaaXSA
namespace Go.Eng.T
open Go.Proofs Go.Eng Go.Eng.S
set_option maxRecDepth 100000
set_option maxHeartbeats 0

abbrev encB (x : Int) : V := encU x
abbrev iv (x : Int) : V := .lit (.int .i64 x)
abbrev uv (x : Int) : V := .lit (.int .u64 x)
abbrev yv (x : Int) : V := .lit (.int .u8 x)
abbrev bv (b : Bool) : V := .lit (.bool b)
abbrev nilS : V := .lit (.slice none 0 0)
def keepL : List (Nat × List Nat × List Key) → Nat → List Nat × List Key
  | [], _ => ([], [])
  | (k, v) :: r, n => bif Nat.beq k n then v else keepL r n
def immL : List (Nat × List Nat) → Nat → List Nat
  | [], _ => []
  | (k, v) :: r, n => bif Nat.beq k n then v else immL r n
/-- Loops at which a row that has grown goes over to its standing number. -/
def swF (ob : Store) (k : Key) : List Nat → List (Key × Key)
  | [] => []
  | s :: l => match ob (s, 0) with
    | some _ => [((s, 0), k)]
    | none => swF ob k l
def swL (l : List (Nat × Key × List Nat)) : Nat → Store → List (Key × Key) := fun n ob => match l with
  | [] => []
  | (m, k, ss) :: l => bif Nat.beq m n then swF ob k ss else swL l n ob
abbrev ann (l : List (Nat × List Nat × List Key)) : Ann := { imm := immL [], keep := keepL l }
abbrev annI (i : List (Nat × List Nat)) (l : List (Nat × List Nat × List Key)) : Ann := { imm := immL i, keep := keepL l }
abbrev annW (i : List (Nat × List Nat)) (l : List (Nat × List Nat × List Key)) (s : List (Nat × Key × List Nat)) : Ann := { imm := immL i, keep := keepL l, sw := swL s }

theorem kT {K : V → List Obj → List Obj → Prop} {P : Prop} (hK : ∀ r, (r = true ↔ P) → K (bv r) [] []) (h : P) : K (bv true) [] [] := hK true ⟨fun _ => h, fun _ => rfl⟩
theorem kF {K : V → List Obj → List Obj → Prop} {P : Prop} (hK : ∀ r, (r = true ↔ P) → K (bv r) [] []) (h : ¬ P) : K (bv false) [] [] := hK false ⟨fun h1 => (nomatch h1), fun h1 => absurd h1 h⟩

theorem wrap_i64 {x : Int} (h : -9223372036854775808 ≤ x ∧ x ≤ 9223372036854775807) : IntKind.i64.wrap x = x := by
  simp only [IntKind.wrap, IntKind.signed, IntKind.bits]
  simp
  omega
theorem wrap_u64 {x : Int} (h : 0 ≤ x ∧ x ≤ 18446744073709551615) : IntKind.u64.wrap x = x := by
  simp only [IntKind.wrap, IntKind.signed, IntKind.bits]
  simp
  omega
theorem wrap_u8 {x : Int} (h : 0 ≤ x ∧ x ≤ 255) : IntKind.u8.wrap x = x := by
  simp only [IntKind.wrap, IntKind.signed, IntKind.bits]
  simp
  omega
theorem wrap_u64_mod {x : Int} : IntKind.u64.wrap x = x % 18446744073709551616 := by
  simp only [IntKind.wrap, IntKind.signed, IntKind.bits]
  simp
theorem wrap_u8_mod {x : Int} : IntKind.u8.wrap x = x % 256 := by
  simp only [IntKind.wrap, IntKind.signed, IntKind.bits]
  simp
theorem tmod_nn {x y : Int} (hx : 0 ≤ x) (hy : 0 < y) : 0 ≤ x.tmod y ∧ x.tmod y < y := by
  rw [Int.tmod_eq_emod_of_nonneg hx]
  exact ⟨Int.emod_nonneg _ (by omega), Int.emod_lt_of_pos _ hy⟩
theorem tdiv_nn {x y : Int} (hx : 0 ≤ x) (hy : 0 < y) : 0 ≤ x.tdiv y ∧ x.tdiv y ≤ x := by
  rw [Int.tdiv_eq_ediv_of_nonneg hx]
  exact ⟨Int.ediv_nonneg hx (by omega), Int.ediv_le_self _ hx⟩
theorem tdiv_e {x y : Int} (h : 0 ≤ x) : x.tdiv y = x / y := Int.tdiv_eq_ediv_of_nonneg h
theorem tmod_e {x y : Int} (h : 0 ≤ x) : x.tmod y = x % y := Int.tmod_eq_emod_of_nonneg h
theorem map_get {α : Type} [Inhabited α] {f : α → V} {l : List α} {i : Int} (h : 0 ≤ i ∧ i < (l.map f).length) : (l.map f)[i.toNat]? = some (f (l.getD i.toNat default)) := by
  have : i.toNat < l.length := by rw [List.length_map] at h; omega
  rw [List.getElem?_map, List.getD_eq_getElem?_getD, List.getElem?_eq_getElem this]; rfl
theorem map_get0 {α : Type} [Inhabited α] {f : α → V} {l : List α} {i : Int} (h : 0 ≤ i ∧ i < (l.map f).length) : (l.map f)[0 + i.toNat]? = some (f (l.getD i.toNat default)) := by
  rw [Nat.zero_add]; exact map_get h

/-- A byte is appended. -/
theorem app_es {α : Type} {f : α → V} {l : List α} {x : α} {es' : List V} (h : es' = ((l.map f).drop 0).take l.length ++ [f x]) : es' = (l ++ [x]).map f := by
  rw [h, List.drop_zero, List.take_of_length_le (by simp), List.map_append]; rfl
theorem app_len {α : Type} {l : List α} {x : α} {l' : Nat} {y : V} (h : l' = l.length + [y].length) : l' = (l ++ [x]).length := by rw [h]; simp

theorem in.ac (n a b : Int) {K : V → List Obj → List Obj → Prop} (hK : ∀ r, (r = true ↔ a ≤ n ∧ n ≤ b) → K (bv r) [] []) : AC Try.prog 80 [iv n, iv a, iv b] [] K := by
  refine ac_body (ann []) [((998, 0), true)] hm htt Try.func80 rfl (by kernel_rfl) rfl rfl ?_
  conv => whnf
  refine bF_dec (fun h1 => ?_) (fun h1 => ?_)
  · conv => whnf
    refine bF_dec (fun h2 => ?_) (fun h2 => ?_)
    · conv => whnf
      exact kT hK ⟨h1, h2⟩
    · conv => whnf
      exact kF hK fun h => h2 h.2
  · conv => whnf
    exact kF hK fun h => h1 h.1
end Go.Eng.T

namespace Go.Eng.T
open Go.Proofs Go.Eng Go.Eng.S
set_option maxRecDepth 100000
set_option maxHeartbeats 0

theorem pow_succ10 {m : Nat} (h : m < 9) : (128 : Nat) ^ (10 - m) = 128 * 128 ^ (10 - (m + 1)) := by
  rw [show 10 - m = (10 - (m + 1)) + 1 by omega, Nat.pow_succ, Nat.mul_comm]
theorem vb_step {l : List Int} {u : Nat} {n : Int} (hl : l.length ≤ 9) (h1 : l ++ vbF (9 - l.length) u = numB n) (hu : u < 128 ^ (10 - l.length)) (h : ¬ u < 128) :
    l.length < 9 ∧ (l ++ [((128 + u % 128 : Nat) : Int)]) ++ vbF (9 - (l.length + 1)) (u / 128) = numB n ∧ u / 128 < 128 ^ (10 - (l.length + 1)) := by
  have h9 : l.length < 9 := by
    rcases (by omega : l.length < 9 ∨ l.length = 9) with h2 | h2
    · exact h2
    · rw [h2] at hu; exact absurd hu h
  refine ⟨h9, ?_, ?_⟩
  · rw [← h1, show 9 - l.length = (9 - (l.length + 1)) + 1 by omega]
    conv => rhs; unfold vbF
    rw [if_neg h, List.append_assoc]; rfl
  · rw [pow_succ10 h9] at hu
    exact Nat.div_lt_of_lt_mul hu
theorem vb_end {l : List Int} {u : Nat} {n : Int} (h1 : l ++ vbF (9 - l.length) u = numB n) (h : u < 128) : l ++ [(u : Int)] = numB n := by
  rw [← h1]
  cases 9 - l.length with
  | zero => rfl
  | succ f => unfold vbF; rw [if_pos h]
theorem vb_start {n : Int} (h : I64 n) : ([] : List Int) ++ vbF (9 - ([] : List Int).length) (zz n) = numB n ∧ zz n < 128 ^ (10 - ([] : List Int).length) :=
  ⟨rfl, Nat.lt_of_lt_of_le (zz_lt h) (by decide)⟩
theorem roomB {l : List Int} {m : Nat} (h : l.length ≤ 1000000) (hm : m ≤ 1000000) : roomOk (l.length + m) 1 := ⟨by omega, by omega⟩

theorem app_b {l : List Int} {es' : List V} {x y : Int} (h : es' = ((l.map encB).drop 0).take l.length ++ [yv y]) (e : y = x) : es' = (l ++ [x]).map encB := by
  rw [h, e, List.drop_zero, List.take_of_length_le (by simp), List.map_append]; rfl
theorem numB_room {n : Int} : (numB n).length ≤ 1000000 := by have := numB_len (n := n); omega
theorem byte_lo {u : Nat} (h : u < 2 ^ 64) : IntKind.u8.wrap (IntKind.u64.wrap (128 + (u : Int).tmod 128)) = ((128 + u % 128 : Nat) : Int) := by
  rw [tmod_e (by omega), wrap_u64 (by omega), wrap_u8_mod]; omega
theorem byte_rest {u : Nat} (h : u < 2 ^ 64) : IntKind.u64.wrap ((u : Int).tdiv 128) = ((u / 128 : Nat) : Int) := by
  rw [tdiv_e (by omega), wrap_u64 (by omega)]; omega

theorem NumBytesS.ac (n : Int) (hn : I64 n) {K : V → List Obj → List Obj → Prop} (hK : K (.ls (1, 0) 1 0 (numB n).length) [] [.arr true 1 ((numB n).map encB)]) : AC Try.prog 93 [iv n] [] K := by
  have hn' := hn
  unfold I64 at hn'
  refine ac_body (annW [] [(5, [3, 4], [(26, 1)])] [(5, (26, 1), [26, 17])]) [((998, 0), true), ((17, 0), true), ((25, 0), true), ((26, 0), false), ((26, 1), false), ((32, 0), true), ((33, 0), false)] hm htt Try.func93 rfl (by kernel_rfl) rfl rfl ?_
  conv => whnf
  refine bF_dec (fun h0 => ?_) (fun h0 => ?_)
  all_goals
    conv => whnf
    refine cwF_loop (fun m st => ∃ (z : Int) (u : Nat) (l : List Int), (z = u ∧ m = 9 - l.length ∧ l.length ≤ 9 ∧ l ++ vbF (9 - l.length) u = numB n ∧ u < 128 ^ (10 - l.length) ∧ u < 2 ^ 64) ∧
      st = ⟨[.un, .un, .un, uv z, .ls (26, 1) 1 0 l.length] ++ List.replicate 27 .un, mkOb [((26, 1), some (.arr true 1 (l.map encB)))]⟩) 9 (by kernel_rfl) ⟨_, zz n, [], ⟨?_, rfl, by decide, (vb_start hn).1, (vb_start hn).2, zz_lt hn⟩, rfl⟩ ?_
    · unfold zz
      simp only [wrap_u64_mod, wrap_i64 (x := -1 - n) (by omega)]
      split <;> omega
    rintro m st ⟨z, u, l, ⟨rfl, rfl, l9, h1, hu, u64⟩, rfl⟩
    conv => whnf
    refine bF_dec (fun h2 => ?_) (fun h2 => ?_)
    · conv => whnf
      obtain ⟨l9', k1, k2⟩ := vb_step l9 h1 hu (by omega)
      refine ⟨⟨by decide, rfl, rfl, by rw [List.length_map]; omega, roomB (by omega) (by simp), rfl, by simp [mentsOne]⟩, fun l' es' hl he => ?_⟩
      obtain rfl := app_b he (byte_lo u64)
      obtain rfl : l' = (l ++ [((128 + u % 128 : Nat) : Int)]).length := by rw [hl]; simp
      conv => whnf
      refine ⟨by kernel_rfl, 9 - (l.length + 1), by omega, _, u / 128, l ++ [((128 + u % 128 : Nat) : Int)], ⟨byte_rest u64, by simp, by simp; omega, by rw [List.length_append]; exact k1, by rw [List.length_append]; exact k2, by omega⟩, rfl⟩
    · conv => whnf
      refine ⟨⟨by decide, rfl, rfl, by rw [List.length_map]; omega, roomB (by omega) (by simp), rfl, by simp [mentsOne]⟩, fun l' es' hl he => ?_⟩
      have e := vb_end h1 (by omega)
      obtain rfl := app_b (x := (u : Int)) he (wrap_u8 (by omega))
      obtain rfl : l' = (l ++ [(u : Int)]).length := by rw [hl]; simp
      rw [e]
      conv => whnf
      exact hK
end Go.Eng.T

namespace Go.Eng.T
open Go.Proofs Go.Eng Go.Eng.S
set_option maxRecDepth 100000
set_option maxHeartbeats 0

theorem xor_ones {x : Nat} (h : x < 2 ^ 64) : (BitVec.ofInt 64 (x : Int) ^^^ BitVec.ofInt 64 18446744073709551615).toNat = 2 ^ 64 - 1 - x := by
  have e : BitVec.ofInt 64 18446744073709551615 = BitVec.allOnes 64 := by decide
  rw [e, BitVec.xor_allOnes, BitVec.toNat_not, BitVec.ofInt_natCast, BitVec.toNat_ofNat, Nat.mod_eq_of_lt h]
theorem xor_zero {x : Nat} (h : x < 2 ^ 64) : (BitVec.ofInt 64 (x : Int) ^^^ BitVec.ofInt 64 0).toNat = x := by
  have e : BitVec.ofInt 64 0 = 0#64 := by decide
  rw [e, BitVec.xor_zero, BitVec.ofInt_natCast, BitVec.toNat_ofNat, Nat.mod_eq_of_lt h]

theorem zig_eq {n : Int} (hn : I64 n) : IntKind.u64.wrap ↑((fun x1 x2 => x1 ^^^ x2) (BitVec.ofInt IntKind.u64.bits (IntKind.u64.wrap (IntKind.u64.wrap n * 2 ^ min (Int.toNat 1) IntKind.u64.bits))) (BitVec.ofInt IntKind.u64.bits (IntKind.u64.wrap (n.fdiv (2 ^ min (Int.toNat 63) IntKind.i64.bits))))).toNat = (zz n : Int) := by
  unfold I64 at hn
  have e1 : (2 : Int) ^ min (Int.toNat 1) IntKind.u64.bits = 2 := by decide
  have e2 : (2 : Int) ^ min (Int.toNat 63) IntKind.i64.bits = 9223372036854775808 := by decide
  rw [e1, e2, Int.fdiv_eq_ediv_of_nonneg _ (by omega)]
  show IntKind.u64.wrap ↑((BitVec.ofInt 64 _) ^^^ (BitVec.ofInt 64 _)).toNat = _
  unfold zz
  by_cases h : 0 ≤ n
  · rw [if_pos h, show n / 9223372036854775808 = 0 by omega, show IntKind.u64.wrap 0 = 0 by decide, show IntKind.u64.wrap (IntKind.u64.wrap n * 2) = (((2 * n).toNat : Nat) : Int) by simp only [wrap_u64_mod]; omega, xor_zero (by omega), wrap_u64 (by omega)]
  · rw [if_neg h, show n / 9223372036854775808 = -1 by omega, show IntKind.u64.wrap (-1) = 18446744073709551615 by decide, show IntKind.u64.wrap (IntKind.u64.wrap n * 2) = (((2 * n + 18446744073709551616).toNat : Nat) : Int) by simp only [wrap_u64_mod]; omega, xor_ones (by omega), wrap_u64 (by omega)]
    omega

theorem zigzag.ac (n : Int) (hn : I64 n) {K : V → List Obj → List Obj → Prop} (hK : K (uv (zz n)) [] []) : AC Try.prog 117 [iv n] [] K := by
  refine ac_body (ann []) [((998, 0), true)] hm htt Try.func117 rfl (by kernel_rfl) rfl rfl ?_
  conv => whnf
  rw [zig_eq hn]
  exact hK

theorem or128 {u : Nat} (_ : u < 2 ^ 64) : IntKind.u8.wrap ↑((fun x1 x2 => x1 ||| x2) (BitVec.ofInt IntKind.u8.bits (IntKind.u8.wrap (u : Int))) (BitVec.ofInt IntKind.u8.bits 128)).toNat = ((128 + u % 128 : Nat) : Int) := by
  show IntKind.u8.wrap ↑((BitVec.ofInt 8 _) ||| (BitVec.ofInt 8 128)).toNat = _
  have e : IntKind.u8.wrap (u : Int) = ((u % 256 : Nat) : Int) := by rw [wrap_u8_mod]; omega
  have k : ∀ x : Fin 256, (BitVec.ofNat 8 x.1 ||| BitVec.ofInt 8 128).toNat = 128 + x.1 % 128 := by decide +kernel
  have := k ⟨u % 256, by omega⟩
  simp only at this
  rw [e, BitVec.ofInt_natCast, this, wrap_u8 (by omega)]
  omega
theorem shr7 {u : Nat} : ((u : Int).fdiv (2 ^ min (Int.toNat 7) IntKind.u64.bits)) = ((u / 128 : Nat) : Int) := by
  have e2 : (2 : Int) ^ min (Int.toNat 7) IntKind.u64.bits = 128 := by decide
  rw [e2, Int.fdiv_eq_ediv_of_nonneg _ (by omega)]; omega

theorem NumBytesI.ac (n : Int) (hn : I64 n) {K : V → List Obj → List Obj → Prop} (hK : K (.ls (1, 0) 1 0 (numB n).length) [] [.arr true 1 ((numB n).map encB)]) : AC Try.prog 106 [iv n] [] K := by
  refine ac_body (annW [] [(3, [3, 4], [(19, 1)])] [(3, (19, 1), [19, 7])]) [((998, 0), true), ((7, 0), true), ((18, 0), true), ((19, 0), false), ((19, 1), false), ((23, 0), true), ((24, 0), false)] hm htt Try.func106 rfl (by kernel_rfl) rfl rfl ?_
  conv => whnf
  refine zigzag.ac n hn ?_
  conv => whnf
  refine cwF_loop (fun m st => ∃ (z : Int) (u : Nat) (l : List Int), (z = u ∧ m = 9 - l.length ∧ l.length ≤ 9 ∧ l ++ vbF (9 - l.length) u = numB n ∧ u < 128 ^ (10 - l.length) ∧ u < 2 ^ 64) ∧
    st = ⟨[.un, .un, .un, .ls (19, 1) 1 0 l.length, uv z] ++ List.replicate 18 .un, mkOb [((19, 1), some (.arr true 1 (l.map encB)))]⟩) 9 (by kernel_rfl) ⟨_, zz n, [], ⟨rfl, rfl, by decide, (vb_start hn).1, (vb_start hn).2, zz_lt hn⟩, rfl⟩ ?_
  rintro m st ⟨z, u, l, ⟨rfl, rfl, l9, h1, hu, u64⟩, rfl⟩
  conv => whnf
  refine bF_dec (fun h2 => ?_) (fun h2 => ?_)
  · conv => whnf
    obtain ⟨l9', k1, k2⟩ := vb_step l9 h1 hu (by omega)
    refine ⟨⟨by decide, rfl, rfl, by rw [List.length_map]; omega, roomB (by omega) (by simp), rfl, by simp [mentsOne]⟩, fun l' es' hl he => ?_⟩
    obtain rfl := app_b he (or128 u64)
    obtain rfl : l' = (l ++ [((128 + u % 128 : Nat) : Int)]).length := by rw [hl]; simp
    conv => whnf
    refine ⟨by kernel_rfl, 9 - (l.length + 1), by omega, _, u / 128, l ++ [((128 + u % 128 : Nat) : Int)], ⟨shr7, by simp, by simp; omega, by rw [List.length_append]; exact k1, by rw [List.length_append]; exact k2, by omega⟩, rfl⟩
  · conv => whnf
    refine ⟨⟨by decide, rfl, rfl, by rw [List.length_map]; omega, roomB (by omega) (by simp), rfl, by simp [mentsOne]⟩, fun l' es' hl he => ?_⟩
    have e := vb_end h1 (by omega)
    obtain rfl := app_b (x := (u : Int)) he (wrap_u8 (by omega))
    obtain rfl : l' = (l ++ [(u : Int)]).length := by rw [hl]; simp
    rw [e]
    conv => whnf
    exact hK
end Go.Eng.T

namespace Go.Eng.T
open Go.Proofs Go.Eng Go.Eng.S
set_option maxRecDepth 100000
set_option maxHeartbeats 0

def Bytes (D : List Int) : Prop := ∀ x ∈ D, 0 ≤ x ∧ x ≤ 255
theorem str_list (ns : List Int) : (strOfNums ns).toList = ns.map fun n => UInt8.ofNat n.toNat := by
  rw [ByteArray.toList_eq]; exact strOfNums_data ns
theorem str_eq {a b : List Int} (ha : Bytes a) (hb : Bytes b) : ((strOfNums a).toList == (strOfNums b).toList) = true ↔ a = b := by
  rw [str_list, str_list, beq_iff_eq]
  constructor
  · intro h
    induction a generalizing b with
    | nil => cases b with
      | nil => rfl
      | cons y b => simp at h
    | cons x a ih => cases b with
      | nil => simp at h
      | cons y b =>
        simp only [List.map_cons, List.cons.injEq] at h
        have h1 := ha x List.mem_cons_self
        have h2 := hb y List.mem_cons_self
        have h3 := congrArg UInt8.toNat h.1
        rw [UInt8.toNat_ofNat', UInt8.toNat_ofNat'] at h3
        rw [ih (fun z hz => ha z (List.mem_cons_of_mem _ hz)) (fun z hz => hb z (List.mem_cons_of_mem _ hz)) h.2]
        congr 1
        omega
  · rintro rfl; rfl
theorem bytes_get {D : List Int} (h : Bytes D) {i : Nat} (hi : i < D.length) : 0 ≤ D.getD i default ∧ D.getD i default ≤ 255 := by
  rw [List.getD_eq_getElem?_getD, List.getElem?_eq_getElem hi]; exact h _ (List.getElem_mem hi)
theorem take_step {D : List Int} {a j : Nat} (h : a + j < D.length) : (D.drop a).take (j + 1) = (D.drop a).take j ++ [D.getD (a + j) default] := by
  rw [List.take_add_one, List.getElem?_drop, List.getD_eq_getElem?_getD, List.getElem?_eq_getElem h]; rfl
theorem numB_bytes' {n : Int} (h : I64 n) : Bytes (numB n) := numB_bytes h
theorem sub_bytes {D : List Int} (h : Bytes D) {a j : Nat} : Bytes ((D.drop a).take j) := fun x hx => h x (List.mem_of_mem_drop (List.mem_of_mem_take hx))

/-- The state of the reading after j bytes that go on. -/
structure RdI (D : List Int) (a j : Nat) : Prop where
  j10 : j ≤ 10
  le : a + j ≤ D.length
  go : ∀ x ∈ (D.drop a).take j, 128 ≤ x ∧ x ≤ 255
theorem RdI.len {D : List Int} {a j : Nat} (h : RdI D a j) : ((D.drop a).take j).length = j := by
  have := h.le
  rw [List.length_take, List.length_drop]; omega
theorem RdI.next {D : List Int} {a j : Nat} (hd : Bytes D) (h : RdI D a j) (hj : j < 10) (hl : a + j < D.length) (hx : ¬ D.getD (a + j) default < 128) : RdI D a (j + 1) := by
  refine ⟨by omega, by omega, fun x hx' => ?_⟩
  rw [take_step hl] at hx'
  rcases List.mem_append.1 hx' with h1 | h1
  · exact h.go x h1
  · rw [List.mem_singleton.1 h1]
    have := bytes_get hd hl
    omega
theorem RdI.stop {D : List Int} {a j : Nat} (h : RdI D a j) (hj : j = 10 ∨ D.length ≤ a + j) (n : Int) : ¬ At D a n := by
  refine at_none (j := j) (fun i hi => ?_) hj n
  have hl := h.len
  have h1 : ((D.drop a).take j).getD i 0 ∈ (D.drop a).take j := by
    rw [List.getD_eq_getElem?_getD, List.getElem?_eq_getElem (by omega)]; exact List.getElem_mem _
  have h2 := h.go _ h1
  rw [List.getD_eq_getElem?_getD, List.getElem?_take, if_pos hi, ← List.getD_eq_getElem?_getD] at h2
  exact h2.1
theorem RdI.chain {D : List Int} {a j : Nat} (hd : Bytes D) (h : RdI D a j) (hl : a + j < D.length) (hx : D.getD (a + j) default < 128) :
    D.drop a = (D.drop a).take j ++ [D.getD (a + j) default] ++ (D.drop a).drop (j + 1) ∧ Chain ((D.drop a).take j) (D.getD (a + j) default) := by
  refine ⟨?_, h.go, (bytes_get hd hl).1, hx⟩
  rw [← take_step hl, List.take_append_drop]
theorem RdI.dv_lt {D : List Int} {a j : Nat} (h : RdI D a j) (hj : j ≤ 9) : dv ((D.drop a).take j) < 2 ^ 63 := by
  have h1 := Go.Eng.S.dv_lt (P := (D.drop a).take j)
  have h2 := pow_le9 (j := ((D.drop a).take j).length) (by rw [h.len]; exact hj)
  have h6 : (128 : Nat) ^ 9 = 9223372036854775808 := by decide
  omega
/-- One byte more, by sum. -/
theorem RdI.sum {D : List Int} {a j : Nat} (hd : Bytes D) (h : RdI D a j) (_ : j ≤ 9) (hl : a + j < D.length) :
    IntKind.u64.wrap ((dv ((D.drop a).take j) : Int) + IntKind.u64.wrap (((128 ^ j : Nat) : Int) * IntKind.u64.wrap ((D.getD (a + j) default).tmod 128))) = ((dv ((D.drop a).take j ++ [D.getD (a + j) default]) % 2 ^ 64 : Nat) : Int) := by
  have hb := bytes_get hd hl
  rw [tmod_e hb.1, dv_snoc, h.len, wrap_u64 (x := _ % 128) (by omega)]
  obtain ⟨c, hc⟩ : ∃ c : Nat, D.getD (a + j) default % 128 = c := ⟨(D.getD (a + j) default % 128).toNat, by omega⟩
  rw [hc, Int.toNat_natCast]
  generalize dv ((D.drop a).take j) = d
  generalize (128 : Nat) ^ j = q
  have e2 : ((q : Nat) : Int) * (c : Int) = ((q * c : Nat) : Int) := by push_cast; rfl
  rw [e2]
  generalize q * c = r
  simp only [wrap_u64_mod]
  omega
theorem unit_step {j : Nat} (hj : j < 9) : IntKind.u64.wrap (((128 ^ j : Nat) : Int) * 128) = ((128 ^ (j + 1) : Nat) : Int) := by
  have h6 : (128 : Nat) ^ 9 = 9223372036854775808 := by decide
  have h2 := pow_le9 (j := j + 1) (by omega)
  have e : ((128 ^ j : Nat) : Int) * 128 = ((128 ^ (j + 1) : Nat) : Int) := by rw [Nat.pow_succ]; push_cast; rfl
  rw [e]
  generalize (128 : Nat) ^ (j + 1) = q at h2
  rw [wrap_u64 (by omega)]
end Go.Eng.T

namespace Go.Eng.T
open Go.Proofs Go.Eng Go.Eng.S
set_option maxRecDepth 100000
set_option maxHeartbeats 0

theorem half_even {U : Nat} (h : U < 2 ^ 64) (h2 : U % 2 = 0) : IntKind.i64.wrap (IntKind.u64.wrap ((U : Int).tdiv 2)) = unzz U := by
  rw [tdiv_e (by omega), wrap_u64 (by omega), wrap_i64 (by omega)]
  unfold unzz; rw [if_pos h2]; omega
theorem half_odd {U : Nat} (h : U < 2 ^ 64) (h2 : ¬ U % 2 = 0) : IntKind.i64.wrap (-1 - IntKind.i64.wrap (IntKind.u64.wrap ((U : Int).tdiv 2))) = unzz U := by
  rw [tdiv_e (by omega), wrap_u64 (by omega), wrap_i64 (x := (U : Int) / 2) (by omega), wrap_i64 (by omega)]
  unfold unzz; rw [if_neg h2]; omega

theorem NumBytesS2.ac {m n : Int} (e : m = n) (hn : I64 n) {K : V → List Obj → List Obj → Prop} (hK : K (.ls (1, 0) 1 0 (numB n).length) [] [.arr true 1 ((numB n).map encB)]) : AC Try.prog 93 [iv m] [] K := by
  subst e; exact NumBytesS.ac m hn hK
theorem NumBytesI2.ac {m n : Int} (e : m = n) (hn : I64 n) {K : V → List Obj → List Obj → Prop} (hK : K (.ls (1, 0) 1 0 (numB n).length) [] [.arr true 1 ((numB n).map encB)]) : AC Try.prog 106 [iv m] [] K := by
  subst e; exact NumBytesI.ac m hn hK

theorem NumReadS.ac (D : List Int) (at' : Int) (hd : Bytes D) (hl : D.length ≤ 10000000) (ha : at' ≤ 100000000) {K : V → List Obj → List Obj → Prop}
    (hK1 : ∀ n, 0 ≤ at' → At D at'.toNat n → K (.tup [iv n, iv (at' + (numB n).length), bv true]) [] [])
    (hK0 : (0 ≤ at' → ∀ n, ¬ At D at'.toNat n) → K (.tup [iv 0, iv 0, bv false]) [] []) : AC Try.prog 109 [.is 1 (D.map encB), iv at'] [] K := by
  have hml : (D.map encB).length = D.length := List.length_map ..
  refine ac_body (ann [(6, [0, 1, 7, 8, 9], [])]) [((998, 0), true), ((60, 0), false)] hm htt Try.func109 rfl (by kernel_rfl) rfl rfl ?_
  conv => whnf
  refine bF_dec (fun h0 => ?_) (fun h0 => ?_)
  · conv => whnf
    exact hK0 fun h => by omega
  conv => whnf
  refine bF_dec (fun h1 => ?_) (fun h1 => ?_)
  · conv => whnf
    exact hK0 fun _ n hn => by
      have := congrArg List.length hn.2
      have h2 := numB_len (n := n)
      rw [List.length_take, List.length_drop] at this
      omega
  obtain ⟨a, rfl⟩ : ∃ a : Nat, at' = a := ⟨at'.toNat, by omega⟩
  rw [Int.toNat_natCast] at hK1 hK0
  conv => whnf
  refine cwF_loop (fun m st => ∃ (z u w : Int) (j : Nat), (z = ((a + j : Nat) : Int) ∧ m = 10 - j ∧ RdI D a j ∧ (j ≤ 9 → u = dv ((D.drop a).take j) ∧ w = ((128 ^ j : Nat) : Int))) ∧
    st = ⟨[.is 1 (D.map encB), iv a, .un, .un, .un, .un, .un, uv u, uv w, iv z] ++ List.replicate 60 .un, mkOb []⟩) 10 (by kernel_rfl) ⟨_, _, _, 0, ⟨by rw [Nat.add_zero], rfl, ⟨by omega, by omega, fun x hx => by simp at hx⟩, fun _ => ⟨rfl, rfl⟩⟩, rfl⟩ ?_
  rintro m st ⟨z, u, w, j, ⟨rfl, rfl, hI, hu⟩, rfl⟩
  have j10 := hI.j10
  have jle := hI.le
  conv => whnf
  refine bF_dec (fun h2 => ?_) (fun h2 => ?_)
  rotate_left
  · conv => whnf
    exact hK0 fun _ n => hI.stop (.inr (by omega)) n
  conv => whnf
  have e10 := wrap_i64 (x := (a : Int) + 10) (by omega)
  refine bF_dec (fun h3 => ?_) (fun h3 => ?_)
  rotate_left
  · conv => whnf
    exact hK0 fun _ n => hI.stop (.inl (by omega)) n
  obtain ⟨rfl, rfl⟩ := hu (by omega)
  have hlt : a + j < D.length := by omega
  conv => whnf
  refine ⟨⟨rfl, by omega, by omega⟩, ?_⟩
  conv => whnf
  refine ⟨_, map_get (by omega), ?_⟩
  conv => whnf
  refine ⟨⟨rfl, by omega, by omega⟩, ?_⟩
  conv => whnf
  refine ⟨_, map_get (by omega), ?_⟩
  conv => whnf
  have hs := hI.sum hd (by omega) hlt
  refine bF_dec (fun h4 => ?_) (fun h4 => ?_)
  rotate_left
  · have h4 : ¬ D.getD (a + j) default < 128 := h4
    conv => whnf
    refine ⟨by kernel_rfl, 10 - (j + 1), by omega, _, _, _, j + 1, ⟨wrap_i64 (by omega), rfl, hI.next hd (by omega) hlt h4, fun h5 => ⟨?_, unit_step (by omega)⟩⟩, rfl⟩
    rw [take_step hlt]
    have hI2 := (hI.next hd (by omega) hlt h4).dv_lt (by omega)
    rw [take_step hlt] at hI2
    rw [Nat.mod_eq_of_lt (by omega)] at hs
    exact hs
  have h4 : D.getD (a + j) default < 128 := h4
  obtain ⟨cD, cc⟩ := hI.chain hd hlt h4
  have U64 : dv ((D.drop a).take j ++ [D.getD (a + j) default]) % 2 ^ 64 < 2 ^ 64 := Nat.mod_lt _ (by decide)
  have yes := end_yes cD cc U64
  have no := end_no cD cc
  have hlP : ((D.drop a).take j ++ [D.getD (a + j) default]).length = j + 1 := by rw [List.length_append, hI.len]; rfl
  have bs : Bytes ((D.drop a).take j ++ [D.getD (a + j) default]) := by rw [← take_step hlt]; exact sub_bytes hd
  rw [← take_step hlt] at bs hlP
  rw [take_step hlt] at hlP
  generalize hU : dv ((D.drop a).take j ++ [D.getD (a + j) default]) % 2 ^ 64 = U at hs U64 yes no
  have hn := unzz_I64 U64
  have hs2 : IntKind.u64.wrap ((dv ((D.drop a).take j) : Int) + IntKind.u64.wrap (((128 ^ j : Nat) : Int) * IntKind.u64.wrap ((D.getD ((a + j : Nat) : Int).toNat default).tmod 128))) = (U : Int) := by
    rw [Int.toNat_natCast]; exact hs
  conv => whnf
  refine bF_eq (fun h5 => ?_) (fun h5 => ?_)
  all_goals
    conv => whnf
    have e1 := wrap_i64 (x := ((a + j : Nat) : Int) + 1) (by omega)
    refine ⟨rfl, ⟨⟨by omega, by omega⟩, by omega, by omega⟩, fun es' he => ?_⟩
    obtain rfl : es' = (((D.drop a).take (j + 1)).map encU) := by
      rw [he, e1, List.map_take, List.map_drop, Int.toNat_natCast]
      congr 1
      omega
    conv => whnf
    refine ⟨rfl, (D.drop a).take (j + 1), rfl, ?_⟩
    conv => whnf
    refine ⟨by kernel_rfl, ?_⟩
    conv => whnf
  · have e := half_odd U64 (by rw [hs2, tmod_e (by omega)] at h5; omega)
    rw [← hs2] at e
    refine NumBytesS2.ac e hn ?_
    conv => whnf
    refine ⟨⟨rfl, rfl, by rw [List.length_map]; omega⟩, fun xs hx => ⟨numB (unzz U), ?_, ?_⟩⟩
    · rw [hx, List.drop_zero, List.take_of_length_le (by simp)]
    conv => whnf
    refine bF_bool (fun h7 => ?_) (fun h7 => ?_)
    · conv => whnf
      refine ⟨by kernel_rfl, ?_⟩
      conv => whnf
      refine hK0 fun _ => no fun h8 => ?_
      have h9 := (str_eq (numB_bytes' hn) bs).2 (by rw [h8, take_step hlt])
      have h10 : (!((strOfNums (numB (unzz U))).toList == (strOfNums ((D.drop a).take (j + 1))).toList)) = true := h7
      rw [h9] at h10; cases h10
    · conv => whnf
      refine ⟨by kernel_rfl, ?_⟩
      conv => whnf
      have h10 : (!((strOfNums (numB (unzz U))).toList == (strOfNums ((D.drop a).take (j + 1))).toList)) = false := h7
      rw [Bool.not_eq_false'] at h10
      have h9 := (str_eq (numB_bytes' hn) bs).1 h10
      rw [take_step hlt] at h9
      have K := hK1 (unzz U) (by omega) (yes h9)
      rw [h9, hlP, ← e, show ((a : Int) + ((j + 1 : Nat) : Int)) = IntKind.i64.wrap (((a + j : Nat) : Int) + 1) by omega] at K
      exact K
  · have e := half_even U64 (by
      by_cases h6 : U % 2 = 0
      · exact h6
      · exact absurd (by rw [hs2, tmod_e (by omega)]; omega) h5)
    rw [← hs2] at e
    refine NumBytesS2.ac e hn ?_
    conv => whnf
    refine ⟨⟨rfl, rfl, by rw [List.length_map]; omega⟩, fun xs hx => ⟨numB (unzz U), ?_, ?_⟩⟩
    · rw [hx, List.drop_zero, List.take_of_length_le (by simp)]
    conv => whnf
    refine bF_bool (fun h7 => ?_) (fun h7 => ?_)
    · conv => whnf
      refine ⟨by kernel_rfl, ?_⟩
      conv => whnf
      refine hK0 fun _ => no fun h8 => ?_
      have h9 := (str_eq (numB_bytes' hn) bs).2 (by rw [h8, take_step hlt])
      have h10 : (!((strOfNums (numB (unzz U))).toList == (strOfNums ((D.drop a).take (j + 1))).toList)) = true := h7
      rw [h9] at h10; cases h10
    · conv => whnf
      refine ⟨by kernel_rfl, ?_⟩
      conv => whnf
      have h10 : (!((strOfNums (numB (unzz U))).toList == (strOfNums ((D.drop a).take (j + 1))).toList)) = false := h7
      rw [Bool.not_eq_false'] at h10
      have h9 := (str_eq (numB_bytes' hn) bs).1 h10
      rw [take_step hlt] at h9
      have K := hK1 (unzz U) (by omega) (yes h9)
      rw [h9, hlP, ← e, show ((a : Int) + ((j + 1 : Nat) : Int)) = IntKind.i64.wrap (((a + j : Nat) : Int) + 1) by omega] at K
      exact K
end Go.Eng.T

namespace Go.Eng.T
open Go.Proofs Go.Eng Go.Eng.S
set_option maxRecDepth 100000
set_option maxHeartbeats 0

theorem and127 {x : Int} (h : 0 ≤ x ∧ x ≤ 255) : IntKind.u8.wrap ↑((fun x1 x2 => x1 &&& x2) (BitVec.ofInt IntKind.u8.bits x) (BitVec.ofInt IntKind.u8.bits 127)).toNat = x % 128 := by
  obtain ⟨n, rfl⟩ : ∃ n : Nat, x = n := ⟨x.toNat, by omega⟩
  have k : ∀ x : Fin 256, (BitVec.ofNat 8 x.1 &&& BitVec.ofInt 8 127).toNat = x.1 % 128 := by decide +kernel
  have := k ⟨n, by omega⟩
  simp only at this
  show IntKind.u8.wrap ↑((BitVec.ofInt 8 _) &&& (BitVec.ofInt 8 127)).toNat = _
  rw [BitVec.ofInt_natCast, this, wrap_u8 (by omega)]
  omega
theorem or_u64 {x y : Nat} (hx : x < 2 ^ 64) (hy : y < 2 ^ 64) : IntKind.u64.wrap ↑((fun x1 x2 => x1 ||| x2) (BitVec.ofInt IntKind.u64.bits (x : Int)) (BitVec.ofInt IntKind.u64.bits (y : Int))).toNat = ((x ||| y : Nat) : Int) := by
  show IntKind.u64.wrap ↑((BitVec.ofInt 64 _) ||| (BitVec.ofInt 64 _)).toNat = _
  rw [BitVec.ofInt_natCast, BitVec.ofInt_natCast, BitVec.toNat_or, BitVec.toNat_ofNat, BitVec.toNat_ofNat, Nat.mod_eq_of_lt hx, Nat.mod_eq_of_lt hy]
  have : x ||| y < 2 ^ 64 := Nat.or_lt_two_pow hx hy
  rw [wrap_u64 (by omega)]
/-- One byte more, by 'or'. -/
theorem RdI.orI {D : List Int} {a j : Nat} (hd : Bytes D) (h : RdI D a j) (hj : j ≤ 9) (hl : a + j < D.length) {x : Int} (hx : x = D.getD (a + j) default) :
    IntKind.u64.wrap ↑((fun x1 x2 => x1 ||| x2) (BitVec.ofInt IntKind.u64.bits (dv ((D.drop a).take j) : Int)) (BitVec.ofInt IntKind.u64.bits (IntKind.u64.wrap (IntKind.u64.wrap (IntKind.u8.wrap ↑((fun x1 x2 => x1 &&& x2) (BitVec.ofInt IntKind.u8.bits x) (BitVec.ofInt IntKind.u8.bits 127)).toNat) * 2 ^ min (IntKind.i64.wrap (7 * (j : Int))).toNat IntKind.u64.bits)))).toNat
      = ((dv ((D.drop a).take j ++ [D.getD (a + j) default]) % 2 ^ 64 : Nat) : Int) := by
  subst hx
  have hb := bytes_get hd hl
  have h1 := h.dv_lt hj
  rw [and127 hb, wrap_u64 (x := _ % 128) (by omega), wrap_i64 (by omega)]
  have em : min (7 * (j : Int)).toNat IntKind.u64.bits = 7 * j := by show min _ 64 = _; omega
  rw [em]
  have hs := or_step (P := (D.drop a).take j) (x := D.getD (a + j) default) (by rw [h.len]; exact hj)
  rw [h.len] at hs
  have e : IntKind.u64.wrap (D.getD (a + j) default % 128 * 2 ^ (7 * j)) = (((D.getD (a + j) default % 128).toNat * 2 ^ (7 * j) % 2 ^ 64 : Nat) : Int) := by
    obtain ⟨c, hc⟩ : ∃ c : Nat, D.getD (a + j) default % 128 = c := ⟨(D.getD (a + j) default % 128).toNat, by omega⟩
    rw [hc, Int.toNat_natCast, wrap_u64_mod]
    have e3 : (c : Int) * 2 ^ (7 * j) = ((c * 2 ^ (7 * j) : Nat) : Int) := by rw [Int.natCast_mul, Int.natCast_pow]; rfl
    rw [e3]
    generalize c * 2 ^ (7 * j) = q
    omega
  rw [e, or_u64 (by omega) (Nat.mod_lt _ (by decide)), hs]
theorem xor_i64 {x : Nat} (h : x < 2 ^ 64) : (BitVec.ofInt 64 (x : Int) ^^^ BitVec.ofInt 64 (-1)).toNat = 2 ^ 64 - 1 - x := by
  have e : BitVec.ofInt 64 (-1) = BitVec.allOnes 64 := by decide
  rw [e, BitVec.xor_allOnes, BitVec.toNat_not, BitVec.ofInt_natCast, BitVec.toNat_ofNat, Nat.mod_eq_of_lt h]
theorem and1 {U : Nat} (h : U < 2 ^ 64) : IntKind.u64.wrap ↑((fun x1 x2 => x1 &&& x2) (BitVec.ofInt IntKind.u64.bits (U : Int)) (BitVec.ofInt IntKind.u64.bits 1)).toNat = ((U % 2 : Nat) : Int) := by
  show IntKind.u64.wrap ↑((BitVec.ofInt 64 _) &&& (BitVec.ofInt 64 1)).toNat = _
  have e : (BitVec.ofInt 64 1).toNat = 1 := by decide
  rw [BitVec.toNat_and, BitVec.ofInt_natCast, BitVec.toNat_ofNat, Nat.mod_eq_of_lt h, e, Nat.and_one_is_mod, wrap_u64 (by omega)]
theorem unz_eq {U : Nat} (h : U < 2 ^ 64) {V : Int} (hV : V = U) : IntKind.i64.wrap ↑((fun x1 x2 => x1 ^^^ x2) (BitVec.ofInt IntKind.i64.bits (IntKind.i64.wrap (V.fdiv (2 ^ min (Int.toNat 1) IntKind.u64.bits))))
    (BitVec.ofInt IntKind.i64.bits (IntKind.i64.wrap (0 - IntKind.i64.wrap (IntKind.u64.wrap ↑((fun x1 x2 => x1 &&& x2) (BitVec.ofInt IntKind.u64.bits V) (BitVec.ofInt IntKind.u64.bits 1)).toNat))))).toNat = unzz U := by
  subst hV
  have e1 : (2 : Int) ^ min (Int.toNat 1) IntKind.u64.bits = 2 := by decide
  rw [and1 h, e1, Int.fdiv_eq_ediv_of_nonneg _ (by omega), show (U : Int) / 2 = ((U / 2 : Nat) : Int) by omega, wrap_i64 (x := ((U / 2 : Nat) : Int)) (by omega), wrap_i64 (x := ((U % 2 : Nat) : Int)) (by omega), wrap_i64 (x := 0 - ((U % 2 : Nat) : Int)) (by omega)]
  show IntKind.i64.wrap ↑((BitVec.ofInt 64 _) ^^^ (BitVec.ofInt 64 _)).toNat = _
  unfold unzz
  by_cases h2 : U % 2 = 0
  · rw [if_pos h2, h2, show (0 : Int) - ((0 : Nat) : Int) = 0 by rfl, xor_zero (by omega), wrap_i64 (by omega)]
  · rw [if_neg h2, show U % 2 = 1 by omega, show (0 : Int) - ((1 : Nat) : Int) = -1 by rfl, xor_i64 (by omega)]
    simp only [IntKind.wrap, IntKind.signed, IntKind.bits]
    simp
    omega
theorem getD_take {D : List Int} {a j m : Nat} (h : j < m) : ((D.drop a).take m).getD j default = D.getD (a + j) default := by
  rw [List.getD_eq_getElem?_getD, List.getElem?_take, if_pos h, List.getElem?_drop, List.getD_eq_getElem?_getD]

theorem NumReadI.ac (D : List Int) (at' : Int) (hd : Bytes D) (hl : D.length ≤ 10000000) (ha : at' ≤ 100000000) {K : V → List Obj → List Obj → Prop}
    (hK1 : ∀ n, 0 ≤ at' → At D at'.toNat n → K (.tup [iv n, iv (at' + (numB n).length), bv true]) [] [])
    (hK0 : (0 ≤ at' → ∀ n, ¬ At D at'.toNat n) → K (.tup [iv 0, iv 0, bv false]) [] []) : AC Try.prog 118 [.is 1 (D.map encB), iv at'] [] K := by
  have hml : (D.map encB).length = D.length := List.length_map ..
  have hml3 : (D.map encU).length = D.length := List.length_map ..
  refine ac_body (ann [(5, [1, 7, 24, 25, 26], [])]) [((998, 0), true), ((52, 0), false)] hm htt Try.func118 rfl (by kernel_rfl) rfl rfl ?_
  conv => whnf
  have ew := wrap_i64 (x := (D.map encB).length - 1) (by omega)
  refine in.ac _ _ _ fun r hr => ?_
  cases r
  · conv => whnf
    exact hK0 fun h n hn => by
      have := congrArg List.length hn.2
      have h2 := numB_len (n := n)
      rw [List.length_take, List.length_drop] at this
      have := hr.2 ⟨h, by omega⟩
      cases this
  obtain ⟨h0, h1⟩ := hr.1 rfl
  obtain ⟨a, rfl⟩ : ∃ a : Nat, at' = a := ⟨at'.toNat, by omega⟩
  rw [Int.toNat_natCast] at hK1 hK0
  have e10 := wrap_i64 (x := (a : Int) + 10) (by omega)
  conv => whnf
  refine ⟨rfl, ⟨⟨by split <;> omega, by split <;> omega⟩, by omega, by split <;> omega⟩, fun es' he => ?_⟩
  obtain rfl : es' = (((D.drop a).take 10).map encU) := by
    rw [he, List.map_take, List.map_drop, Int.toNat_natCast]
    split
    · rw [e10]; congr 1; omega
    · rw [List.take_of_length_le (by rw [List.length_drop]; omega), List.take_of_length_le (by rw [List.length_drop]; omega)]
  have hel : ((D.drop a).take 10).length = min 10 (D.length - a) := by rw [List.length_take, List.length_drop]
  have hml2 : (((D.drop a).take 10).map encU).length = ((D.drop a).take 10).length := List.length_map ..
  conv => whnf
  refine cwF_loop (fun m st => ∃ (z u : Int) (j : Nat), (z = (j : Int) ∧ m = 10 - j ∧ RdI D a j ∧ (j ≤ 9 → u = dv ((D.drop a).take j))) ∧
    st = ⟨[.un, iv a, .un, .un, .un, .un, .un, uv u] ++ List.replicate 16 .un ++ [.is 1 (((D.drop a).take 10).map encU), iv (((D.drop a).take 10).map encU).length, iv z] ++ List.replicate 42 .un, mkOb []⟩) 10 (by kernel_rfl) ⟨_, _, 0, ⟨rfl, rfl, ⟨by omega, by omega, fun x hx => by simp at hx⟩, fun _ => rfl⟩, rfl⟩ ?_
  rintro m st ⟨z, u, j, ⟨rfl, rfl, hI, hu⟩, rfl⟩
  have j10 := hI.j10
  have jle := hI.le
  conv => whnf
  refine bF_dec (fun h2 => ?_) (fun h2 => ?_)
  rotate_left
  · conv => whnf
    exact hK0 fun _ n => hI.stop (by omega) n
  have j9 : j ≤ 9 := by omega
  obtain rfl := hu j9
  have hlt : a + j < D.length := by omega
  have hx := getD_take (D := D) (a := a) (j := j) (m := 10) (by omega)
  have ho := hI.orI hd j9 hlt hx
  conv => whnf
  refine ⟨⟨rfl, by omega, by omega⟩, ?_⟩
  conv => whnf
  refine ⟨_, map_get (by omega), ?_⟩
  conv => whnf
  have e7 := wrap_i64 (x := 7 * (j : Int)) (by omega)
  refine ⟨by omega, ?_⟩
  conv => whnf
  refine bF_dec (fun h4 => ?_) (fun h4 => ?_)
  · have h4 : ((D.drop a).take 10).getD j default ≥ 128 := h4
    rw [hx] at h4
    conv => whnf
    refine ⟨by kernel_rfl, 10 - (j + 1), by omega, _, _, j + 1, ⟨wrap_i64 (by omega), rfl, hI.next hd (by omega) hlt (by omega), fun h5 => ?_⟩, rfl⟩
    rw [take_step hlt]
    have hI2 := (hI.next hd (by omega) hlt (by omega)).dv_lt (by omega)
    rw [take_step hlt] at hI2
    rw [Nat.mod_eq_of_lt (by omega)] at ho
    exact ho
  have h4 : ¬ ((D.drop a).take 10).getD j default ≥ 128 := h4
  rw [hx] at h4
  obtain ⟨cD, cc⟩ := hI.chain hd hlt (by omega)
  have U64 : dv ((D.drop a).take j ++ [D.getD (a + j) default]) % 2 ^ 64 < 2 ^ 64 := Nat.mod_lt _ (by decide)
  have yes := end_yes cD cc U64
  have no := end_no cD cc
  have hlen := end_len cc (by rw [hI.len]; exact j9)
  rw [hI.len] at hlen
  have hlP : ((D.drop a).take j ++ [D.getD (a + j) default]).length = j + 1 := by rw [List.length_append, hI.len]; rfl
  generalize hU : dv ((D.drop a).take j ++ [D.getD (a + j) default]) % 2 ^ 64 = U at ho U64 yes no hlen
  have hn := unzz_I64 U64
  conv => whnf
  have e := unz_eq U64 ho
  refine NumBytesI2.ac e hn ?_
  conv => whnf
  have ej := wrap_i64 (x := (j : Int) + 1) (by omega)
  have K0 : (numB (unzz U) ≠ (D.drop a).take j ++ [D.getD (a + j) default]) → K (.tup [iv 0, iv 0, bv false]) [] [] := fun h => hK0 fun _ => no h
  have K1 : (numB (unzz U) = (D.drop a).take j ++ [D.getD (a + j) default]) → ∀ v, v = unzz U → ∀ p, p = (a : Int) + ((j + 1 : Nat) : Int) → K (.tup [iv v, iv p, bv true]) [] [] := fun h v hv p hp => by
    have := hK1 (unzz U) (by omega) (yes h)
    rw [h, hlP, ← hv, ← hp] at this
    exact this
  have e5 : IntKind.i64.wrap (IntKind.i64.wrap ((a : Int) + (j : Int)) + 1) = (a : Int) + ((j + 1 : Nat) : Int) := by
    rw [wrap_i64 (x := (a : Int) + (j : Int)) (by omega), wrap_i64 (by omega)]; omega
  refine bF_ne (fun h5 => ?_) (fun h5 => ?_)
  · conv => whnf
    exact K0 fun h => by
      have := (hlen.2 h).1
      omega
  conv => whnf
  refine bF_eq (fun h6 => ?_) (fun h6 => ?_)
  · conv => whnf
    refine bF_dec (fun h7 => ?_) (fun h7 => ?_)
    · have h7 : ((D.drop a).take 10).getD j default > 1 := h7
      rw [hx] at h7
      conv => whnf
      exact K0 fun h => (hlen.2 h).2 ⟨by omega, h7⟩
    · have h7 : ¬ ((D.drop a).take 10).getD j default > 1 := h7
      rw [hx] at h7
      conv => whnf
      exact K1 (hlen.1 ⟨by omega, fun h => h7 h.2⟩) _ e _ e5
  · conv => whnf
    exact K1 (hlen.1 ⟨by omega, fun h => h6 (by omega)⟩) _ e _ e5
end Go.Eng.T

namespace Go.Eng.T
open Go.Proofs Go.Eng Go.Eng.S
set_option maxRecDepth 100000
set_option maxHeartbeats 0

abbrev fkA : List (Key × Bool) := [((998, 0), true), ((3, 0), true), ((4, 0), true), ((5, 0), true)]
/-- A question with two answers. -/
def Two (f : FuncId) (args : List V) (P : Prop) : Prop := ∀ {K : V → List Obj → List Obj → Prop}, (P → K (bv true) [] []) → (¬ P → K (bv false) [] []) → AC Try.prog f args [] K
theorem in2 (n a b : Int) : Two 80 [iv n, iv a, iv b] (a ≤ n ∧ n ≤ b) := fun hT hF => in.ac n a b fun r hr => by
  cases r
  · exact hF fun h => by have := hr.2 h; cases this
  · exact hT (hr.1 rfl)

theorem l04Src2 (x : Int) : Two 73 [iv x] (0 ≤ x ∧ x < 4) := fun hT hF => by
  refine ac_body (ann []) fkA hm htt Try.func73 rfl (by kernel_rfl) rfl rfl ?_
  conv => whnf
  repeat' first
    | exact hT (by omega)
    | exact hF (by omega)
    | (refine bF_dec (fun _ => ?_) (fun _ => ?_) <;> conv => whnf)
theorem l05Time2 (x : Int) : Two 74 [iv x] (0 ≤ x ∧ x ≤ 1000) := fun hT hF => by
  refine ac_body (ann []) fkA hm htt Try.func74 rfl (by kernel_rfl) rfl rfl ?_
  conv => whnf
  repeat' first
    | exact hT (by omega)
    | exact hF (by omega)
    | (refine bF_dec (fun _ => ?_) (fun _ => ?_) <;> conv => whnf)
theorem l10Count2 (x : Int) : Two 75 [iv x] (0 ≤ x ∧ x ≤ 1000000) := fun hT hF => by
  refine ac_body (ann []) fkA hm htt Try.func75 rfl (by kernel_rfl) rfl rfl ?_
  conv => whnf
  repeat' first
    | exact hT (by omega)
    | exact hF (by omega)
    | (refine bF_dec (fun _ => ?_) (fun _ => ?_) <;> conv => whnf)
theorem l04Key2 (x : Int) : Two 99 [iv x] (0 ≤ x ∧ x ≤ 15) := fun hT hF => by
  refine ac_body (ann []) fkA hm htt Try.func99 rfl (by kernel_rfl) rfl rfl ?_
  conv => whnf
  repeat' first
    | exact hT (by omega)
    | exact hF (by omega)
    | (refine bF_dec (fun _ => ?_) (fun _ => ?_) <;> conv => whnf)
theorem l04Bits2 (x : Int) : Two 100 [iv x] (0 ≤ x ∧ x ≤ 4) := fun hT hF => by
  refine ac_body (ann []) fkA hm htt Try.func100 rfl (by kernel_rfl) rfl rfl ?_
  conv => whnf
  repeat' first
    | exact hT (by omega)
    | exact hF (by omega)
    | (refine bF_dec (fun _ => ?_) (fun _ => ?_) <;> conv => whnf)
theorem isSource2 (x : Int) : Two 103 [iv x] (0 ≤ x ∧ x < 4) := fun hT hF => by
  refine ac_body (ann []) fkA hm htt Try.func103 rfl (by kernel_rfl) rfl rfl ?_
  conv => whnf
  refine in2 _ _ _ (fun h => ?_) (fun h => ?_) <;> conv => whnf
  · exact hT (by omega)
  · exact hF (by omega)
theorem isTime2 (x : Int) : Two 104 [iv x] (0 ≤ x ∧ x ≤ 1000) := fun hT hF => by
  refine ac_body (ann []) fkA hm htt Try.func104 rfl (by kernel_rfl) rfl rfl ?_
  conv => whnf
  refine in2 _ _ _ (fun h => ?_) (fun h => ?_) <;> conv => whnf
  · exact hT (by omega)
  · exact hF (by omega)
theorem isKey2 (x : Int) : Two 116 [iv x] (0 ≤ x ∧ x ≤ 15) := fun hT hF => by
  refine ac_body (ann []) fkA hm htt Try.func116 rfl (by kernel_rfl) rfl rfl ?_
  conv => whnf
  refine in2 _ _ _ (fun h => ?_) (fun h => ?_) <;> conv => whnf
  · exact hT (by omega)
  · exact hF (by omega)

theorem ElemOkS2 (s k v t : Int) : Two 71 [.agg [iv s, iv k, iv v, iv t]] ((0 ≤ s ∧ s < 4) ∧ (0 ≤ k ∧ k ≤ 15) ∧ 0 ≤ t ∧ t ≤ 1000) := fun hT hF => by
  refine ac_body (ann []) fkA hm htt Try.func71 rfl (by kernel_rfl) rfl rfl ?_
  conv => whnf
  repeat' first
    | exact hT (by omega)
    | exact hF (by omega)
    | (refine l04Src2 _ (fun _ => ?_) (fun _ => ?_) <;> conv => whnf)
    | (refine l04Key2 _ (fun _ => ?_) (fun _ => ?_) <;> conv => whnf)
    | (refine l05Time2 _ (fun _ => ?_) (fun _ => ?_) <;> conv => whnf)
theorem isElem2 (s k v t : Int) : Two 101 [.agg [iv s, iv k, iv v, iv t]] ((0 ≤ s ∧ s < 4) ∧ (0 ≤ k ∧ k ≤ 15) ∧ 0 ≤ t ∧ t ≤ 1000) := fun hT hF => by
  refine ac_body (ann []) fkA hm htt Try.func101 rfl (by kernel_rfl) rfl rfl ?_
  conv => whnf
  repeat' first
    | exact hT (by omega)
    | exact hF (by omega)
    | (refine isSource2 _ (fun _ => ?_) (fun _ => ?_) <;> conv => whnf)
    | (refine isKey2 _ (fun _ => ?_) (fun _ => ?_) <;> conv => whnf)
    | (refine isTime2 _ (fun _ => ?_) (fun _ => ?_) <;> conv => whnf)
theorem l11Punct2 (s b k l : Int) : Two 72 [.agg [iv s, iv b, iv k, iv l]] ((0 ≤ s ∧ s < 4) ∧ (0 ≤ b ∧ b ≤ 4) ∧ (0 ≤ k ∧ k ≤ 15) ∧ 0 ≤ l ∧ l < 16) := fun hT hF => by
  refine ac_body (ann []) fkA hm htt Try.func72 rfl (by kernel_rfl) rfl rfl ?_
  conv => whnf
  repeat' first
    | exact hT (by omega)
    | exact hF (by omega)
    | (refine l04Src2 _ (fun _ => ?_) (fun _ => ?_) <;> conv => whnf)
    | (refine l04Key2 _ (fun _ => ?_) (fun _ => ?_) <;> conv => whnf)
    | (refine l04Bits2 _ (fun _ => ?_) (fun _ => ?_) <;> conv => whnf)
    | (refine bF_dec (fun _ => ?_) (fun _ => ?_) <;> conv => whnf)
theorem isPlace2 (s b k l : Int) : Two 102 [.agg [iv s, iv b, iv k, iv l]] ((0 ≤ s ∧ s < 4) ∧ (0 ≤ b ∧ b ≤ 4) ∧ 0 ≤ k ∧ k ≤ 15) := fun hT hF => by
  refine ac_body (ann []) fkA hm htt Try.func102 rfl (by kernel_rfl) rfl rfl ?_
  conv => whnf
  repeat' first
    | exact hT (by omega)
    | exact hF (by omega)
    | (refine isSource2 _ (fun _ => ?_) (fun _ => ?_) <;> conv => whnf)
    | (refine isKey2 _ (fun _ => ?_) (fun _ => ?_) <;> conv => whnf)
    | (refine in2 _ _ _ (fun _ => ?_) (fun _ => ?_) <;> conv => whnf)
end Go.Eng.T

namespace Go.Eng.T
open Go.Proofs Go.Eng Go.Eng.S
set_option maxRecDepth 100000
set_option maxHeartbeats 0

abbrev encOp (o : OpR) : V := .agg [iv o.k, iv o.eS, iv o.eK, iv o.eV, iv o.eT, iv o.pS, iv o.pB, iv o.pK, iv o.pL, iv o.s, iv o.n]
theorem bF_iff {c : Bool} {P p q : Prop} (e : c = true ↔ P) (h1 : P → p) (h0 : ¬ P → q) : bF c p q := bF_bool (fun h => h1 (e.1 h)) fun h => h0 fun k => by rw [e.2 k] at h; cases h
theorem eq4_iff {a a' b b' c c' d d' : Int} : (a == a' && (b == b' && (c == c' && (d == d' && true)))) = true ↔ a = a' ∧ b = b' ∧ c = c' ∧ d = d' := by
  simp only [Bool.and_eq_true, beq_iff_eq, and_true]
theorem bF4 {a a' b b' c c' d d' : Int} {p q : Prop} (h1 : a = a' ∧ b = b' ∧ c = c' ∧ d = d' → p) (h0 : ¬ (a = a' ∧ b = b' ∧ c = c' ∧ d = d') → q) :
    bF (a == a' && (b == b' && (c == c' && (d == d' && true)))) p q := bF_iff eq4_iff h1 h0
theorem bF11 {k k' a a' b b' c c' d d' e e' f f' g g' h h' s s' n n' : Int} {p q : Prop}
    (h1 : k = k' ∧ (a = a' ∧ b = b' ∧ c = c' ∧ d = d') ∧ (e = e' ∧ f = f' ∧ g = g' ∧ h = h') ∧ s = s' ∧ n = n' → p)
    (h0 : ¬ (k = k' ∧ (a = a' ∧ b = b' ∧ c = c' ∧ d = d') ∧ (e = e' ∧ f = f' ∧ g = g' ∧ h = h') ∧ s = s' ∧ n = n') → q) :
    bF (k == k' && ((a == a' && (b == b' && (c == c' && (d == d' && true)))) && ((e == e' && (f == f' && (g == g' && (h == h' && true)))) && (s == s' && (n == n' && true))))) p q :=
  bF_iff (by simp only [Bool.and_eq_true, beq_iff_eq, and_true]) h1 h0

attribute [local irreducible] callFunc comesTo
theorem OpOkS2 (o : OpR) : Two 42 [encOp o] o.ok := fun hT hF => by
  unfold OpR.ok OpR.noE OpR.noP at hT hF
  refine ac_body (ann []) fkA hm htt Try.func42 rfl (by kernel_rfl) rfl rfl ?_
  conv => whnf
  refine bF4 (fun _ => ?_) (fun _ => ?_) <;> conv => whnf
  all_goals (refine bF4 (fun _ => ?_) (fun _ => ?_) <;> conv => whnf)
  all_goals (refine bF_eq (fun _ => ?_) (fun _ => ?_) <;> conv => whnf)
  all_goals
    repeat' first
      | (refine bF_eq (fun _ => ?_) (fun _ => ?_) <;> conv => whnf)
      | (refine bF_dec (fun _ => ?_) (fun _ => ?_) <;> conv => whnf)
      | (refine ElemOkS2 _ _ _ _ (fun _ => ?_) (fun _ => ?_) <;> conv => whnf)
      | (refine l11Punct2 _ _ _ _ (fun _ => ?_) (fun _ => ?_) <;> conv => whnf)
      | (refine l04Src2 _ (fun _ => ?_) (fun _ => ?_) <;> conv => whnf)
      | (refine l05Time2 _ (fun _ => ?_) (fun _ => ?_) <;> conv => whnf)
      | (refine l10Count2 _ (fun _ => ?_) (fun _ => ?_) <;> conv => whnf)
  all_goals first
    | exact hF (fun h => by rcases h with h | h | h | h | h <;> omega)
    | exact hT (.inl (by omega))
    | exact hT (.inr (.inl (by omega)))
    | exact hT (.inr (.inr (.inl (by omega))))
    | exact hT (.inr (.inr (.inr (.inl (by omega)))))
    | exact hT (.inr (.inr (.inr (.inr (by omega)))))

end Go.Eng.T

namespace Go.Eng.T
open Go.Proofs Go.Eng Go.Eng.S
set_option maxRecDepth 100000
set_option maxHeartbeats 0

abbrev rowB (l : List Int) : Obj := .arr true 1 (l.map encB)
theorem fieldsS.ac (o : OpR) {K : V → List Obj → List Obj → Prop} (hK : K (.ls (1, 0) 1 0 11) [] [.arr true 1 (o.fs.map iv)]) : AC Try.prog 92 [encOp o] [] K := by
  refine ac_body (ann []) [((998, 0), true), ((3, 0), true), ((35, 0), true)] hm htt Try.func92 rfl (by kernel_rfl) rfl rfl ?_
  conv => whnf
  exact hK
theorem fieldsI.ac (o : OpR) {K : V → List Obj → List Obj → Prop} (hK : K (.ls (1, 0) 1 0 11) [] [.arr true 1 (o.fs.map iv)]) : AC Try.prog 105 [encOp o] [] K := by
  refine ac_body (ann []) [((998, 0), true), ((3, 0), true), ((35, 0), true)] hm htt Try.func105 rfl (by kernel_rfl) rfl rfl ?_
  conv => whnf
  exact hK

theorem catB_step {l : List Int} {i : Nat} (h : i < l.length) : catB (l.take (i + 1)) = catB (l.take i) ++ numB (l.getD i default) := by
  rw [List.take_add_one, List.getElem?_eq_getElem h, catB_app, List.getD_eq_getElem?_getD, List.getElem?_eq_getElem h]
  simp [catB]
theorem catB_le {l : List Int} {i : Nat} (h : l.length = 11) : (catB (l.take i)).length ≤ 110 := by
  have := catB_len (l := l.take i)
  have : (l.take i).length ≤ l.length := by rw [List.length_take]; omega
  omega
/-- A row is appended to a row. -/
theorem app_row {l m : List Int} {es' : List V} (h : es' = ((l.map encB).drop 0).take l.length ++ m.map encB) : es' = (l ++ m).map encB := by
  rw [h, List.drop_zero, List.take_of_length_le (by simp), List.map_append]
theorem row_all {l : List Int} {xs : List V} (h : xs = ((l.map encB).drop 0).take l.length) : xs = l.map encB := by
  rw [h, List.drop_zero, List.take_of_length_le (by simp)]
theorem getD_int {o : OpR} (h : o.ints) {i : Nat} (hi : i < o.fs.length) : I64 (o.fs.getD i default) := by
  rw [List.getD_eq_getElem?_getD, List.getElem?_eq_getElem hi]; exact h _ (List.getElem_mem hi)

theorem opBytesI.ac (o : OpR) (ho : o.ints) {K : V → List Obj → List Obj → Prop} (hK : K (.ls (1, 0) 1 0 (opB o).length) [] [rowB (opB o)]) : AC Try.prog 77 [encOp o] [] K := by
  have hfs : o.fs.length = 11 := rfl
  have hfm : (o.fs.map iv).length = 11 := rfl
  refine ac_body (annW [] [(3, [3, 8, 9, 10], [(10, 0), (19, 1)])] [(3, (19, 1), [19, 8])]) [((998, 0), true), ((3, 0), true), ((8, 0), true), ((10, 0), false), ((18, 0), false), ((19, 0), false), ((19, 1), false)] hm htt Try.func77 rfl (by kernel_rfl) rfl rfl ?_
  conv => whnf
  refine fieldsI.ac o ?_
  conv => whnf
  refine cwF_loop (fun m st => ∃ (z : Int) (i : Nat) (l : List Int), (z = i ∧ m = 11 - i ∧ i ≤ 11 ∧ l = catB (o.fs.take i)) ∧
    st = ⟨[.un, .un, .un, .ls (19, 1) 1 0 l.length, .un, .un, .un, .un, .ls (10, 0) 1 0 11, iv 11, iv z] ++ List.replicate 9 .un, mkOb [((10, 0), some (.arr true 1 (o.fs.map iv))), ((19, 1), some (rowB l))]⟩) 11 (by kernel_rfl) ⟨_, 0, [], ⟨rfl, rfl, by decide, rfl⟩, rfl⟩ ?_
  rintro m st ⟨z, i, l, ⟨rfl, rfl, i11, el⟩, rfl⟩
  have ll := catB_le (i := i) hfs
  rw [← el] at ll
  conv => whnf
  refine bF_dec (fun h2 => ?_) (fun h2 => ?_)
  · conv => whnf
    refine ⟨⟨rfl, by omega, by omega⟩, ?_⟩
    conv => whnf
    refine ⟨rfl, _, map_get0 (by omega), ?_⟩
    conv => whnf
    have cs := catB_step (l := o.fs) (i := i) (by omega)
    have hn := getD_int ho (i := i) (by omega)
    have nl := numB_len (n := o.fs.getD i default)
    refine NumBytesI.ac (o.fs.getD i default) hn ?_
    conv => whnf
    refine ⟨⟨rfl, rfl, by rw [List.length_map]; omega⟩, fun xs hx => ?_⟩
    obtain rfl := row_all hx
    conv => whnf
    refine ⟨⟨by decide, rfl, rfl, by rw [List.length_map]; omega, roomB (by omega) (by rw [List.length_map]; omega), rfl, by simp [mentsOne]⟩, fun l' es' hl he => ?_⟩
    obtain rfl := app_row he
    obtain rfl : l' = (l ++ numB (o.fs.getD i default)).length := by rw [hl, List.length_map, List.length_append]
    conv => whnf
    exact ⟨by kernel_rfl, 11 - (i + 1), by omega, _, i + 1, _, ⟨wrap_i64 (by omega), rfl, by omega, by rw [cs, el]⟩, rfl⟩
  · conv => whnf
    obtain rfl : i = 11 := by omega
    rw [List.take_of_length_le (by omega)] at el
    subst el
    exact hK

theorem OpBytesS.ac (o : OpR) (ho : o.ints) {K : V → List Obj → List Obj → Prop} (hK1 : o.ok → K (.ls (1, 0) 1 0 (opB o).length) [] [rowB (opB o)]) (hK0 : ¬ o.ok → K nilS [] []) : AC Try.prog 68 [encOp o] [] K := by
  have hfs : o.fs.length = 11 := rfl
  have hfm : (o.fs.map iv).length = 11 := rfl
  refine ac_body (annW [] [(6, [3, 4, 5], [(13, 0), (26, 1)])] [(6, (26, 1), [26, 11])]) [((998, 0), true), ((3, 0), true), ((11, 0), true), ((13, 0), false), ((25, 0), false), ((26, 0), false), ((26, 1), false)] hm htt Try.func68 rfl (by kernel_rfl) rfl rfl ?_
  conv => whnf
  refine OpOkS2 o (fun hk => ?_) (fun hk => ?_)
  rotate_left
  · conv => whnf
    exact hK0 hk
  conv => whnf
  refine fieldsS.ac o ?_
  conv => whnf
  refine cwF_loop (fun m st => ∃ (z : Int) (i : Nat) (l : List Int), (z = i ∧ m = 11 - i ∧ i ≤ 11 ∧ l = catB (o.fs.take i)) ∧
    st = ⟨[.un, .un, .un, .ls (26, 1) 1 0 l.length, .ls (13, 0) 1 0 11, iv z] ++ List.replicate 20 .un, mkOb [((13, 0), some (.arr true 1 (o.fs.map iv))), ((26, 1), some (rowB l))]⟩) 11 (by kernel_rfl) ⟨_, 0, [], ⟨rfl, rfl, by decide, rfl⟩, rfl⟩ ?_
  rintro m st ⟨z, i, l, ⟨rfl, rfl, i11, el⟩, rfl⟩
  have ll := catB_le (i := i) hfs
  rw [← el] at ll
  conv => whnf
  refine bF_dec (fun h2 => ?_) (fun h2 => ?_)
  · conv => whnf
    refine ⟨⟨rfl, by omega, by omega⟩, ?_⟩
    conv => whnf
    refine ⟨rfl, _, map_get0 (by omega), ?_⟩
    conv => whnf
    have cs := catB_step (l := o.fs) (i := i) (by omega)
    have hn := getD_int ho (i := i) (by omega)
    have nl := numB_len (n := o.fs.getD i default)
    refine NumBytesS.ac (o.fs.getD i default) hn ?_
    conv => whnf
    refine ⟨⟨rfl, rfl, by rw [List.length_map]; omega⟩, fun xs hx => ?_⟩
    obtain rfl := row_all hx
    conv => whnf
    refine ⟨⟨by decide, rfl, rfl, by rw [List.length_map]; omega, roomB (by omega) (by rw [List.length_map]; omega), rfl, by simp [mentsOne]⟩, fun l' es' hl he => ?_⟩
    obtain rfl := app_row he
    obtain rfl : l' = (l ++ numB (o.fs.getD i default)).length := by rw [hl, List.length_map, List.length_append]
    conv => whnf
    exact ⟨by kernel_rfl, 11 - (i + 1), by omega, _, i + 1, _, ⟨wrap_i64 (by omega), rfl, by omega, by rw [cs, el]⟩, rfl⟩
  · conv => whnf
    obtain rfl : i = 11 := by omega
    rw [List.take_of_length_le (by omega)] at el
    subst el
    exact hK1 hk
end Go.Eng.T

namespace Go.Eng.T
open Go.Proofs Go.Eng Go.Eng.S
set_option maxRecDepth 100000
set_option maxHeartbeats 0
attribute [local irreducible] callFunc comesTo
theorem isOp2 (o : OpR) : Two 76 [encOp o] o.ok := fun hT hF => by
  unfold OpR.ok OpR.noE OpR.noP at hT hF
  refine ac_body (ann []) fkA hm htt Try.func76 rfl (by kernel_rfl) rfl rfl ?_
  conv => whnf
  refine bF_eq (fun _ => ?_) (fun _ => ?_) <;> conv => whnf
  all_goals
    repeat' first
      | (refine bF11 (fun _ => ?_) (fun _ => ?_) <;> conv => whnf)
      | (refine bF_eq (fun _ => ?_) (fun _ => ?_) <;> conv => whnf)
      | (refine ⟨by kernel_rfl, ?_⟩; conv => whnf)
      | (refine isElem2 _ _ _ _ (fun _ => ?_) (fun _ => ?_) <;> conv => whnf)
      | (refine isPlace2 _ _ _ _ (fun _ => ?_) (fun _ => ?_) <;> conv => whnf)
      | (refine isSource2 _ (fun _ => ?_) (fun _ => ?_) <;> conv => whnf)
      | (refine isTime2 _ (fun _ => ?_) (fun _ => ?_) <;> conv => whnf)
      | (refine in2 _ _ _ (fun _ => ?_) (fun _ => ?_) <;> conv => whnf)
  all_goals first
    | exact hF (fun h => by rcases h with h | h | h | h | h <;> omega)
    | exact hT (.inl (by omega))
    | exact hT (.inr (.inl (by omega)))
    | exact hT (.inr (.inr (.inl (by omega))))
    | exact hT (.inr (.inr (.inr (.inl (by omega)))))
    | exact hT (.inr (.inr (.inr (.inr (by omega)))))
end Go.Eng.T
