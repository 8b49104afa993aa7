import Derived.Test.YtenocjjbfkgflaaXSD
import Derived.Test.YtenocjjbfkgflaaXEB
namespace Go.Eng.T
open Go.Proofs Go.Eng Go.Eng.S
set_option maxRecDepth 100000
set_option maxHeartbeats 0

/-- A number in bytes, the greatest first. -/
def numBE (l : List Int) : Int := l.foldl (fun s b => 256 * s + b) 0
theorem numBE_snoc {l : List Int} {b : Int} : numBE (l ++ [b]) = 256 * numBE l + b := by simp [numBE]
theorem foldBE : ∀ {l : List Int} (_ : Bytes l) {a : Int}, 0 ≤ a → 0 ≤ l.foldl (fun s b => 256 * s + b) a ∧ l.foldl (fun s b => 256 * s + b) a < (a + 1) * 256 ^ l.length
  | [], _, a, h => by simp; omega
  | b :: l, hb, a, h => by
    have h1 := hb b List.mem_cons_self
    have ih := foldBE (l := l) (fun x hx => hb x (List.mem_cons_of_mem _ hx)) (a := 256 * a + b) (by omega)
    refine ⟨ih.1, Int.lt_of_lt_of_le ih.2 ?_⟩
    rw [List.length_cons, Int.pow_succ, Int.mul_comm (256 ^ l.length), ← Int.mul_assoc]
    exact Int.mul_le_mul_of_nonneg_right (by omega) (Int.pow_nonneg (by decide))
theorem numBE_le {l : List Int} (h : Bytes l) : 0 ≤ numBE l ∧ numBE l < 256 ^ l.length := by
  have := foldBE h (a := 0) (Int.le_refl _)
  simpa [numBE] using this
theorem or_byte {s b : Int} (h0 : 0 ≤ s) (h1 : s < 16777216) (h2 : 0 ≤ b) (h3 : b ≤ 255) :
    IntKind.i64.wrap ((BitVec.ofInt IntKind.i64.bits (IntKind.i64.wrap (s * 256)) ||| BitVec.ofInt IntKind.i64.bits b).toNat : Int) = 256 * s + b := by
  obtain ⟨m, rfl⟩ : ∃ m : Nat, s = m := ⟨s.toNat, by omega⟩
  obtain ⟨n, rfl⟩ : ∃ n : Nat, b = n := ⟨b.toNat, by omega⟩
  rw [wrap_i64 (x := (m : Int) * 256) (by omega)]
  have e1 : ((m : Int) * 256) = ((2 ^ 8 * m : Nat) : Int) := by push_cast; omega
  rw [e1]
  have e2 : (BitVec.ofInt IntKind.i64.bits ((2 ^ 8 * m : Nat) : Int) ||| BitVec.ofInt IntKind.i64.bits (n : Int)).toNat = 2 ^ 8 * m + n := by
    rw [BitVec.ofInt_natCast, BitVec.ofInt_natCast, BitVec.toNat_or, BitVec.toNat_ofNat, BitVec.toNat_ofNat, Nat.mod_eq_of_lt (by show 2 ^ 8 * m < 2 ^ 64; omega), Nat.mod_eq_of_lt (by show n < 2 ^ 64; omega), Nat.two_pow_add_eq_or_of_lt (by omega)]
  rw [e2, wrap_i64 (by push_cast; omega)]
  push_cast; omega
theorem numBE_take {l : List Int} {i : Nat} (h : i < l.length) : numBE (l.take (i + 1)) = 256 * numBE (l.take i) + l.getD i default := by
  rw [← take_succD h, numBE_snoc]
theorem bytes_take {l : List Int} (h : Bytes l) (i : Nat) : Bytes (l.take i) := fun x hx => h x (List.mem_of_mem_take hx)
theorem bytes_drop {l : List Int} (h : Bytes l) (i : Nat) : Bytes (l.drop i) := fun x hx => h x (List.mem_of_mem_drop hx)
theorem numBE_small {l : List Int} (h : Bytes l) (hl : l.length ≤ 3) : 0 ≤ numBE l ∧ numBE l < 16777216 := by
  have h1 := numBE_le h
  have : (256 : Int) ^ l.length ≤ 256 ^ 3 := by
    generalize l.length = k at hl
    match k, hl with
    | 0, _ => exact (by decide)
    | 1, _ => exact (by decide)
    | 2, _ => exact (by decide)
    | 3, _ => exact (by decide)
  exact ⟨h1.1, Int.lt_of_lt_of_le h1.2 this⟩
theorem readBig.ac (l : List Int) (hb : Bytes l) (hl : l.length ≤ 4) {K : V → List Obj → List Obj → Prop} (hK : K (iv (numBE l)) [] []) : AC Try.prog 83 [.is 1 (l.map encB)] [] K := by
  have hml : (l.map encB).length = l.length := List.length_map ..
  refine ac_body (ann [(3, [3, 6, 7, 8], [])]) [((998, 0), true)] hm htt Try.func83 rfl (by kernel_rfl) rfl rfl ?_
  conv => whnf
  refine cwF_loop (fun m st => ∃ (z s : Int) (i : Nat), (z = i ∧ m = l.length - i ∧ i ≤ l.length ∧ s = numBE (l.take i)) ∧
    st = ⟨[.un, .un, .un, iv s, .un, .un, .is 1 (l.map encB), iv (l.map encB).length, iv z] ++ List.replicate 10 .un, mkOb []⟩) l.length (by kernel_rfl) ⟨_, _, 0, ⟨rfl, rfl, by omega, rfl⟩, rfl⟩ ?_
  rintro m st ⟨z, s, i, ⟨rfl, rfl, i1, hs⟩, rfl⟩
  refine cw_gen fun Q0 n0 x0 _ => ?_
  conv => whnf
  refine bF_dec (fun h => ?_) (fun h => ?_)
  · conv => whnf
    refine ⟨⟨rfl, Int.natCast_nonneg _, h⟩, ?_⟩
    conv => whnf
    refine ⟨_, map_get (by omega), ?_⟩
    conv => whnf
    have hi : i < l.length := by omega
    have hbi := bytes_get hb hi
    have hsm := numBE_small (bytes_take hb i) (by rw [List.length_take]; omega)
    have e : IntKind.i64.wrap ((BitVec.ofInt IntKind.i64.bits (IntKind.i64.wrap (s * 256)) ||| BitVec.ofInt IntKind.i64.bits (IntKind.i64.wrap (l.getD ((i : Nat) : Int).toNat default))).toNat : Int) = numBE (l.take (i + 1)) := by
      rw [Int.toNat_natCast, wrap_i64 (x := l.getD i default) (by omega), numBE_take hi, ← hs, or_byte (by omega) (by omega) hbi.1 hbi.2]
    refine n0 _ ?_
    exact ⟨by kernel_rfl, l.length - (i + 1), by omega, _, _, i + 1, ⟨wrap_i64 (by omega), rfl, by omega, e⟩, rfl⟩
  · conv => whnf
    refine x0 _ _ ?_
    conv => whnf
    rw [hs, List.take_of_length_le (by omega)]
    exact hK
theorem l16At.ac (D : List Int) (hb : Bytes D) (p n : Nat) (hn : n ≤ 4) (hp : p + n ≤ D.length) (hD : D.length ≤ 10000000) {K : V → List Obj → List Obj → Prop} (hK : K (iv (numBE ((D.drop p).take n))) [] []) : AC Try.prog 57 [.is 1 (D.map encB), iv p, iv n] [] K := by
  have hml : (D.map encB).length = D.length := List.length_map ..
  refine ac_body (ann [(3, [0, 1, 2, 7, 8], [])]) [((998, 0), true)] hm htt Try.func57 rfl (by kernel_rfl) rfl rfl ?_
  conv => whnf
  refine cwF_loop (fun m st => ∃ (z s : Int) (i : Nat), (z = i ∧ m = n - i ∧ i ≤ n ∧ s = numBE ((D.drop p).take i)) ∧
    st = ⟨[.is 1 (D.map encB), iv p, iv n, .un, .un, .un, .un, iv s, iv z] ++ List.replicate 16 .un, mkOb []⟩) n (by kernel_rfl) ⟨_, _, 0, ⟨rfl, rfl, by omega, rfl⟩, rfl⟩ ?_
  rintro m st ⟨z, s, i, ⟨rfl, rfl, i1, hs⟩, rfl⟩
  refine cw_gen fun Q0 n0 x0 _ => ?_
  conv => whnf
  refine bF_dec (fun h => ?_) (fun h => ?_)
  · conv => whnf
    have hi : i < n := by omega
    have hpi : IntKind.i64.wrap ((p : Int) + (i : Int)) = ((p + i : Nat) : Int) := by rw [wrap_i64 (by omega)]; omega
    refine ⟨⟨rfl, by rw [hpi]; omega, by rw [hpi, hml]; omega⟩, ?_⟩
    conv => whnf
    refine ⟨_, map_get (by rw [hpi, hml]; omega), ?_⟩
    conv => whnf
    have hg : D.getD (IntKind.i64.wrap ((p : Int) + (i : Int))).toNat default = (D.drop p).getD i default := by
      rw [hpi, Int.toNat_natCast, List.getD_eq_getElem?_getD, List.getD_eq_getElem?_getD, List.getElem?_drop]
    have hbi := bytes_get (bytes_drop hb p) (i := i) (by rw [List.length_drop]; omega)
    have hsm := numBE_small (bytes_take (bytes_drop hb p) i) (by rw [List.length_take]; omega)
    have e : IntKind.i64.wrap (IntKind.i64.wrap (256 * s) + IntKind.i64.wrap (D.getD (IntKind.i64.wrap ((p : Int) + (i : Int))).toNat default)) = numBE ((D.drop p).take (i + 1)) := by
      rw [hg, numBE_take (by rw [List.length_drop]; omega), ← hs, wrap_i64 (x := 256 * s) (by omega), wrap_i64 (x := (D.drop p).getD i default) (by omega), wrap_i64 (by omega)]
    refine n0 _ ?_
    exact ⟨by kernel_rfl, n - (i + 1), by omega, _, _, i + 1, ⟨wrap_i64 (by omega), rfl, by omega, e⟩, rfl⟩
  · conv => whnf
    refine x0 _ _ ?_
    conv => whnf
    obtain rfl : i = n := by omega
    rw [hs]
    exact hK
end Go.Eng.T

namespace Go.Eng.T
open Go.Proofs Go.Eng Go.Eng.S
set_option maxRecDepth 100000

theorem four_num {g : Int} (h : 0 ≤ g ∧ g ≤ 1000000000) : numBE (four g) = g := by
  simp only [numBE, four, List.foldl_cons, List.foldl_nil]; omega
theorem four_bytes {g : Int} : Bytes (four g) := fun x hx => by
  simp only [four, List.mem_cons, List.not_mem_nil, or_false] at hx
  rcases hx with rfl | rfl | rfl | rfl <;> omega
/-- What stands in an image. -/
structure Img (D : List Int) (g : Int) (ops : List OpR) : Prop where
  len : D.length = 7000
  n : numBE ((D.drop 4).take 2) = (logB ops).length
  small : (logB ops).length ≤ 6990
  log : (D.drop 6).take (logB ops).length = logB ops
  gen : numBE ((D.drop 0).take 4) = g
  gen' : numBE (D.take 4) = g
theorem img_of {g : Int} {ops : List OpR} (h : ImOk g ops) : Img (imB g ops) g ops := by
  have h3 := h.2.2
  have e : imB g ops = four g ++ ([((logB ops).length : Int) / 256, ((logB ops).length : Int) % 256] ++ (logB ops ++ (List.replicate (6990 - (logB ops).length) 0 ++ four g))) := by
    simp only [imB, List.append_assoc]
  have l4 : (four g).length = 4 := rfl
  have t4 : (imB g ops).take 4 = four g := by rw [e]; exact List.take_left' l4
  have d4 : (imB g ops).drop 4 = [((logB ops).length : Int) / 256, ((logB ops).length : Int) % 256] ++ (logB ops ++ (List.replicate (6990 - (logB ops).length) 0 ++ four g)) := by rw [e]; exact List.drop_left' l4
  have d6 : (imB g ops).drop 6 = logB ops ++ (List.replicate (6990 - (logB ops).length) 0 ++ four g) := by
    rw [show 6 = 4 + 2 from rfl, ← List.drop_drop, d4]; rfl
  have hg := four_num (g := g) (by have := h.2.1; omega)
  refine ⟨imB_len h, ?_, h3, ?_, ?_, ?_⟩
  · rw [d4]
    simp only [List.cons_append, List.nil_append, List.take_succ_cons, List.take_zero, numBE, List.foldl_cons, List.foldl_nil]
    omega
  · rw [d6, List.take_left]
  · rw [List.drop_zero, t4, hg]
  · rw [t4, hg]
theorem logB_inj {a b : List OpR} (ha : (∀ o ∈ a, o.good) ∧ a.length ≤ 250) (hb : (∀ o ∈ b, o.good) ∧ b.length ≤ 250) (h : logB a = logB b) : a = b := by
  have h1 := logR_self ha.1 ha.2
  have h2 := logR_self hb.1 hb.2
  rw [h] at h1
  exact logR_unique h1 h2
theorem img_unique {g g' : Int} {ops ops' : List OpR} (h : ImOk g ops) (h' : ImOk g' ops') (e : imB g ops = imB g' ops') : g = g' ∧ ops = ops' := by
  have i1 := img_of h
  have i2 := img_of h'
  rw [e] at i1
  refine ⟨by rw [← i1.gen, i2.gen], logB_inj h.1 h'.1 ?_⟩
  have hn : (logB ops).length = (logB ops').length := by have := i1.n; rw [i2.n] at this; omega
  rw [← i1.log, hn, i2.log]
theorem log_bytes {ops : List OpR} (h : ∀ o ∈ ops, o.good) : Bytes (logB ops) := logB_bytes fun o ho => (h o ho).2
theorem img_bytes {g : Int} {ops : List OpR} (h : ImOk g ops) : Bytes (imB g ops) := fun x hx => by
  simp only [imB, List.mem_append] at hx
  rcases hx with (((hx | hx) | hx) | hx) | hx
  · exact four_bytes x hx
  · have := h.2.2
    simp only [List.mem_cons, List.not_mem_nil, or_false] at hx
    rcases hx with rfl | rfl <;> omega
  · exact log_bytes h.1.1 x hx
  · rw [List.mem_replicate] at hx; omega
  · exact four_bytes x hx
/-- What the reading of an image comes to. -/
theorem img_read {D : List Int} {z : Nat} {g : Int} {ops : List OpR} (hz : numBE ((D.drop 4).take 2) = z) (hg : numBE ((D.drop 0).take 4) = g) (hr : LogR ((D.drop 6).take z) ops) {g' : Int} {ops' : List OpR} (h : ImOk g' ops') (e : imB g' ops' = D) : z ≤ 6990 ∧ g = g' ∧ ops = ops' := by
  have i := img_of h
  rw [e] at i
  have hz' : z = (logB ops').length := by have := i.n; omega
  subst hz'
  rw [i.log] at hr
  exact ⟨i.small, by rw [← hg, i.gen], logR_unique hr (logR_self h.1.1 h.1.2)⟩
end Go.Eng.T

namespace Go.Eng.T
open Go.Proofs Go.Eng Go.Eng.S
set_option maxRecDepth 100000
set_option maxHeartbeats 0

theorem numBE2 {D : List Int} (hb : Bytes D) (h : D.length = 7000) : ∃ z : Nat, numBE ((D.drop 4).take 2) = z ∧ z ≤ 65535 := by
  have := numBE_le (bytes_take (bytes_drop hb 4) 2)
  rw [List.length_take, List.length_drop, h] at this
  have e : (256 : Int) ^ min 2 (7000 - 4) = 65536 := by decide
  exact ⟨(numBE ((D.drop 4).take 2)).toNat, by omega, by omega⟩
theorem cut_map {D : List Int} {a z : Nat} {h : Int} {es' : List V} (hh : h = ((a + z : Nat) : Int)) (he : es' = ((D.map encB).drop a).take (h.toNat - a)) : es' = ((D.drop a).take z).map encB := by
  rw [he, hh, Int.toNat_natCast, Nat.add_sub_cancel_left, List.map_take, List.map_drop]
theorem ImageReadS.ac (D : List Int) (hb : Bytes D) (hD : D.length ≤ 10000000) {K : V → List Obj → List Obj → Prop} (hK1 : ∀ g ops, ImOk g ops → imB g ops = D → K (.tup [iv g, .ls (1, 0) 11 0 ops.length, bv true]) [] [rowO ops])
    (hK0 : (∀ g ops, ImOk g ops → imB g ops ≠ D) → K (.tup [iv 0, nilS, bv false]) [] []) : AC Try.prog 24 [.is 1 (D.map encB)] [] K := by
  have hml : (D.map encB).length = D.length := List.length_map ..
  refine ac_body (ann []) [((998, 0), true), ((25, 0), false), ((33, 0), false)] hm htt Try.func24 rfl (by kernel_rfl) rfl rfl ?_
  conv => whnf
  refine bF_ne (fun h => ?_) (fun h => ?_)
  · conv => whnf
    exact hK0 fun g ops hk e => by have := (img_of hk).len; rw [e] at this; omega
  have h7 : D.length = 7000 := by omega
  conv => whnf
  refine l16At.ac D hb 4 2 (by omega) (by omega) hD ?_
  obtain ⟨z, hz, hz2⟩ := numBE2 hb h7
  rw [hz]
  conv => whnf
  refine bF_dec (fun h1 => ?_) (fun h1 => ?_)
  · conv => whnf
    exact hK0 fun g ops hk e => by
      have i := img_of hk
      rw [e] at i
      have := i.n; have := i.small
      omega
  conv => whnf
  have e6 : IntKind.i64.wrap (6 + (z : Int)) = ((6 + z : Nat) : Int) := by rw [wrap_i64 (by omega)]; omega
  refine ⟨rfl, ?_⟩
  conv => whnf
  refine ⟨⟨⟨by rw [e6]; omega, by rw [e6]; omega⟩, by decide, by rw [e6]; omega⟩, fun es' hes => ?_⟩
  obtain rfl : es' = ((D.drop 6).take z).map encB := cut_map e6 hes
  conv => whnf
  refine LogReadS.ac _ (bytes_take (bytes_drop hb 6) z) (by rw [List.length_take]; omega) fun ops hr => ?_
  conv => whnf
  refine l16At.ac D hb 0 4 (by omega) (by omega) hD ?_
  obtain ⟨g, hg⟩ : ∃ g, numBE ((D.drop 0).take 4) = g := ⟨_, rfl⟩
  rw [hg]
  conv => whnf
  have hgood := hr.good
  have hlen := hr.len
  have hno : (∀ g' ops', ImOk g' ops' → imB g' ops' = D → g = g' ∧ ops = ops') := fun g' ops' hk e => (img_read hz hg hr hk e).2
  refine AC.gOps (ImageOfS.ac g ops (fun o ho => (hgood o ho).2) (by omega) (fun hk => ⟨⟨rfl, rfl, noIs_rowB _⟩, ?_⟩) (fun hk => ⟨⟨rfl, rfl, rfl⟩, ?_⟩))
  · conv => whnf
    refine ⟨⟨rfl, rfl, by rw [List.length_map]; omega⟩, fun xs hx => ⟨imB g ops, row_all hx, ?_⟩⟩
    conv => whnf
    refine ⟨rfl, D, rfl, ?_⟩
    conv => whnf
    have se := str_eq (img_bytes hk) hb
    refine bF_bool (fun h4 => ?_) (fun h4 => ?_)
    · have h10 : (!((strOfNums (imB g ops)).toList == (strOfNums D).toList)) = true := h4
      conv => whnf
      exact hK0 fun g' ops' hk' e => by
        obtain ⟨rfl, rfl⟩ := hno g' ops' hk' e
        rw [se.2 e] at h10; cases h10
    · have h10 : (!((strOfNums (imB g ops)).toList == (strOfNums D).toList)) = false := h4
      rw [Bool.not_eq_false'] at h10
      conv => whnf
      exact hK1 g ops hk (se.1 h10)
  · conv => whnf
    exact hK0 fun g' ops' hk' e => by
      obtain ⟨rfl, rfl⟩ := hno g' ops' hk' e
      exact hk hk'
end Go.Eng.T

namespace Go.Eng.T
open Go.Proofs Go.Eng Go.Eng.S
set_option maxRecDepth 100000
set_option maxHeartbeats 0

theorem eq_step {a b : List Int} {i : Nat} (h : a.take i = b.take i) (ha : i < a.length) (hb : i < b.length) (e : a.getD i default = b.getD i default) : a.take (i + 1) = b.take (i + 1) := by
  rw [← take_succD ha, ← take_succD hb, h, e]
theorem EqualB2 (a b : List Int) (ha : a.length ≤ 10000000) : Two 84 [.is 1 (a.map encB), .is 1 (b.map encB)] (a = b) := fun hT hF => by
  have la : (a.map encB).length = a.length := List.length_map ..
  have lb : (b.map encB).length = b.length := List.length_map ..
  refine ac_body (ann [(4, [0, 1, 12, 13], [])]) [((997, 0), true)] hm htt Try.func84 rfl (by kernel_rfl) rfl rfl ?_
  repeat' ((conv => whnf); first
    | (refine bF_ne (fun h => ?_) (fun h => ?_))
    | (refine bF_dec (fun _ => ?_) (fun _ => ?_) <;> try (exfalso; omega))
    | (refine bF_eq (fun _ => ?_) (fun _ => ?_) <;> try (exfalso; omega))
    | (refine bF_ne (fun _ => ?_) (fun _ => ?_) <;> try (exfalso; omega))
    | (refine a64 (by omega) ?_)
    | (refine ix_at rfl (by omega) ?_)
    | (refine ⟨⟨rfl, by omega, by omega⟩, ?_⟩)
    | (refine map_at (by omega) ?_)
    | (refine alen ?_)
    | (refine amin ?_)
    | (refine amax ?_)
    | (refine ⟨⟨rfl, rfl, by simp [V.ments]⟩, ?_⟩)
    | (refine map_at0 (by omega) ?_)
    | (refine set_at rfl ?_)
    | (refine map_atI (by omega) ?_)
    | (refine map_atI0 (by omega) ?_)
    | (refine set_atI rfl ?_)
    | (refine ⟨⟨by decide, rfl, by omega, by omega, by omega, by dsimp only; omega⟩, ?_⟩)
    | (refine arem (by omega) ?_)
    | (refine aquo (by omega) (by omega) ?_)
    | (refine au8 ?_)
    | (refine au64 (by omega) ?_)
    | (refine anat ?_)
    | (refine szOk rfl ?_)
    | (refine dvOk rfl (by omega) ?_)
    | (refine nzOk (by decide) ?_)
    | (refine lgOk (by kernel_rfl) ?_)
    | (refine kpOk (by kernel_rfl) ?_)
    | fail)
  all_goals conv => whnf
  · exact hF fun e => h (by rw [e])
  have hl : a.length = b.length := by omega
  refine cwF_loop (fun m st => ∃ (i : Nat), (m = a.length - i ∧ i ≤ a.length ∧ a.take i = b.take i) ∧
    st = ⟨[.is 1 (a.map encB), .is 1 (b.map encB), .un, .un, .un, .un, .un, .un, .un, .un, .un, .un, iv (a.length : Nat), iv i] ++ List.replicate 12 .un, mkOb []⟩) a.length (by kernel_rfl) ⟨0, ⟨rfl, by omega, rfl⟩, rfl⟩ ?_
  rintro m st ⟨i, ⟨rfl, i1, hi⟩, rfl⟩
  repeat' ((conv => whnf); first
    | (refine bF_dec (fun _ => ?_) (fun _ => ?_) <;> try (exfalso; omega))
    | (refine bF_eq (fun _ => ?_) (fun _ => ?_) <;> try (exfalso; omega))
    | (refine bF_ne (fun _ => ?_) (fun _ => ?_) <;> try (exfalso; omega))
    | (refine a64 (by omega) ?_)
    | (refine ix_at rfl (by omega) ?_)
    | (refine ⟨⟨rfl, by omega, by omega⟩, ?_⟩)
    | (refine map_at (by omega) ?_)
    | (refine alen ?_)
    | (refine amin ?_)
    | (refine amax ?_)
    | (refine ⟨⟨rfl, rfl, by simp [V.ments]⟩, ?_⟩)
    | (refine map_at0 (by omega) ?_)
    | (refine set_at rfl ?_)
    | (refine map_atI (by omega) ?_)
    | (refine map_atI0 (by omega) ?_)
    | (refine set_atI rfl ?_)
    | (refine ⟨⟨by decide, rfl, by omega, by omega, by omega, by dsimp only; omega⟩, ?_⟩)
    | (refine arem (by omega) ?_)
    | (refine aquo (by omega) (by omega) ?_)
    | (refine au8 ?_)
    | (refine au64 (by omega) ?_)
    | (refine anat ?_)
    | (refine szOk rfl ?_)
    | (refine dvOk rfl (by omega) ?_)
    | (refine nzOk (by decide) ?_)
    | (refine lgOk (by kernel_rfl) ?_)
    | (refine kpOk (by kernel_rfl) ?_)
    | fail)
  all_goals conv => whnf
  · exact hF fun e => absurd (congrArg (·.getD i default) e) ‹_›
  · exact ⟨a.length - (i + 1), by omega, i + 1, ⟨rfl, by omega, eq_step hi (by omega) (by omega) ‹_›⟩, rfl⟩
  · rw [List.take_of_length_le (by omega), List.take_of_length_le (by omega)] at hi
    exact hT hi
theorem noIs_B (l : List Int) : noIsL (l.map encB) = true := noIsL_of fun x hx => by obtain ⟨i, _, rfl⟩ := List.mem_map.1 hx; rfl
theorem EqualR (l : List Int) (fs : List V) {p : Prop} (h : Two 84 [.is 1 (l.map encB), .is 1 fs] p) {K : V → List Obj → List Obj → Prop} (hT : p → K (bv true) [rowB l] []) (hF : ¬ p → K (bv false) [rowB l] []) :
    AC Try.prog 84 [.ls (0, 0) 1 0 l.length, .is 1 fs] [rowB l] K := by
  have := AC.borrow (f := 84) (args := [.ls (0, 0) 1 0 (l.map encB).length, .is 1 fs]) (objs := []) (n := 1) (es := l.map encB) (.cons (.all rfl) (.cons (.same List.not_mem_nil) .nil)) (fun _ h => nomatch h)
    (h (K := fun v o n => (v.noIs = true ∧ noIsO o = true ∧ noIsO n = true) ∧ K v (o ++ [rowB l]) n) (fun hp => ⟨⟨rfl, rfl, rfl⟩, hT hp⟩) (fun hp => ⟨⟨rfl, rfl, rfl⟩, hF hp⟩))
  rwa [List.length_map] at this
theorem imageRead.ac (D : List Int) (hb : Bytes D) (hD : D.length ≤ 10000000) {K : V → List Obj → List Obj → Prop} (hK1 : ∀ g ops, ImOk g ops → imB g ops = D → K (.tup [iv g, .ls (1, 0) 11 0 ops.length, bv true]) [] [rowO ops])
    (hK0 : (∀ g ops, ImOk g ops → imB g ops ≠ D) → K (.tup [iv 0, nilS, bv false]) [] []) : AC Try.prog 54 [.is 1 (D.map encB)] [] K := by
  have hml : (D.map encB).length = D.length := List.length_map ..
  refine ac_body (ann []) [((997, 0), true), ((30, 0), false), ((36, 0), false)] hm htt Try.func54 rfl (by kernel_rfl) rfl rfl ?_
  conv => whnf
  refine alen ?_
  conv => whnf
  refine bF_ne (fun h => ?_) (fun h => ?_)
  · conv => whnf
    exact hK0 fun g ops hk e => by have := (img_of hk).len; rw [e] at this; omega
  have h7 : D.length = 7000 := by omega
  obtain ⟨z, hz, hz2⟩ := numBE2 hb h7
  obtain ⟨g, hg⟩ : ∃ g, numBE ((D.drop 0).take 4) = g := ⟨_, rfl⟩
  have b1 : Bytes ((D.drop 0).take 4) := bytes_take (bytes_drop hb 0) 4
  have b2 : Bytes ((D.drop 4).take 2) := bytes_take (bytes_drop hb 4) 2
  have n1 : ((D.drop 0).take 4).length ≤ 4 := by rw [List.length_take]; omega
  have n2 : ((D.drop 4).take 2).length ≤ 4 := by rw [List.length_take]; omega
  repeat' ((conv => whnf); first
    | (refine cutN 0 4 ⟨by omega, by omega⟩ rfl rfl ?_)
    | (refine cutN 4 2 ⟨⟨by omega, by omega⟩, by omega, by omega⟩ rfl rfl ?_)
    | (refine readBig.ac _ b1 n1 ?_; rw [hg])
    | (refine readBig.ac _ b2 n2 ?_; rw [hz])
    | (refine bF_dec (fun _ => ?_) (fun _ => ?_) <;> try (exfalso; omega))
    | (refine bF_eq (fun _ => ?_) (fun _ => ?_) <;> try (exfalso; omega))
    | (refine bF_ne (fun _ => ?_) (fun _ => ?_) <;> try (exfalso; omega))
    | (refine a64 (by omega) ?_)
    | (refine ix_at rfl (by omega) ?_)
    | (refine ⟨⟨rfl, by omega, by omega⟩, ?_⟩)
    | (refine map_at (by omega) ?_)
    | (refine alen ?_)
    | (refine amin ?_)
    | (refine amax ?_)
    | (refine ⟨⟨rfl, rfl, by simp [V.ments]⟩, ?_⟩)
    | (refine map_at0 (by omega) ?_)
    | (refine set_at rfl ?_)
    | (refine map_atI (by omega) ?_)
    | (refine map_atI0 (by omega) ?_)
    | (refine set_atI rfl ?_)
    | (refine ⟨⟨by decide, rfl, by omega, by omega, by omega, by dsimp only; omega⟩, ?_⟩)
    | (refine arem (by omega) ?_)
    | (refine aquo (by omega) (by omega) ?_)
    | (refine au8 ?_)
    | (refine au64 (by omega) ?_)
    | (refine anat ?_)
    | (refine szOk rfl ?_)
    | (refine dvOk rfl (by omega) ?_)
    | (refine nzOk (by decide) ?_)
    | (refine lgOk (by kernel_rfl) ?_)
    | (refine kpOk (by kernel_rfl) ?_)
    | fail)
  all_goals conv => whnf
  · exact hK0 fun g ops hk e => by
      have i := img_of hk
      rw [e] at i
      have := i.n; have := i.small
      omega
  refine cutN 6 z ⟨⟨by omega, by omega⟩, by omega, by omega⟩ rfl (by omega) ?_
  conv => whnf
  refine logRead.ac _ (bytes_take (bytes_drop hb 6) z) (by rw [List.length_take]; omega) fun ops hr => ?_
  conv => whnf
  have hgood := hr.good
  have hlen := hr.len
  have hno : (∀ g' ops', ImOk g' ops' → imB g' ops' = D → g = g' ∧ ops = ops') := fun g' ops' hk e => (img_read hz hg hr hk e).2
  refine AC.gOps (imageOf.ac g ops (fun o ho => (hgood o ho).2) (by omega) (fun hk => ⟨⟨rfl, rfl, noIs_rowB _⟩, ?_⟩) (fun hk => ⟨⟨rfl, rfl, rfl⟩, ?_⟩))
  · conv => whnf
    refine EqualR _ _ (EqualB2 (imB g ops) D (by rw [imB_len hk]; omega)) (fun e => ?_) (fun e => ?_)
    · conv => whnf
      exact hK1 g ops hk e
    · conv => whnf
      exact hK0 fun g' ops' hk' e' => by
        obtain ⟨rfl, rfl⟩ := hno g' ops' hk' e'
        exact e e'
  · conv => whnf
    exact hK0 fun g' ops' hk' e => by
      obtain ⟨rfl, rfl⟩ := hno g' ops' hk' e
      exact hk hk'
theorem ImageReadI.ac (D : List Int) (hb : Bytes D) (hD : D.length ≤ 10000000) {K : V → List Obj → List Obj → Prop} (hK1 : ∀ g ops, ImOk g ops → imB g ops = D → K (.tup [iv g, .ls (1, 0) 11 0 ops.length, bv true]) [] [rowO ops])
    (hK0 : (∀ g ops, ImOk g ops → imB g ops ≠ D) → K (.tup [iv 0, nilS, bv false]) [] []) : AC Try.prog 14 [.is 1 (D.map encB)] [] K := by
  refine ac_body (ann []) [((997, 0), true), ((8, 0), false)] hm htt Try.func14 rfl (by kernel_rfl) rfl rfl ?_
  conv => whnf
  refine imageRead.ac D hb hD (fun g ops h1 h2 => ?_) (fun h => ?_)
  · conv => whnf
    exact hK1 g ops h1 h2
  · conv => whnf
    exact hK0 h
theorem toByteS.ac (D : List Int) (hD : D.length ≤ 10000000) {K : V → List Obj → List Obj → Prop} (hK : K (.ls (1, 0) 1 0 D.length) [] [rowB D]) : AC Try.prog 25 [.is 1 (D.map encB)] [] K := by
  refine ac_body (ann [(3, [0, 3, 4], [(9, 0)])]) [((997, 0), true), ((9, 0), false)] hm htt Try.func25 rfl (by kernel_rfl) rfl rfl ?_
  repeat' ((conv => whnf); first
    | (refine bF_dec (fun _ => ?_) (fun _ => ?_) <;> try (exfalso; omega))
    | (refine bF_eq (fun _ => ?_) (fun _ => ?_) <;> try (exfalso; omega))
    | (refine bF_ne (fun _ => ?_) (fun _ => ?_) <;> try (exfalso; omega))
    | (refine a64 (by omega) ?_)
    | (refine ix_at rfl (by omega) ?_)
    | (refine ⟨⟨rfl, by omega, by omega⟩, ?_⟩)
    | (refine map_at (by omega) ?_)
    | (refine alen ?_)
    | (refine amin ?_)
    | (refine amax ?_)
    | (refine ⟨⟨rfl, rfl, by simp [V.ments]⟩, ?_⟩)
    | (refine map_at0 (by omega) ?_)
    | (refine set_at rfl ?_)
    | (refine map_atI (by omega) ?_)
    | (refine map_atI0 (by omega) ?_)
    | (refine set_atI rfl ?_)
    | (refine ⟨⟨by decide, rfl, by omega, by omega, by omega, by dsimp only; omega⟩, ?_⟩)
    | (refine arem (by omega) ?_)
    | (refine aquo (by omega) (by omega) ?_)
    | (refine au8 ?_)
    | (refine au64 (by omega) ?_)
    | (refine anat ?_)
    | (refine szOk rfl ?_)
    | (refine dvOk rfl (by omega) ?_)
    | (refine nzOk (by decide) ?_)
    | (refine lgOk (by kernel_rfl) ?_)
    | (refine kpOk (by kernel_rfl) ?_)
    | fail)
  all_goals conv => whnf
  refine cwF_loop (fun m st => ∃ (i : Nat) (L : List Int), (m = D.length - i ∧ i ≤ D.length ∧ L.length = D.length ∧ L.take i = D.take i) ∧
    st = ⟨[.is 1 (D.map encB), .un, .un, .ls (9, 0) 1 0 D.length, iv i] ++ List.replicate 17 .un, mkOb [((9, 0), some (rowB L))]⟩) D.length (by kernel_rfl) ⟨0, List.replicate D.length 0, ⟨rfl, by omega, by simp, rfl⟩, by rw [rowB, List.map_replicate]; rfl⟩ ?_
  rintro m st ⟨i, L, ⟨rfl, i1, l1, l2⟩, rfl⟩
  repeat' ((conv => whnf); first
    | (refine bF_dec (fun _ => ?_) (fun _ => ?_) <;> try (exfalso; omega))
    | (refine bF_eq (fun _ => ?_) (fun _ => ?_) <;> try (exfalso; omega))
    | (refine bF_ne (fun _ => ?_) (fun _ => ?_) <;> try (exfalso; omega))
    | (refine a64 (by omega) ?_)
    | (refine ix_at rfl (by omega) ?_)
    | (refine ⟨⟨rfl, by omega, by omega⟩, ?_⟩)
    | (refine map_at (by omega) ?_)
    | (refine alen ?_)
    | (refine amin ?_)
    | (refine amax ?_)
    | (refine ⟨⟨rfl, rfl, by simp [V.ments]⟩, ?_⟩)
    | (refine map_at0 (by omega) ?_)
    | (refine set_at rfl ?_)
    | (refine map_atI (by omega) ?_)
    | (refine map_atI0 (by omega) ?_)
    | (refine set_atI rfl ?_)
    | (refine ⟨⟨by decide, rfl, by omega, by omega, by omega, by dsimp only; omega⟩, ?_⟩)
    | (refine arem (by omega) ?_)
    | (refine aquo (by omega) (by omega) ?_)
    | (refine au8 ?_)
    | (refine au64 (by omega) ?_)
    | (refine anat ?_)
    | (refine szOk rfl ?_)
    | (refine dvOk rfl (by omega) ?_)
    | (refine nzOk (by decide) ?_)
    | (refine lgOk (by kernel_rfl) ?_)
    | (refine kpOk (by kernel_rfl) ?_)
    | fail)
  all_goals conv => whnf
  · exact ⟨D.length - (i + 1), by omega, i + 1, L.set i (D.getD i default), ⟨rfl, by omega, by rw [List.length_set, l1], by rw [set_take (by omega), l2, take_succD (by omega)]⟩, rfl⟩
  · obtain rfl : i = D.length := by omega
    obtain rfl : L = D := by rwa [List.take_length, List.take_of_length_le (by omega)] at l2
    exact hK
theorem heldOpS.ac (n : Nat) (z : Int) (hz : 0 ≤ z ∧ z ≤ 1000000000) (hn : n ≤ 10000000) {B : List OpR} (hB : B = mkO z n) {K : V → List Obj → List Obj → Prop} (hK : K (iv (z + 11 * n)) [] []) : AC Try.prog 26 [.is 11 (B.map encOp), iv z] [] K := by
  have hl : B.length = n := by rw [hB, mkO_len]
  refine ac_body (ann [(2, [0, 1, 5], [])]) [((997, 0), true)] hm htt Try.func26 rfl (by kernel_rfl) rfl rfl ?_
  repeat' ((conv => whnf); first
    | (refine bF_dec (fun _ => ?_) (fun _ => ?_) <;> try (exfalso; omega))
    | (refine bF_eq (fun _ => ?_) (fun _ => ?_) <;> try (exfalso; omega))
    | (refine bF_ne (fun _ => ?_) (fun _ => ?_) <;> try (exfalso; omega))
    | (refine a64 (by omega) ?_)
    | (refine ix_at rfl (by omega) ?_)
    | (refine ⟨⟨rfl, by omega, by omega⟩, ?_⟩)
    | (refine map_at (by omega) ?_)
    | (refine alen ?_)
    | (refine amin ?_)
    | (refine amax ?_)
    | (refine ⟨⟨rfl, rfl, by simp [V.ments]⟩, ?_⟩)
    | (refine map_at0 (by omega) ?_)
    | (refine set_at rfl ?_)
    | (refine map_atI (by omega) ?_)
    | (refine map_atI0 (by omega) ?_)
    | (refine set_atI rfl ?_)
    | (refine ⟨⟨by decide, rfl, by omega, by omega, by omega, by dsimp only; omega⟩, ?_⟩)
    | (refine arem (by omega) ?_)
    | (refine aquo (by omega) (by omega) ?_)
    | (refine au8 ?_)
    | (refine au64 (by omega) ?_)
    | (refine anat ?_)
    | (refine szOk rfl ?_)
    | (refine dvOk rfl (by omega) ?_)
    | (refine nzOk (by decide) ?_)
    | (refine lgOk (by kernel_rfl) ?_)
    | (refine kpOk (by kernel_rfl) ?_)
    | fail)
  all_goals conv => whnf
  refine cwF_loop (fun m st => ∃ (i : Nat) (x : Int), (x = z + 11 * i ∧ m = n - i ∧ i ≤ n) ∧
    st = ⟨[.is 11 (B.map encOp), iv x, .un, .un, .un, iv i] ++ List.replicate 114 .un, mkOb []⟩) n (by kernel_rfl) ⟨0, z, ⟨by omega, rfl, by omega⟩, rfl⟩ ?_
  rintro m st ⟨i, x, ⟨hx, rfl, i1⟩, rfl⟩
  have hg : i < n → B.getD i default = mkOp (z + 11 * (i : Nat)) := fun h => by rw [hB, mkO_get h]
  repeat' ((conv => whnf); first
    | (refine bF_ne (fun h3 => absurd (by rw [hg (by omega)]; simp only [mkOp]; omega) h3) (fun _ => ?_))
    | (refine bF_dec (fun _ => ?_) (fun _ => ?_) <;> try (exfalso; omega))
    | (refine bF_eq (fun _ => ?_) (fun _ => ?_) <;> try (exfalso; omega))
    | (refine bF_ne (fun _ => ?_) (fun _ => ?_) <;> try (exfalso; omega))
    | (refine a64 (by omega) ?_)
    | (refine ix_at rfl (by omega) ?_)
    | (refine ⟨⟨rfl, by omega, by omega⟩, ?_⟩)
    | (refine map_at (by omega) ?_)
    | (refine alen ?_)
    | (refine amin ?_)
    | (refine amax ?_)
    | (refine ⟨⟨rfl, rfl, by simp [V.ments]⟩, ?_⟩)
    | (refine map_at0 (by omega) ?_)
    | (refine set_at rfl ?_)
    | (refine map_atI (by omega) ?_)
    | (refine map_atI0 (by omega) ?_)
    | (refine set_atI rfl ?_)
    | (refine ⟨⟨by decide, rfl, by omega, by omega, by omega, by dsimp only; omega⟩, ?_⟩)
    | (refine arem (by omega) ?_)
    | (refine aquo (by omega) (by omega) ?_)
    | (refine au8 ?_)
    | (refine au64 (by omega) ?_)
    | (refine anat ?_)
    | (refine szOk rfl ?_)
    | (refine dvOk rfl (by omega) ?_)
    | (refine nzOk (by decide) ?_)
    | (refine lgOk (by kernel_rfl) ?_)
    | (refine kpOk (by kernel_rfl) ?_)
    | fail)
  all_goals conv => whnf
  · exact ⟨n - (i + 1), by omega, i + 1, _, ⟨by omega, rfl, by omega⟩, rfl⟩
  · obtain rfl : i = n := by omega
    rw [hx]; exact hK
theorem heldO (n : Nat) (z : Int) (hz : 0 ≤ z ∧ z ≤ 1000000000) (hn : n ≤ 10000000) {B : List OpR} (hB : B = mkO z n) {K : V → List Obj → List Obj → Prop} (hK : K (iv (z + 11 * n)) [rowO B] []) : AC Try.prog 26 [.ls (0, 0) 11 0 n, iv z] [rowO B] K := by
  have hl : (B.map encOp).length = n := by rw [List.length_map, hB, mkO_len]
  have := AC.borrow (f := 26) (args := [.ls (0, 0) 11 0 (B.map encOp).length, iv z]) (objs := []) (n := 11) (es := B.map encOp) (.cons (.all rfl) (.cons (.same List.not_mem_nil) .nil)) (fun _ h => nomatch h)
    (heldOpS.ac n z hz hn hB (K := fun v o n => (v.noIs = true ∧ noIsO o = true ∧ noIsO n = true) ∧ K v (o ++ [rowO B]) n) ⟨⟨rfl, rfl, rfl⟩, hK⟩)
  rwa [hl] at this
end Go.Eng.T

namespace Go.Eng.T
open Go.Proofs Go.Eng Go.Eng.S
set_option maxRecDepth 100000
set_option maxHeartbeats 0

/-- A row of bytes, lent to a reading of an image. -/
theorem ImageReadS.y {D : List Int} {g : Int} {ops : List OpR} (h1 : ImOk g ops) (h2 : imB g ops = D) {K : V → List Obj → List Obj → Prop} (hK : K (.tup [iv g, .ls (1, 0) 11 0 ops.length, bv true]) [rowB D] [rowO ops]) : AC Try.prog 24 [.ls (0, 0) 1 0 D.length] [rowB D] K := by
  have hb : Bytes D := h2 ▸ img_bytes h1
  refine AC.row no_xs (ImageReadS.ac D hb (by rw [← h2, imB_len h1]; omega) (fun g' ops' k1 k2 => ?_) fun h => absurd h2 (h g ops h1))
  obtain ⟨rfl, rfl⟩ := img_unique h1 k1 (h2.trans k2.symm)
  exact ⟨⟨rfl, rfl, noIs_rowO _⟩, hK⟩
theorem ImageReadI.y {D : List Int} {g : Int} {ops : List OpR} (h1 : ImOk g ops) (h2 : imB g ops = D) {K : V → List Obj → List Obj → Prop} (hK : K (.tup [iv g, .ls (1, 0) 11 0 ops.length, bv true]) [rowB D] [rowO ops]) : AC Try.prog 14 [.ls (0, 0) 1 0 D.length] [rowB D] K := by
  have hb : Bytes D := h2 ▸ img_bytes h1
  refine AC.row no_xs (ImageReadI.ac D hb (by rw [← h2, imB_len h1]; omega) (fun g' ops' k1 k2 => ?_) fun h => absurd h2 (h g ops h1))
  obtain ⟨rfl, rfl⟩ := img_unique h1 k1 (h2.trans k2.symm)
  exact ⟨⟨rfl, rfl, noIs_rowO _⟩, hK⟩
theorem ImageReadS.n {D : List Int} (hb : Bytes D) (hD : D.length ≤ 10000000) (h : ∀ g ops, ImOk g ops → imB g ops ≠ D) {K : V → List Obj → List Obj → Prop} (hK : K (.tup [iv 0, nilS, bv false]) [rowB D] []) : AC Try.prog 24 [.ls (0, 0) 1 0 D.length] [rowB D] K :=
  AC.row no_xs (ImageReadS.ac D hb hD (fun g ops k1 k2 => absurd k2 (h g ops k1)) fun _ => ⟨⟨rfl, rfl, rfl⟩, hK⟩)
theorem ImageReadI.n {D : List Int} (hb : Bytes D) (hD : D.length ≤ 10000000) (h : ∀ g ops, ImOk g ops → imB g ops ≠ D) {K : V → List Obj → List Obj → Prop} (hK : K (.tup [iv 0, nilS, bv false]) [rowB D] []) : AC Try.prog 14 [.ls (0, 0) 1 0 D.length] [rowB D] K :=
  AC.row no_xs (ImageReadI.ac D hb hD (fun g ops k1 k2 => absurd k2 (h g ops k1)) fun _ => ⟨⟨rfl, rfl, rfl⟩, hK⟩)
theorem eqNilO {K : V → List Obj → List Obj → Prop} (hT : K (bv true) [] []) : AC Try.prog 20 [nilS, nilS] [] K :=
  AC.args (ys := [.is 11 (([] : List OpR).map encOp), .is 11 (([] : List OpR).map encOp)]) rfl (fun i y hi => ⟨nilS, by
    match i with
    | 0 => rfl
    | 1 => rfl
    | i + 2 => simp at hi, fun h => by
    match i with
    | 0 => cases hi; exact nil_is h
    | 1 => cases hi; exact nil_is h
    | i + 2 => simp at hi⟩) (eqOpS2 [] [] (by decide) (fun _ => hT) (fun h => absurd rfl h))
theorem markNilO (z : Int) {K : V → List Obj → List Obj → Prop} (hK : K (iv z) [] []) : AC Try.prog 21 [nilS, iv z] [] K := by
  refine ac_body (ann [(2, [0, 1, 5], [])]) [((998, 0), true)] hm htt Try.func21 rfl (by kernel_rfl) rfl rfl ?_
  conv => whnf
  refine ⟨by kernel_rfl, 1, ?_⟩
  conv => whnf
  exact hK
theorem heldNilO (z : Int) {K : V → List Obj → List Obj → Prop} (hK : K (iv z) [] []) : AC Try.prog 26 [nilS, iv z] [] K := by
  refine ac_body (ann [(2, [0, 1, 5], [])]) [((998, 0), true)] hm htt Try.func26 rfl (by kernel_rfl) rfl rfl ?_
  conv => whnf
  refine ⟨by kernel_rfl, 1, ?_⟩
  conv => whnf
  exact hK
theorem FnExactImageRead.ac (D : List Int) (hb : Bytes D) {K : V → List Obj → List Obj → Prop} (hK : K (bv true) [] []) : AC Try.prog 5 [.is 1 (D.map encB)] [] K := by
  refine ac_body (ann []) [((997, 0), true), ((23, 0), false), ((24, 0), false), ((29, 0), false), ((32, 0), false), ((52, 0), false), ((89, 0), false), ((90, 0), false)] hm htt Try.func5 rfl (by kernel_rfl) rfl rfl ?_
  by_cases hl : D.length ≤ 1048576
  rotate_left
  · repeat' ((conv => whnf); first
      | (refine bF_dec (fun _ => ?_) (fun _ => ?_) <;> try (exfalso; omega))
      | (refine bF_eq (fun _ => ?_) (fun _ => ?_) <;> try (exfalso; omega))
      | (refine bF_ne (fun _ => ?_) (fun _ => ?_) <;> try (exfalso; omega))
      | (refine a64 (by omega) ?_)
      | (refine ix_at rfl (by omega) ?_)
      | (refine ⟨⟨rfl, by omega, by omega⟩, ?_⟩)
      | (refine map_at (by omega) ?_)
      | (refine alen ?_)
      | (refine amin ?_)
      | (refine amax ?_)
      | (refine ⟨⟨rfl, rfl, by simp [V.ments]⟩, ?_⟩)
      | (refine map_at0 (by omega) ?_)
      | (refine set_at rfl ?_)
      | (refine map_atI (by omega) ?_)
      | (refine map_atI0 (by omega) ?_)
      | (refine set_atI rfl ?_)
      | (refine ⟨⟨by decide, rfl, by omega, by omega, by omega, by dsimp only; omega⟩, ?_⟩)
      | (refine arem (by omega) ?_)
      | (refine aquo (by omega) (by omega) ?_)
      | (refine au8 ?_)
      | (refine au64 (by omega) ?_)
      | (refine anat ?_)
      | (refine szOk rfl ?_)
      | (refine dvOk rfl (by omega) ?_)
      | (refine nzOk (by decide) ?_)
      | (refine lgOk (by kernel_rfl) ?_)
      | (refine kpOk (by kernel_rfl) ?_)
      | fail)
    all_goals conv => whnf
    exact hK
  by_cases hex : ∃ g ops, ImOk g ops ∧ imB g ops = D
  · obtain ⟨g, ops, h1, h2⟩ := hex
    have ho := h1.1.2
    repeat' ((conv => whnf); first
      | (refine toByteS.ac D (by omega) ?_)
      | (refine ImageReadS.y h1 h2 ?_)
      | (refine ImageReadI.y h1 h2 ?_)
      | (refine eqO2 ops ops (by omega) (fun _ => ?_) (fun h => absurd rfl h))
      | (refine eqB2 D D (by omega) (fun _ => ?_) (fun h => absurd rfl h))
      | (refine markR D 1 (by omega) (by omega) fun B _ => ?_)
      | (refine markO ops 1 (by omega) (by omega) fun M hM => ?_)
      | (refine heldO ops.length 1 (by omega) (by omega) ‹_› ?_)
      | (refine bF_ne (fun h => absurd rfl h) (fun _ => ?_))
      | (refine bF_dec (fun _ => ?_) (fun _ => ?_) <;> try (exfalso; omega))
      | (refine bF_eq (fun _ => ?_) (fun _ => ?_) <;> try (exfalso; omega))
      | (refine bF_ne (fun _ => ?_) (fun _ => ?_) <;> try (exfalso; omega))
      | (refine a64 (by omega) ?_)
      | (refine ix_at rfl (by omega) ?_)
      | (refine ⟨⟨rfl, by omega, by omega⟩, ?_⟩)
      | (refine map_at (by omega) ?_)
      | (refine alen ?_)
      | (refine amin ?_)
      | (refine amax ?_)
      | (refine ⟨⟨rfl, rfl, by simp [V.ments]⟩, ?_⟩)
      | (refine map_at0 (by omega) ?_)
      | (refine set_at rfl ?_)
      | (refine map_atI (by omega) ?_)
      | (refine map_atI0 (by omega) ?_)
      | (refine set_atI rfl ?_)
      | (refine ⟨⟨by decide, rfl, by omega, by omega, by omega, by dsimp only; omega⟩, ?_⟩)
      | (refine arem (by omega) ?_)
      | (refine aquo (by omega) (by omega) ?_)
      | (refine au8 ?_)
      | (refine au64 (by omega) ?_)
      | (refine anat ?_)
      | (refine szOk rfl ?_)
      | (refine dvOk rfl (by omega) ?_)
      | (refine nzOk (by decide) ?_)
      | (refine lgOk (by kernel_rfl) ?_)
      | (refine kpOk (by kernel_rfl) ?_)
      | fail)
    all_goals conv => whnf
    exact hK
  · have hno : ∀ g ops, ImOk g ops → imB g ops ≠ D := fun g ops h1 h2 => hex ⟨g, ops, h1, h2⟩
    repeat' ((conv => whnf); first
      | (refine toByteS.ac D (by omega) ?_)
      | (refine ImageReadS.n hb (by omega) hno ?_)
      | (refine ImageReadI.n hb (by omega) hno ?_)
      | (refine eqNilO ?_)
      | (refine eqB2 D D (by omega) (fun _ => ?_) (fun h => absurd rfl h))
      | (refine markR D 1 (by omega) (by omega) fun B _ => ?_)
      | (refine markNilO 1 ?_)
      | (refine heldNilO 1 ?_)
      | (refine bF_dec (fun _ => ?_) (fun _ => ?_) <;> try (exfalso; omega))
      | (refine bF_eq (fun _ => ?_) (fun _ => ?_) <;> try (exfalso; omega))
      | (refine bF_ne (fun _ => ?_) (fun _ => ?_) <;> try (exfalso; omega))
      | (refine a64 (by omega) ?_)
      | (refine ix_at rfl (by omega) ?_)
      | (refine ⟨⟨rfl, by omega, by omega⟩, ?_⟩)
      | (refine map_at (by omega) ?_)
      | (refine alen ?_)
      | (refine amin ?_)
      | (refine amax ?_)
      | (refine ⟨⟨rfl, rfl, by simp [V.ments]⟩, ?_⟩)
      | (refine map_at0 (by omega) ?_)
      | (refine set_at rfl ?_)
      | (refine map_atI (by omega) ?_)
      | (refine map_atI0 (by omega) ?_)
      | (refine set_atI rfl ?_)
      | (refine ⟨⟨by decide, rfl, by omega, by omega, by omega, by dsimp only; omega⟩, ?_⟩)
      | (refine arem (by omega) ?_)
      | (refine aquo (by omega) (by omega) ?_)
      | (refine au8 ?_)
      | (refine au64 (by omega) ?_)
      | (refine anat ?_)
      | (refine szOk rfl ?_)
      | (refine dvOk rfl (by omega) ?_)
      | (refine nzOk (by decide) ?_)
      | (refine lgOk (by kernel_rfl) ?_)
      | (refine kpOk (by kernel_rfl) ?_)
      | fail)
    all_goals conv => whnf
    exact hK
end Go.Eng.T

namespace Go.Eng.T
open Go.Proofs Go.Eng Go.Eng.S
set_option maxRecDepth 100000
set_option maxHeartbeats 0

/-- What is read off bytes as an image. -/
noncomputable def imgOf (D : List Int) : Option (Int × List OpR) := by
  classical exact if h : ∃ p : Int × List OpR, ImOk p.1 p.2 ∧ imB p.1 p.2 = D then some h.choose else none
theorem imgOf_some {D : List Int} {g : Int} {ops : List OpR} (h : imgOf D = some (g, ops)) : ImOk g ops ∧ imB g ops = D := by
  unfold imgOf at h
  split at h
  · rename_i hex
    have hc := hex.choose_spec
    rw [Option.some.inj h] at hc
    exact hc
  · cases h
theorem imgOf_none {D : List Int} (h : imgOf D = none) : ∀ g ops, ImOk g ops → imB g ops ≠ D := by
  unfold imgOf at h
  split at h
  · cases h
  · rename_i hex
    exact fun g ops h1 h2 => hex ⟨(g, ops), h1, h2⟩
theorem imgOf_of {D : List Int} {g : Int} {ops : List OpR} (h1 : ImOk g ops) (h2 : imB g ops = D) : imgOf D = some (g, ops) := by
  cases h : imgOf D with
  | none => exact absurd h2 (imgOf_none h g ops h1)
  | some p =>
    obtain ⟨k1, k2⟩ := imgOf_some h
    obtain ⟨rfl, rfl⟩ := img_unique h1 k1 (h2.trans k2.symm)
    rfl
theorem imageRead.y {D : List Int} {g : Int} {ops : List OpR} (h : imgOf D = some (g, ops)) {K : V → List Obj → List Obj → Prop} (hK : K (.tup [iv g, .ls (1, 0) 11 0 ops.length, bv true]) [] [rowO ops]) : AC Try.prog 54 [.is 1 (D.map encB)] [] K := by
  obtain ⟨h1, h2⟩ := imgOf_some h
  refine imageRead.ac D (h2 ▸ img_bytes h1) (by rw [← h2, imB_len h1]; omega) (fun g' ops' k1 k2 => ?_) fun h => absurd h2 (h g ops h1)
  obtain ⟨rfl, rfl⟩ := img_unique h1 k1 (h2.trans k2.symm)
  exact hK
theorem imageRead.n {D : List Int} (hb : Bytes D) (hD : D.length ≤ 10000000) (h : imgOf D = none) {K : V → List Obj → List Obj → Prop} (hK : K (.tup [iv 0, nilS, bv false]) [] []) : AC Try.prog 54 [.is 1 (D.map encB)] [] K :=
  imageRead.ac D hb hD (fun g ops k1 k2 => absurd k2 (imgOf_none h g ops k1)) fun _ => hK
theorem imageReadS.y {D : List Int} {g : Int} {ops : List OpR} (h : imgOf D = some (g, ops)) {K : V → List Obj → List Obj → Prop} (hK : K (.tup [iv g, .ls (1, 0) 11 0 ops.length, bv true]) [] [rowO ops]) : AC Try.prog 24 [.is 1 (D.map encB)] [] K := by
  obtain ⟨h1, h2⟩ := imgOf_some h
  refine ImageReadS.ac D (h2 ▸ img_bytes h1) (by rw [← h2, imB_len h1]; omega) (fun g' ops' k1 k2 => ?_) fun h => absurd h2 (h g ops h1)
  obtain ⟨rfl, rfl⟩ := img_unique h1 k1 (h2.trans k2.symm)
  exact hK
theorem imageReadS.n {D : List Int} (hb : Bytes D) (hD : D.length ≤ 10000000) (h : imgOf D = none) {K : V → List Obj → List Obj → Prop} (hK : K (.tup [iv 0, nilS, bv false]) [] []) : AC Try.prog 24 [.is 1 (D.map encB)] [] K :=
  ImageReadS.ac D hb hD (fun g ops k1 k2 => absurd k2 (imgOf_none h g ops k1)) fun _ => hK
/-- The better one of two images. -/
def better : Option (Int × List OpR) → Option (Int × List OpR) → Option (Bool × Int × List OpR)
  | some (g, a), some (h, b) => if h ≤ g then some (true, g, a) else some (false, h, b)
  | some (g, a), none => some (true, g, a)
  | none, some (h, b) => some (false, h, b)
  | none, none => none
noncomputable def bestOf (D E : List Int) : Option (Bool × Int × List OpR) := better (imgOf D) (imgOf E)
abbrev slV (D E : List Int) : V := .agg [.is 1 (D.map encB), .is 1 (E.map encB)]
theorem best.ac (D E : List Int) (hd : Bytes D) (he : Bytes E) (hD : D.length ≤ 10000000) (hE : E.length ≤ 10000000) {K : V → List Obj → List Obj → Prop} (hK1 : ∀ f g ops, bestOf D E = some (f, g, ops) → K (.tup [iv g, .ls (1, 0) 11 0 ops.length, bv true, bv f]) [] [rowO ops])
    (hK0 : bestOf D E = none → K (.tup [iv 0, nilS, bv false, bv false]) [] []) : AC Try.prog 62 [slV D E] [] K := by
  unfold bestOf at hK1 hK0
  refine ac_body (ann []) [((997, 0), true), ((3, 0), true), ((17, 0), false), ((24, 0), false)] hm htt Try.func62 rfl (by kernel_rfl) rfl rfl ?_
  rcases h1 : imgOf D with _ | ⟨g, a⟩ <;> rcases h2 : imgOf E with _ | ⟨h, b⟩ <;> rw [h1, h2] at hK1 hK0
  · repeat' ((conv => whnf); first
      | (refine imageRead.n hd hD h1 ?_)
      | (refine imageRead.n he hE h2 ?_)
      | (refine bF_dec (fun _ => ?_) (fun _ => ?_) <;> try (exfalso; omega))
      | (refine bF_eq (fun _ => ?_) (fun _ => ?_) <;> try (exfalso; omega))
      | (refine bF_ne (fun _ => ?_) (fun _ => ?_) <;> try (exfalso; omega))
      | (refine a64 (by omega) ?_)
      | (refine ix_at rfl (by omega) ?_)
      | (refine ⟨⟨rfl, by omega, by omega⟩, ?_⟩)
      | (refine map_at (by omega) ?_)
      | (refine alen ?_)
      | (refine amin ?_)
      | (refine amax ?_)
      | (refine ⟨⟨rfl, rfl, by simp [V.ments]⟩, ?_⟩)
      | (refine map_at0 (by omega) ?_)
      | (refine set_at rfl ?_)
      | (refine map_atI (by omega) ?_)
      | (refine map_atI0 (by omega) ?_)
      | (refine set_atI rfl ?_)
      | (refine ⟨⟨by decide, rfl, by omega, by omega, by omega, by dsimp only; omega⟩, ?_⟩)
      | (refine arem (by omega) ?_)
      | (refine aquo (by omega) (by omega) ?_)
      | (refine au8 ?_)
      | (refine au64 (by omega) ?_)
      | (refine anat ?_)
      | (refine szOk rfl ?_)
      | (refine dvOk rfl (by omega) ?_)
      | (refine nzOk (by decide) ?_)
      | (refine lgOk (by kernel_rfl) ?_)
      | (refine kpOk (by kernel_rfl) ?_)
      | fail)
    all_goals conv => whnf
    exact hK0 rfl
  · repeat' ((conv => whnf); first
      | (refine imageRead.n hd hD h1 ?_)
      | (refine imageRead.y h2 ?_)
      | (refine bF_dec (fun _ => ?_) (fun _ => ?_) <;> try (exfalso; omega))
      | (refine bF_eq (fun _ => ?_) (fun _ => ?_) <;> try (exfalso; omega))
      | (refine bF_ne (fun _ => ?_) (fun _ => ?_) <;> try (exfalso; omega))
      | (refine a64 (by omega) ?_)
      | (refine ix_at rfl (by omega) ?_)
      | (refine ⟨⟨rfl, by omega, by omega⟩, ?_⟩)
      | (refine map_at (by omega) ?_)
      | (refine alen ?_)
      | (refine amin ?_)
      | (refine amax ?_)
      | (refine ⟨⟨rfl, rfl, by simp [V.ments]⟩, ?_⟩)
      | (refine map_at0 (by omega) ?_)
      | (refine set_at rfl ?_)
      | (refine map_atI (by omega) ?_)
      | (refine map_atI0 (by omega) ?_)
      | (refine set_atI rfl ?_)
      | (refine ⟨⟨by decide, rfl, by omega, by omega, by omega, by dsimp only; omega⟩, ?_⟩)
      | (refine arem (by omega) ?_)
      | (refine aquo (by omega) (by omega) ?_)
      | (refine au8 ?_)
      | (refine au64 (by omega) ?_)
      | (refine anat ?_)
      | (refine szOk rfl ?_)
      | (refine dvOk rfl (by omega) ?_)
      | (refine nzOk (by decide) ?_)
      | (refine lgOk (by kernel_rfl) ?_)
      | (refine kpOk (by kernel_rfl) ?_)
      | fail)
    all_goals conv => whnf
    exact hK1 _ _ _ rfl
  · repeat' ((conv => whnf); first
      | (refine imageRead.y h1 ?_)
      | (refine imageRead.n he hE h2 ?_)
      | (refine bF_dec (fun _ => ?_) (fun _ => ?_) <;> try (exfalso; omega))
      | (refine bF_eq (fun _ => ?_) (fun _ => ?_) <;> try (exfalso; omega))
      | (refine bF_ne (fun _ => ?_) (fun _ => ?_) <;> try (exfalso; omega))
      | (refine a64 (by omega) ?_)
      | (refine ix_at rfl (by omega) ?_)
      | (refine ⟨⟨rfl, by omega, by omega⟩, ?_⟩)
      | (refine map_at (by omega) ?_)
      | (refine alen ?_)
      | (refine amin ?_)
      | (refine amax ?_)
      | (refine ⟨⟨rfl, rfl, by simp [V.ments]⟩, ?_⟩)
      | (refine map_at0 (by omega) ?_)
      | (refine set_at rfl ?_)
      | (refine map_atI (by omega) ?_)
      | (refine map_atI0 (by omega) ?_)
      | (refine set_atI rfl ?_)
      | (refine ⟨⟨by decide, rfl, by omega, by omega, by omega, by dsimp only; omega⟩, ?_⟩)
      | (refine arem (by omega) ?_)
      | (refine aquo (by omega) (by omega) ?_)
      | (refine au8 ?_)
      | (refine au64 (by omega) ?_)
      | (refine anat ?_)
      | (refine szOk rfl ?_)
      | (refine dvOk rfl (by omega) ?_)
      | (refine nzOk (by decide) ?_)
      | (refine lgOk (by kernel_rfl) ?_)
      | (refine kpOk (by kernel_rfl) ?_)
      | fail)
    all_goals conv => whnf
    exact hK1 _ _ _ rfl
  · repeat' ((conv => whnf); first
      | (refine imageRead.y h1 ?_)
      | (refine imageRead.y h2 ?_)
      | (refine bF_dec (fun _ => ?_) (fun _ => ?_) <;> try (exfalso; omega))
      | (refine bF_eq (fun _ => ?_) (fun _ => ?_) <;> try (exfalso; omega))
      | (refine bF_ne (fun _ => ?_) (fun _ => ?_) <;> try (exfalso; omega))
      | (refine a64 (by omega) ?_)
      | (refine ix_at rfl (by omega) ?_)
      | (refine ⟨⟨rfl, by omega, by omega⟩, ?_⟩)
      | (refine map_at (by omega) ?_)
      | (refine alen ?_)
      | (refine amin ?_)
      | (refine amax ?_)
      | (refine ⟨⟨rfl, rfl, by simp [V.ments]⟩, ?_⟩)
      | (refine map_at0 (by omega) ?_)
      | (refine set_at rfl ?_)
      | (refine map_atI (by omega) ?_)
      | (refine map_atI0 (by omega) ?_)
      | (refine set_atI rfl ?_)
      | (refine ⟨⟨by decide, rfl, by omega, by omega, by omega, by dsimp only; omega⟩, ?_⟩)
      | (refine arem (by omega) ?_)
      | (refine aquo (by omega) (by omega) ?_)
      | (refine au8 ?_)
      | (refine au64 (by omega) ?_)
      | (refine anat ?_)
      | (refine szOk rfl ?_)
      | (refine dvOk rfl (by omega) ?_)
      | (refine nzOk (by decide) ?_)
      | (refine lgOk (by kernel_rfl) ?_)
      | (refine kpOk (by kernel_rfl) ?_)
      | fail)
    all_goals conv => whnf
    all_goals refine hK1 _ _ _ ?_
    · exact if_pos ‹_›
    · exact if_neg ‹_›
theorem l16Best.ac (D E : List Int) (hd : Bytes D) (he : Bytes E) (hD : D.length ≤ 10000000) (hE : E.length ≤ 10000000) {K : V → List Obj → List Obj → Prop} (hK1 : ∀ f g ops, bestOf D E = some (f, g, ops) → K (.tup [iv (if f = true then 0 else 1), iv g, .ls (1, 0) 11 0 ops.length]) [] [rowO ops])
    (hK0 : bestOf D E = none → K (.tup [iv (-1), iv 0, nilS]) [] []) : AC Try.prog 60 [slV D E] [] K := by
  unfold bestOf at hK1 hK0
  refine ac_body (ann []) [((997, 0), true), ((3, 0), true), ((16, 0), false), ((23, 0), false)] hm htt Try.func60 rfl (by kernel_rfl) rfl rfl ?_
  rcases h1 : imgOf D with _ | ⟨g, a⟩ <;> rcases h2 : imgOf E with _ | ⟨h, b⟩ <;> rw [h1, h2] at hK1 hK0
  · repeat' ((conv => whnf); first
      | (refine imageReadS.n hd hD h1 ?_)
      | (refine imageReadS.n he hE h2 ?_)
      | (refine bF_dec (fun _ => ?_) (fun _ => ?_) <;> try (exfalso; omega))
      | (refine bF_eq (fun _ => ?_) (fun _ => ?_) <;> try (exfalso; omega))
      | (refine bF_ne (fun _ => ?_) (fun _ => ?_) <;> try (exfalso; omega))
      | (refine a64 (by omega) ?_)
      | (refine ix_at rfl (by omega) ?_)
      | (refine ⟨⟨rfl, by omega, by omega⟩, ?_⟩)
      | (refine map_at (by omega) ?_)
      | (refine alen ?_)
      | (refine amin ?_)
      | (refine amax ?_)
      | (refine ⟨⟨rfl, rfl, by simp [V.ments]⟩, ?_⟩)
      | (refine map_at0 (by omega) ?_)
      | (refine set_at rfl ?_)
      | (refine map_atI (by omega) ?_)
      | (refine map_atI0 (by omega) ?_)
      | (refine set_atI rfl ?_)
      | (refine ⟨⟨by decide, rfl, by omega, by omega, by omega, by dsimp only; omega⟩, ?_⟩)
      | (refine arem (by omega) ?_)
      | (refine aquo (by omega) (by omega) ?_)
      | (refine au8 ?_)
      | (refine au64 (by omega) ?_)
      | (refine anat ?_)
      | (refine szOk rfl ?_)
      | (refine dvOk rfl (by omega) ?_)
      | (refine nzOk (by decide) ?_)
      | (refine lgOk (by kernel_rfl) ?_)
      | (refine kpOk (by kernel_rfl) ?_)
      | fail)
    all_goals conv => whnf
    exact hK0 rfl
  · repeat' ((conv => whnf); first
      | (refine imageReadS.n hd hD h1 ?_)
      | (refine imageReadS.y h2 ?_)
      | (refine bF_dec (fun _ => ?_) (fun _ => ?_) <;> try (exfalso; omega))
      | (refine bF_eq (fun _ => ?_) (fun _ => ?_) <;> try (exfalso; omega))
      | (refine bF_ne (fun _ => ?_) (fun _ => ?_) <;> try (exfalso; omega))
      | (refine a64 (by omega) ?_)
      | (refine ix_at rfl (by omega) ?_)
      | (refine ⟨⟨rfl, by omega, by omega⟩, ?_⟩)
      | (refine map_at (by omega) ?_)
      | (refine alen ?_)
      | (refine amin ?_)
      | (refine amax ?_)
      | (refine ⟨⟨rfl, rfl, by simp [V.ments]⟩, ?_⟩)
      | (refine map_at0 (by omega) ?_)
      | (refine set_at rfl ?_)
      | (refine map_atI (by omega) ?_)
      | (refine map_atI0 (by omega) ?_)
      | (refine set_atI rfl ?_)
      | (refine ⟨⟨by decide, rfl, by omega, by omega, by omega, by dsimp only; omega⟩, ?_⟩)
      | (refine arem (by omega) ?_)
      | (refine aquo (by omega) (by omega) ?_)
      | (refine au8 ?_)
      | (refine au64 (by omega) ?_)
      | (refine anat ?_)
      | (refine szOk rfl ?_)
      | (refine dvOk rfl (by omega) ?_)
      | (refine nzOk (by decide) ?_)
      | (refine lgOk (by kernel_rfl) ?_)
      | (refine kpOk (by kernel_rfl) ?_)
      | fail)
    all_goals conv => whnf
    exact hK1 _ _ _ rfl
  · repeat' ((conv => whnf); first
      | (refine imageReadS.y h1 ?_)
      | (refine imageReadS.n he hE h2 ?_)
      | (refine bF_dec (fun _ => ?_) (fun _ => ?_) <;> try (exfalso; omega))
      | (refine bF_eq (fun _ => ?_) (fun _ => ?_) <;> try (exfalso; omega))
      | (refine bF_ne (fun _ => ?_) (fun _ => ?_) <;> try (exfalso; omega))
      | (refine a64 (by omega) ?_)
      | (refine ix_at rfl (by omega) ?_)
      | (refine ⟨⟨rfl, by omega, by omega⟩, ?_⟩)
      | (refine map_at (by omega) ?_)
      | (refine alen ?_)
      | (refine amin ?_)
      | (refine amax ?_)
      | (refine ⟨⟨rfl, rfl, by simp [V.ments]⟩, ?_⟩)
      | (refine map_at0 (by omega) ?_)
      | (refine set_at rfl ?_)
      | (refine map_atI (by omega) ?_)
      | (refine map_atI0 (by omega) ?_)
      | (refine set_atI rfl ?_)
      | (refine ⟨⟨by decide, rfl, by omega, by omega, by omega, by dsimp only; omega⟩, ?_⟩)
      | (refine arem (by omega) ?_)
      | (refine aquo (by omega) (by omega) ?_)
      | (refine au8 ?_)
      | (refine au64 (by omega) ?_)
      | (refine anat ?_)
      | (refine szOk rfl ?_)
      | (refine dvOk rfl (by omega) ?_)
      | (refine nzOk (by decide) ?_)
      | (refine lgOk (by kernel_rfl) ?_)
      | (refine kpOk (by kernel_rfl) ?_)
      | fail)
    all_goals conv => whnf
    exact hK1 _ _ _ rfl
  · repeat' ((conv => whnf); first
      | (refine imageReadS.y h1 ?_)
      | (refine imageReadS.y h2 ?_)
      | (refine bF_dec (fun _ => ?_) (fun _ => ?_) <;> try (exfalso; omega))
      | (refine bF_eq (fun _ => ?_) (fun _ => ?_) <;> try (exfalso; omega))
      | (refine bF_ne (fun _ => ?_) (fun _ => ?_) <;> try (exfalso; omega))
      | (refine a64 (by omega) ?_)
      | (refine ix_at rfl (by omega) ?_)
      | (refine ⟨⟨rfl, by omega, by omega⟩, ?_⟩)
      | (refine map_at (by omega) ?_)
      | (refine alen ?_)
      | (refine amin ?_)
      | (refine amax ?_)
      | (refine ⟨⟨rfl, rfl, by simp [V.ments]⟩, ?_⟩)
      | (refine map_at0 (by omega) ?_)
      | (refine set_at rfl ?_)
      | (refine map_atI (by omega) ?_)
      | (refine map_atI0 (by omega) ?_)
      | (refine set_atI rfl ?_)
      | (refine ⟨⟨by decide, rfl, by omega, by omega, by omega, by dsimp only; omega⟩, ?_⟩)
      | (refine arem (by omega) ?_)
      | (refine aquo (by omega) (by omega) ?_)
      | (refine au8 ?_)
      | (refine au64 (by omega) ?_)
      | (refine anat ?_)
      | (refine szOk rfl ?_)
      | (refine dvOk rfl (by omega) ?_)
      | (refine nzOk (by decide) ?_)
      | (refine lgOk (by kernel_rfl) ?_)
      | (refine kpOk (by kernel_rfl) ?_)
      | fail)
    all_goals conv => whnf
    · exact hK1 true _ _ (if_pos ‹_›)
    · exact hK1 false _ _ (if_neg ‹_›)
theorem areSlots2 (D E : List Int) : Two 61 [slV D E] (D.length = 7000 ∧ E.length = 7000) := fun hT hF => by
  refine ac_body (ann []) [((997, 0), true), ((3, 0), true)] hm htt Try.func61 rfl (by kernel_rfl) rfl rfl ?_
  repeat' ((conv => whnf); first
    | (refine bF_dec (fun _ => ?_) (fun _ => ?_) <;> try (exfalso; omega))
    | (refine bF_eq (fun _ => ?_) (fun _ => ?_) <;> try (exfalso; omega))
    | (refine bF_ne (fun _ => ?_) (fun _ => ?_) <;> try (exfalso; omega))
    | (refine a64 (by omega) ?_)
    | (refine ix_at rfl (by omega) ?_)
    | (refine ⟨⟨rfl, by omega, by omega⟩, ?_⟩)
    | (refine map_at (by omega) ?_)
    | (refine alen ?_)
    | (refine amin ?_)
    | (refine amax ?_)
    | (refine ⟨⟨rfl, rfl, by simp [V.ments]⟩, ?_⟩)
    | (refine map_at0 (by omega) ?_)
    | (refine set_at rfl ?_)
    | (refine map_atI (by omega) ?_)
    | (refine map_atI0 (by omega) ?_)
    | (refine set_atI rfl ?_)
    | (refine ⟨⟨by decide, rfl, by omega, by omega, by omega, by dsimp only; omega⟩, ?_⟩)
    | (refine arem (by omega) ?_)
    | (refine aquo (by omega) (by omega) ?_)
    | (refine au8 ?_)
    | (refine au64 (by omega) ?_)
    | (refine anat ?_)
    | (refine szOk rfl ?_)
    | (refine dvOk rfl (by omega) ?_)
    | (refine nzOk (by decide) ?_)
    | (refine lgOk (by kernel_rfl) ?_)
    | (refine kpOk (by kernel_rfl) ?_)
    | fail)
  all_goals conv => whnf
  · exact hT (by omega)
  · exact hF (by omega)
  · exact hF (by omega)
theorem SlotsOkS2 (D E : List Int) : Two 39 [slV D E] (D.length = 7000 ∧ E.length = 7000) := fun hT hF => by
  refine ac_body (ann []) [((997, 0), true), ((3, 0), true)] hm htt Try.func39 rfl (by kernel_rfl) rfl rfl ?_
  repeat' ((conv => whnf); first
    | (refine bF_dec (fun _ => ?_) (fun _ => ?_) <;> try (exfalso; omega))
    | (refine bF_eq (fun _ => ?_) (fun _ => ?_) <;> try (exfalso; omega))
    | (refine bF_ne (fun _ => ?_) (fun _ => ?_) <;> try (exfalso; omega))
    | (refine a64 (by omega) ?_)
    | (refine ix_at rfl (by omega) ?_)
    | (refine ⟨⟨rfl, by omega, by omega⟩, ?_⟩)
    | (refine map_at (by omega) ?_)
    | (refine alen ?_)
    | (refine amin ?_)
    | (refine amax ?_)
    | (refine ⟨⟨rfl, rfl, by simp [V.ments]⟩, ?_⟩)
    | (refine map_at0 (by omega) ?_)
    | (refine set_at rfl ?_)
    | (refine map_atI (by omega) ?_)
    | (refine map_atI0 (by omega) ?_)
    | (refine set_atI rfl ?_)
    | (refine ⟨⟨by decide, rfl, by omega, by omega, by omega, by dsimp only; omega⟩, ?_⟩)
    | (refine arem (by omega) ?_)
    | (refine aquo (by omega) (by omega) ?_)
    | (refine au8 ?_)
    | (refine au64 (by omega) ?_)
    | (refine anat ?_)
    | (refine szOk rfl ?_)
    | (refine dvOk rfl (by omega) ?_)
    | (refine nzOk (by decide) ?_)
    | (refine lgOk (by kernel_rfl) ?_)
    | (refine kpOk (by kernel_rfl) ?_)
    | fail)
  all_goals conv => whnf
  · exact hT (by omega)
  · exact hF (by omega)
  · exact hF (by omega)
theorem SlotsOkI2 (D E : List Int) : Two 40 [slV D E] (D.length = 7000 ∧ E.length = 7000) := fun hT hF => by
  refine ac_body (ann []) [((997, 0), true), ((3, 0), true)] hm htt Try.func40 rfl (by kernel_rfl) rfl rfl ?_
  repeat' ((conv => whnf); first
    | (refine areSlots2 D E (fun h => ?_) (fun h => ?_))
    | (refine bF_dec (fun _ => ?_) (fun _ => ?_) <;> try (exfalso; omega))
    | (refine bF_eq (fun _ => ?_) (fun _ => ?_) <;> try (exfalso; omega))
    | (refine bF_ne (fun _ => ?_) (fun _ => ?_) <;> try (exfalso; omega))
    | (refine a64 (by omega) ?_)
    | (refine ix_at rfl (by omega) ?_)
    | (refine ⟨⟨rfl, by omega, by omega⟩, ?_⟩)
    | (refine map_at (by omega) ?_)
    | (refine alen ?_)
    | (refine amin ?_)
    | (refine amax ?_)
    | (refine ⟨⟨rfl, rfl, by simp [V.ments]⟩, ?_⟩)
    | (refine map_at0 (by omega) ?_)
    | (refine set_at rfl ?_)
    | (refine map_atI (by omega) ?_)
    | (refine map_atI0 (by omega) ?_)
    | (refine set_atI rfl ?_)
    | (refine ⟨⟨by decide, rfl, by omega, by omega, by omega, by dsimp only; omega⟩, ?_⟩)
    | (refine arem (by omega) ?_)
    | (refine aquo (by omega) (by omega) ?_)
    | (refine au8 ?_)
    | (refine au64 (by omega) ?_)
    | (refine anat ?_)
    | (refine szOk rfl ?_)
    | (refine dvOk rfl (by omega) ?_)
    | (refine nzOk (by decide) ?_)
    | (refine lgOk (by kernel_rfl) ?_)
    | (refine kpOk (by kernel_rfl) ?_)
    | fail)
  all_goals conv => whnf
  · exact hT h
  · exact hF h
/-- What the slots say. -/
noncomputable def slotsOf (D E : List Int) : Option (Bool × Int × List OpR) := if D.length = 7000 ∧ E.length = 7000 then bestOf D E else none
theorem SlotsBestI.ac (D E : List Int) (hd : Bytes D) (he : Bytes E) {K : V → List Obj → List Obj → Prop} (hK1 : ∀ f g ops, slotsOf D E = some (f, g, ops) → K (.tup [iv g, .ls (1, 0) 11 0 ops.length, bv true]) [] [rowO ops])
    (hK0 : slotsOf D E = none → K (.tup [iv 0, nilS, bv false]) [] []) : AC Try.prog 30 [slV D E] [] K := by
  refine ac_body (ann []) [((997, 0), true), ((3, 0), true), ((16, 0), false)] hm htt Try.func30 rfl (by kernel_rfl) rfl rfl ?_
  repeat' ((conv => whnf); first
    | (refine areSlots2 D E (fun h => ?_) (fun h => ?_))
    | (refine best.ac D E hd he (by omega) (by omega) (fun f g ops h1 => ?_) (fun h1 => ?_))
    | (refine bF_dec (fun _ => ?_) (fun _ => ?_) <;> try (exfalso; omega))
    | (refine bF_eq (fun _ => ?_) (fun _ => ?_) <;> try (exfalso; omega))
    | (refine bF_ne (fun _ => ?_) (fun _ => ?_) <;> try (exfalso; omega))
    | (refine a64 (by omega) ?_)
    | (refine ix_at rfl (by omega) ?_)
    | (refine ⟨⟨rfl, by omega, by omega⟩, ?_⟩)
    | (refine map_at (by omega) ?_)
    | (refine alen ?_)
    | (refine amin ?_)
    | (refine amax ?_)
    | (refine ⟨⟨rfl, rfl, by simp [V.ments]⟩, ?_⟩)
    | (refine map_at0 (by omega) ?_)
    | (refine set_at rfl ?_)
    | (refine map_atI (by omega) ?_)
    | (refine map_atI0 (by omega) ?_)
    | (refine set_atI rfl ?_)
    | (refine ⟨⟨by decide, rfl, by omega, by omega, by omega, by dsimp only; omega⟩, ?_⟩)
    | (refine arem (by omega) ?_)
    | (refine aquo (by omega) (by omega) ?_)
    | (refine au8 ?_)
    | (refine au64 (by omega) ?_)
    | (refine anat ?_)
    | (refine szOk rfl ?_)
    | (refine dvOk rfl (by omega) ?_)
    | (refine nzOk (by decide) ?_)
    | (refine lgOk (by kernel_rfl) ?_)
    | (refine kpOk (by kernel_rfl) ?_)
    | fail)
  all_goals conv => whnf
  · exact hK1 f g ops ((if_pos h).trans h1)
  · exact hK0 ((if_pos h).trans h1)
  · exact hK0 (if_neg h)
theorem SlotsBestS.ac (D E : List Int) (hd : Bytes D) (he : Bytes E) {K : V → List Obj → List Obj → Prop} (hK1 : ∀ f g ops, slotsOf D E = some (f, g, ops) → K (.tup [iv g, .ls (1, 0) 11 0 ops.length, bv true]) [] [rowO ops])
    (hK0 : slotsOf D E = none → K (.tup [iv 0, nilS, bv false]) [] []) : AC Try.prog 28 [slV D E] [] K := by
  refine ac_body (ann []) [((997, 0), true), ((3, 0), true), ((15, 0), false)] hm htt Try.func28 rfl (by kernel_rfl) rfl rfl ?_
  repeat' ((conv => whnf); first
    | (refine SlotsOkS2 D E (fun h => ?_) (fun h => ?_))
    | (refine l16Best.ac D E hd he (by omega) (by omega) (fun f g ops h1 => ?_) (fun h1 => ?_))
    | (refine bF_dec (fun _ => ?_) (fun _ => ?_) <;> try (exfalso; omega))
    | (refine bF_eq (fun _ => ?_) (fun _ => ?_) <;> try (exfalso; omega))
    | (refine bF_ne (fun _ => ?_) (fun _ => ?_) <;> try (exfalso; omega))
    | (refine a64 (by omega) ?_)
    | (refine ix_at rfl (by omega) ?_)
    | (refine ⟨⟨rfl, by omega, by omega⟩, ?_⟩)
    | (refine map_at (by omega) ?_)
    | (refine alen ?_)
    | (refine amin ?_)
    | (refine amax ?_)
    | (refine ⟨⟨rfl, rfl, by simp [V.ments]⟩, ?_⟩)
    | (refine map_at0 (by omega) ?_)
    | (refine set_at rfl ?_)
    | (refine map_atI (by omega) ?_)
    | (refine map_atI0 (by omega) ?_)
    | (refine set_atI rfl ?_)
    | (refine ⟨⟨by decide, rfl, by omega, by omega, by omega, by dsimp only; omega⟩, ?_⟩)
    | (refine arem (by omega) ?_)
    | (refine aquo (by omega) (by omega) ?_)
    | (refine au8 ?_)
    | (refine au64 (by omega) ?_)
    | (refine anat ?_)
    | (refine szOk rfl ?_)
    | (refine dvOk rfl (by omega) ?_)
    | (refine nzOk (by decide) ?_)
    | (refine lgOk (by kernel_rfl) ?_)
    | (refine kpOk (by kernel_rfl) ?_)
    | fail)
  all_goals conv => whnf
  · exact hK1 f g ops ((if_pos h).trans h1)
  · exact hK0 ((if_pos h).trans h1)
  · exact hK0 (if_neg h)
end Go.Eng.T

namespace Go.Eng.T
open Go.Proofs Go.Eng Go.Eng.S
set_option maxRecDepth 100000
set_option maxHeartbeats 0

theorem szByteS.ac (D : List Int) (l : Int) (h0 : 0 ≤ l ∧ l ≤ 1048576) (hD : D.length ≤ 9223372036854775807) {K : V → List Obj → List Obj → Prop} (hK1 : (D.length : Int) ≤ l → K (iv (l - D.length)) [] []) (hK0 : ¬ (D.length : Int) ≤ l → K (iv (-1)) [] []) : AC Try.prog 59 [.is 1 (D.map encB), iv l] [] K := by
  refine ac_body (ann []) [((997, 0), true)] hm htt Try.func59 rfl (by kernel_rfl) rfl rfl ?_
  repeat' ((conv => whnf); first
    | (refine bF_dec (fun _ => ?_) (fun _ => ?_) <;> try (exfalso; omega))
    | (refine bF_eq (fun _ => ?_) (fun _ => ?_) <;> try (exfalso; omega))
    | (refine bF_ne (fun _ => ?_) (fun _ => ?_) <;> try (exfalso; omega))
    | (refine a64 (by omega) ?_)
    | (refine ix_at rfl (by omega) ?_)
    | (refine ⟨⟨rfl, by omega, by omega⟩, ?_⟩)
    | (refine map_at (by omega) ?_)
    | (refine alen ?_)
    | (refine amin ?_)
    | (refine amax ?_)
    | (refine ⟨⟨rfl, rfl, by simp [V.ments]⟩, ?_⟩)
    | (refine map_at0 (by omega) ?_)
    | (refine set_at rfl ?_)
    | (refine map_atI (by omega) ?_)
    | (refine map_atI0 (by omega) ?_)
    | (refine set_atI rfl ?_)
    | (refine ⟨⟨by decide, rfl, by omega, by omega, by omega, by dsimp only; omega⟩, ?_⟩)
    | (refine arem (by omega) ?_)
    | (refine aquo (by omega) (by omega) ?_)
    | (refine au8 ?_)
    | (refine au64 (by omega) ?_)
    | (refine anat ?_)
    | (refine szOk rfl ?_)
    | (refine dvOk rfl (by omega) ?_)
    | (refine nzOk (by decide) ?_)
    | (refine lgOk (by kernel_rfl) ?_)
    | (refine kpOk (by kernel_rfl) ?_)
    | fail)
  all_goals conv => whnf
  · exact hK0 (by omega)
  · exact hK1 (by omega)
theorem szSlots.ac (D E : List Int) (hD : D.length ≤ 9223372036854775807) (hE : E.length ≤ 9223372036854775807) {K : V → List Obj → List Obj → Prop} (hK1 : (D.length : Int) + E.length ≤ 1048576 → K (iv (1048576 - D.length - E.length)) [] []) (hK0 : ¬ (D.length : Int) + E.length ≤ 1048576 → K (iv (-1)) [] []) : AC Try.prog 27 [slV D E, iv 1048576] [] K := by
  refine ac_body (ann []) [((997, 0), true), ((4, 0), true)] hm htt Try.func27 rfl (by kernel_rfl) rfl rfl ?_
  repeat' ((conv => whnf); first
    | (refine szByteS.ac D _ (by omega) hD (fun _ => ?_) (fun _ => ?_))
    | (refine szByteS.ac E _ (by omega) hE (fun _ => ?_) (fun _ => ?_))
    | (refine bF_dec (fun _ => ?_) (fun _ => ?_) <;> try (exfalso; omega))
    | (refine bF_eq (fun _ => ?_) (fun _ => ?_) <;> try (exfalso; omega))
    | (refine bF_ne (fun _ => ?_) (fun _ => ?_) <;> try (exfalso; omega))
    | (refine a64 (by omega) ?_)
    | (refine ix_at rfl (by omega) ?_)
    | (refine ⟨⟨rfl, by omega, by omega⟩, ?_⟩)
    | (refine map_at (by omega) ?_)
    | (refine alen ?_)
    | (refine amin ?_)
    | (refine amax ?_)
    | (refine ⟨⟨rfl, rfl, by simp [V.ments]⟩, ?_⟩)
    | (refine map_at0 (by omega) ?_)
    | (refine set_at rfl ?_)
    | (refine map_atI (by omega) ?_)
    | (refine map_atI0 (by omega) ?_)
    | (refine set_atI rfl ?_)
    | (refine ⟨⟨by decide, rfl, by omega, by omega, by omega, by dsimp only; omega⟩, ?_⟩)
    | (refine arem (by omega) ?_)
    | (refine aquo (by omega) (by omega) ?_)
    | (refine au8 ?_)
    | (refine au64 (by omega) ?_)
    | (refine anat ?_)
    | (refine szOk rfl ?_)
    | (refine dvOk rfl (by omega) ?_)
    | (refine nzOk (by decide) ?_)
    | (refine lgOk (by kernel_rfl) ?_)
    | (refine kpOk (by kernel_rfl) ?_)
    | fail)
  all_goals conv => whnf
  · exact hK1 (by omega)
  · exact hK0 (by omega)
  · exact hK0 (by omega)
abbrev slM (D E : List Int) (i j : Nat × Nat) : V := .agg [.ls i 1 0 D.length, .ls j 1 0 E.length]
theorem toSlots.ac (D E : List Int) (hD : D.length ≤ 10000000) (hE : E.length ≤ 10000000) {K : V → List Obj → List Obj → Prop} (hK : K (slM D E (1, 0) (1, 1)) [] [rowB D, rowB E]) : AC Try.prog 29 [slV D E] [] K := by
  refine ac_body (ann []) [((997, 0), true), ((3, 0), true), ((4, 0), true), ((5, 0), true), ((8, 0), false), ((12, 0), false)] hm htt Try.func29 rfl (by kernel_rfl) rfl rfl ?_
  repeat' ((conv => whnf); first
    | (refine toByteS.ac D hD ?_)
    | (refine toByteS.ac E hE ?_)
    | (refine bF_dec (fun _ => ?_) (fun _ => ?_) <;> try (exfalso; omega))
    | (refine bF_eq (fun _ => ?_) (fun _ => ?_) <;> try (exfalso; omega))
    | (refine bF_ne (fun _ => ?_) (fun _ => ?_) <;> try (exfalso; omega))
    | (refine a64 (by omega) ?_)
    | (refine ix_at rfl (by omega) ?_)
    | (refine ⟨⟨rfl, by omega, by omega⟩, ?_⟩)
    | (refine map_at (by omega) ?_)
    | (refine alen ?_)
    | (refine amin ?_)
    | (refine amax ?_)
    | (refine ⟨⟨rfl, rfl, by simp [V.ments]⟩, ?_⟩)
    | (refine map_at0 (by omega) ?_)
    | (refine set_at rfl ?_)
    | (refine map_atI (by omega) ?_)
    | (refine map_atI0 (by omega) ?_)
    | (refine set_atI rfl ?_)
    | (refine ⟨⟨by decide, rfl, by omega, by omega, by omega, by dsimp only; omega⟩, ?_⟩)
    | (refine arem (by omega) ?_)
    | (refine aquo (by omega) (by omega) ?_)
    | (refine au8 ?_)
    | (refine au64 (by omega) ?_)
    | (refine anat ?_)
    | (refine szOk rfl ?_)
    | (refine dvOk rfl (by omega) ?_)
    | (refine nzOk (by decide) ?_)
    | (refine lgOk (by kernel_rfl) ?_)
    | (refine kpOk (by kernel_rfl) ?_)
    | fail)
  all_goals conv => whnf
  exact hK
theorem eqSlots2 (a b c d : List Int) (ha : a.length ≤ 10000000) (hb : b.length ≤ 10000000) : Two 31 [slV a b, slV c d] (a = c ∧ b = d) := fun hT hF => by
  refine ac_body (ann []) [((997, 0), true), ((4, 0), true), ((5, 0), true)] hm htt Try.func31 rfl (by kernel_rfl) rfl rfl ?_
  repeat' ((conv => whnf); first
    | (refine eqByteS2 a c ha (fun _ => ?_) (fun _ => ?_))
    | (refine eqByteS2 b d hb (fun _ => ?_) (fun _ => ?_))
    | (refine bF_dec (fun _ => ?_) (fun _ => ?_) <;> try (exfalso; omega))
    | (refine bF_eq (fun _ => ?_) (fun _ => ?_) <;> try (exfalso; omega))
    | (refine bF_ne (fun _ => ?_) (fun _ => ?_) <;> try (exfalso; omega))
    | (refine a64 (by omega) ?_)
    | (refine ix_at rfl (by omega) ?_)
    | (refine ⟨⟨rfl, by omega, by omega⟩, ?_⟩)
    | (refine map_at (by omega) ?_)
    | (refine alen ?_)
    | (refine amin ?_)
    | (refine amax ?_)
    | (refine ⟨⟨rfl, rfl, by simp [V.ments]⟩, ?_⟩)
    | (refine map_at0 (by omega) ?_)
    | (refine set_at rfl ?_)
    | (refine map_atI (by omega) ?_)
    | (refine map_atI0 (by omega) ?_)
    | (refine set_atI rfl ?_)
    | (refine ⟨⟨by decide, rfl, by omega, by omega, by omega, by dsimp only; omega⟩, ?_⟩)
    | (refine arem (by omega) ?_)
    | (refine aquo (by omega) (by omega) ?_)
    | (refine au8 ?_)
    | (refine au64 (by omega) ?_)
    | (refine anat ?_)
    | (refine szOk rfl ?_)
    | (refine dvOk rfl (by omega) ?_)
    | (refine nzOk (by decide) ?_)
    | (refine lgOk (by kernel_rfl) ?_)
    | (refine kpOk (by kernel_rfl) ?_)
    | fail)
  all_goals conv => whnf
  · exact hT ⟨‹_›, ‹_›⟩
  · exact hF fun h => absurd h.2 ‹_›
  · exact hF fun h => absurd h.1 ‹_›
theorem markSlots.ac (a b : List Int) (ha : a.length ≤ 10000000) (hb : b.length ≤ 10000000) {K : V → List Obj → List Obj → Prop} (hK : ∀ A B, A = mkB 1 a.length → B = mkB (1 + a.length) b.length → K (iv (1 + a.length + b.length)) [rowB A, rowB B] []) : AC Try.prog 32 [slM a b (0, 0) (0, 1), iv 1] [rowB a, rowB b] K := by
  refine ac_body (ann []) [((997, 0), true), ((4, 0), true), ((0, 0), false), ((0, 1), false)] hm htt Try.func32 rfl (by kernel_rfl) rfl rfl ?_
  repeat' ((conv => whnf); first
    | (refine markR a 1 (by omega) (by omega) fun A hA => ?_)
    | (refine markR b _ (by omega) (by omega) fun B hB => ?_)
    | (refine bF_dec (fun _ => ?_) (fun _ => ?_) <;> try (exfalso; omega))
    | (refine bF_eq (fun _ => ?_) (fun _ => ?_) <;> try (exfalso; omega))
    | (refine bF_ne (fun _ => ?_) (fun _ => ?_) <;> try (exfalso; omega))
    | (refine a64 (by omega) ?_)
    | (refine ix_at rfl (by omega) ?_)
    | (refine ⟨⟨rfl, by omega, by omega⟩, ?_⟩)
    | (refine map_at (by omega) ?_)
    | (refine alen ?_)
    | (refine amin ?_)
    | (refine amax ?_)
    | (refine ⟨⟨rfl, rfl, by simp [V.ments]⟩, ?_⟩)
    | (refine map_at0 (by omega) ?_)
    | (refine set_at rfl ?_)
    | (refine map_atI (by omega) ?_)
    | (refine map_atI0 (by omega) ?_)
    | (refine set_atI rfl ?_)
    | (refine ⟨⟨by decide, rfl, by omega, by omega, by omega, by dsimp only; omega⟩, ?_⟩)
    | (refine arem (by omega) ?_)
    | (refine aquo (by omega) (by omega) ?_)
    | (refine au8 ?_)
    | (refine au64 (by omega) ?_)
    | (refine anat ?_)
    | (refine szOk rfl ?_)
    | (refine dvOk rfl (by omega) ?_)
    | (refine nzOk (by decide) ?_)
    | (refine lgOk (by kernel_rfl) ?_)
    | (refine kpOk (by kernel_rfl) ?_)
    | fail)
  all_goals conv => whnf
  exact hK _ _ ‹_› ‹_›
theorem heldSlots.ac (n m : Nat) {A B : List Int} (hA : A = mkB 1 n) (hB : B = mkB (1 + n) m) (hn : n ≤ 10000000) (hm' : m ≤ 10000000) {K : V → List Obj → List Obj → Prop} (hK : K (iv (1 + n + m)) [] []) : AC Try.prog 35 [slV A B, iv 1] [] K := by
  refine ac_body (ann []) [((997, 0), true), ((4, 0), true)] hm htt Try.func35 rfl (by kernel_rfl) rfl rfl ?_
  repeat' ((conv => whnf); first
    | (refine heldByteS.ac n 1 (by omega) (by omega) hA ?_)
    | (refine heldByteS.ac m _ (by omega) (by omega) hB ?_)
    | (refine bF_dec (fun _ => ?_) (fun _ => ?_) <;> try (exfalso; omega))
    | (refine bF_eq (fun _ => ?_) (fun _ => ?_) <;> try (exfalso; omega))
    | (refine bF_ne (fun _ => ?_) (fun _ => ?_) <;> try (exfalso; omega))
    | (refine a64 (by omega) ?_)
    | (refine ix_at rfl (by omega) ?_)
    | (refine ⟨⟨rfl, by omega, by omega⟩, ?_⟩)
    | (refine map_at (by omega) ?_)
    | (refine alen ?_)
    | (refine amin ?_)
    | (refine amax ?_)
    | (refine ⟨⟨rfl, rfl, by simp [V.ments]⟩, ?_⟩)
    | (refine map_at0 (by omega) ?_)
    | (refine set_at rfl ?_)
    | (refine map_atI (by omega) ?_)
    | (refine map_atI0 (by omega) ?_)
    | (refine set_atI rfl ?_)
    | (refine ⟨⟨by decide, rfl, by omega, by omega, by omega, by dsimp only; omega⟩, ?_⟩)
    | (refine arem (by omega) ?_)
    | (refine aquo (by omega) (by omega) ?_)
    | (refine au8 ?_)
    | (refine au64 (by omega) ?_)
    | (refine anat ?_)
    | (refine szOk rfl ?_)
    | (refine dvOk rfl (by omega) ?_)
    | (refine nzOk (by decide) ?_)
    | (refine lgOk (by kernel_rfl) ?_)
    | (refine kpOk (by kernel_rfl) ?_)
    | fail)
  all_goals conv => whnf
  exact hK
end Go.Eng.T
