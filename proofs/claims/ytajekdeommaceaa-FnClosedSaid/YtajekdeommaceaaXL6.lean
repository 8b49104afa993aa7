import Derived.Test.YtajekdeommaceaaXL5
import Derived.Test.YtajekdeommaceaaXEng26
namespace Go.Eng.T
open Go.Proofs Go.Eng
set_option maxRecDepth 100000
set_option maxHeartbeats 0
abbrev encE (e : Int × Int) : V := .agg [iv e.1, iv e.2]
abbrev rowO (r : List Bool) : Obj := .arr true 1 (r.map bv)
def firstFree (ob : Store) (s : Nat) : Nat → Nat → Nat
  | 0, i => i
  | n + 1, i => match ob (s, i) with
    | none => i
    | some _ => firstFree ob s n (i + 1)
def rowKs : List Key := (List.range 10).map fun i => (41, i)
def KS : List Key := (6, 0) :: (32, 0) :: (15, 0) :: (161, 1) :: rowKs
def annLatOf : Ann := { imm := fun _ => [], keep := keepL [(5, [0, 1, 4, 5, 6, 7], KS), (10, [0, 1, 4, 5, 6, 8], KS), (17, [0, 4, 5, 6, 10], KS), (20, [0, 4, 5, 6, 10, 11], KS), (23, [0, 4, 5, 6, 10, 11, 12], KS), (28, [0, 4, 5, 6, 13, 14], KS), (32, [0, 4, 5, 6, 13, 14, 15, 16], KS)], sw := fun n ob => bif Nat.beq n 5 then (match ob (41, 0) with | some _ => [((41, 0), (41, firstFree ob 41 10 1))] | none => []) else bif Nat.beq n 28 then (match ob (161, 0) with | some _ => [((161, 0), (161, 1))] | none => []) else [] }
def fkLatOf : List (Key × Bool) := [((6, 0), true), ((32, 0), true), ((15, 0), true), ((161, 1), true), ((11, 0), true), ((160, 0), true), ((999, 41), false)]

/-- One step, one row, one round of the closure. -/
def fwB (M : List (List Bool)) (k a b : Nat) : List (List Bool) :=
  M.set a ((M.getD a []).set b ((M.getD a []).getD b false || ((M.getD a []).getD k false && (M.getD k []).getD b false)))
def fwR (M : List (List Bool)) (k a b : Nat) : List (List Bool) := (List.range b).foldl (fun M b => fwB M k a b) M
def fwA (n : Nat) (M : List (List Bool)) (k a : Nat) : List (List Bool) := (List.range a).foldl (fun M a => fwR M k a n) M
def fwK (n : Nat) (M : List (List Bool)) (k : Nat) : List (List Bool) := (List.range k).foldl (fun M k => fwA n M k n) M
theorem fwR_zero {M : List (List Bool)} {k a : Nat} : fwR M k a 0 = M := rfl
theorem fwA_zero {n : Nat} {M : List (List Bool)} {k : Nat} : fwA n M k 0 = M := rfl
theorem fwK_zero {n : Nat} {M : List (List Bool)} : fwK n M 0 = M := rfl
theorem fwR_succ {M : List (List Bool)} {k a b : Nat} : fwR M k a (b + 1) = fwB (fwR M k a b) k a b := by simp [fwR, List.range_succ]
theorem fwA_succ {n : Nat} {M : List (List Bool)} {k a : Nat} : fwA n M k (a + 1) = fwR (fwA n M k a) k a n := by simp [fwA, List.range_succ]
theorem fwK_succ {n : Nat} {M : List (List Bool)} {k : Nat} : fwK n M (k + 1) = fwA n (fwK n M k) k n := by simp [fwK, List.range_succ]
theorem row_get {r : List Bool} {b : Nat} {x : Bool} (h : b < r.length) (hx : r.getD b false = x) : (r.map bv)[0 + (b : Int).toNat]? = some (bv x) := by
  rw [Int.toNat_natCast, Nat.zero_add, List.getElem?_map, List.getElem?_eq_getElem h, Option.map_some, ← hx, List.getD_eq_getElem?_getD, List.getElem?_eq_getElem h]; rfl
theorem row_set {r : List Bool} {b : Nat} {x : Bool} : (r.map bv).set (0 + (b : Int).toNat) (bv x) = (r.set b x).map bv := by
  rw [Int.toNat_natCast, Nat.zero_add, List.map_set]
theorem ask_row {r : List Bool} {b : Nat} {Q : V → Prop} (h : b < r.length) (hQ : ∀ x, r.getD b false = x → Q (bv x)) : ∃ e, (r.map bv)[0 + (b : Int).toNat]? = some e ∧ Q e :=
  ⟨_, row_get h rfl, hQ _ rfl⟩
def obindO (x : Option V) : Option (V × List (Key × Obj)) := x.map fun v => (v, [])
theorem ob_eq {α : Type} {x : Option α} {v : α} {K : α → Prop} (h : x = some v) (k : K v) : obind x K := by rw [h]; exact k

def latB (N : Nat) (up : List Int) : Bool :=
  decide (1 ≤ N) && (decide (N ≤ 16) && (decide (up.length = N) && (((List.range N).all fun (a : Nat) => bit (up.getD a default) a && (decide (up.getD a default < 2 ^ N) && (List.range N).all fun (b : Nat) =>
    !(decide (a ≠ b) && (bit (up.getD a default) b && bit (up.getD b default) a)) && (List.range N).all fun (c : Nat) => !(bit (up.getD a default) b && bit (up.getD b default) c) || bit (up.getD a default) c)) &&
  (List.range N).all fun (a : Nat) => (List.range a).all fun (b : Nat) => decide (0 ≤ bound N up a b true) && decide (0 ≤ bound N up a b false))))

theorem latB_P {N : Nat} {up : List Int} (h : latB N up = true) : LatP N up := by
  simp only [latB, Bool.and_eq_true, decide_eq_true_eq, List.all_eq_true, List.mem_range, Bool.or_eq_true, Bool.not_eq_true'] at h
  obtain ⟨h1, h2, h3, h4, h5⟩ := h
  refine ⟨by omega, by omega, by omega, fun a a0 a1 => ?_, fun a b b0 b1 a1 => ?_⟩
  · obtain ⟨x, rfl⟩ : ∃ x : Nat, a = x := ⟨a.toNat, by omega⟩
    obtain ⟨k1, k2, k3⟩ := h4 x (by omega)
    refine ⟨k1, k2, fun b b0 b1 => ?_⟩
    obtain ⟨y, rfl⟩ : ∃ y : Nat, b = y := ⟨b.toNat, by omega⟩
    obtain ⟨m1, m2⟩ := k3 y (by omega)
    refine ⟨fun ⟨w1, w2, w3⟩ => ?_, fun c c0 c1 w1 w2 => ?_⟩
    · rw [Int.toNat_natCast] at w2 w3
      have : decide (x ≠ y) = true := decide_eq_true (fun e => w1 (by rw [e]))
      rw [this, w2, w3] at m1; cases m1
    · obtain ⟨z, rfl⟩ : ∃ z : Nat, c = z := ⟨c.toNat, by omega⟩
      rcases m2 z (by omega) with m | m
      · rw [Int.toNat_natCast] at w1 w2
        rw [w1, w2] at m; cases m
      · exact m
  · obtain ⟨x, rfl⟩ : ∃ x : Nat, a = x := ⟨a.toNat, by omega⟩
    obtain ⟨y, rfl⟩ : ∃ y : Nat, b = y := ⟨b.toNat, by omega⟩
    exact h5 x (by omega) y (by omega)


/-- The number that a row's first bits make. -/
def wp (r : List Bool) (b : Nat) : Int := (List.range b).foldl (fun x i => if r.getD i false = true then x + 2 ^ i else x) 0
theorem wp_succ {r : List Bool} {b : Nat} : wp r (b + 1) = if r.getD b false = true then wp r b + 2 ^ b else wp r b := by simp [wp, List.range_succ]
theorem wp_le {r : List Bool} : ∀ {b : Nat}, 0 ≤ wp r b ∧ wp r b < 2 ^ b
  | 0 => ⟨by simp [wp], by simp [wp]⟩
  | b + 1 => by
    obtain ⟨h1, h2⟩ := wp_le (r := r) (b := b)
    have h3 : (0 : Int) < 2 ^ b := Int.pow_pos (by omega)
    rw [wp_succ, Int.pow_succ]
    split <;> omega
theorem wp_add {r : List Bool} {b : Nat} (h : b < 16) : 0 ≤ wp r b + 2 ^ (b : Int).toNat ∧ wp r b + 2 ^ (b : Int).toNat ≤ 18446744073709551615 := by
  obtain ⟨h1, h2⟩ := wp_le (r := r) (b := b)
  rw [Int.toNat_natCast]
  have h3 : (2 : Int) ^ b ≤ 2 ^ 16 := by
    have : (2 : Nat) ^ b ≤ 2 ^ 16 := Nat.pow_le_pow_right (by omega) (by omega)
    exact_mod_cast this
  omega
end Go.Eng.T
