import Derived.Test.YtenocjjbfkgflaaXSB
import Derived.Test.YtenocjjbfkgflaaXEB
namespace Go.Eng.T
open Go.Proofs Go.Eng Go.Eng.S
set_option maxRecDepth 100000
set_option maxHeartbeats 0

theorem mem_take {D l : List Int} (h : D.take (catB l).length = catB l) : (catB l).length ≤ D.length := pre_le h
/-- The reading of numbers: those read so far. -/
structure RdL (D : List Int) (l : List Int) : Prop where
  pre : D.take (catB l).length = catB l
  ints : ∀ x ∈ l, I64 x
theorem RdL.next {D l : List Int} {n : Int} (h : RdL D l) (hn : At D (catB l).length n) : RdL D (l ++ [n]) := by
  refine ⟨at_snoc h.pre hn, fun x hx => ?_⟩
  rcases List.mem_append.1 hx with h1 | h1
  · exact h.ints x h1
  · rw [List.mem_singleton.1 h1]; exact hn.1
theorem catB_snoc {l : List Int} {n : Int} : (catB (l ++ [n])).length = (catB l).length + (numB n).length := by rw [catB_app]; simp [catB]
/-- No operation, where the next number does not stand. -/
theorem RdL.none {D l : List Int} (h : RdL D l) (hl : l.length < 11) (hn : ∀ n, ¬ At D (catB l).length n) (o : OpR) (ho : o.ints) : opB o ≠ D := fun e => by
  have key : ∀ (k : Nat), k ≤ l.length → o.fs.take k = l.take k := by
    intro k
    induction k with
    | zero => intro _; simp
    | succ k ih =>
      intro hk
      have ih := ih (by omega)
      have hk1 : k < l.length := by omega
      have hk2 : k < o.fs.length := by show k < 11; omega
      rw [List.take_add_one, List.take_add_one, ih, List.getElem?_eq_getElem hk1, List.getElem?_eq_getElem hk2]
      congr 2
      have d1 : D = catB (l.take k) ++ numB o.fs[k] ++ catB (o.fs.drop (k + 1)) := by
        rw [← e, ← ih, List.append_assoc, ← show catB (o.fs[k] :: o.fs.drop (k + 1)) = numB o.fs[k] ++ catB (o.fs.drop (k + 1)) from rfl, ← catB_app, List.getElem_cons_drop, List.take_append_drop]; rfl
      have a1 := at_of (ho _ (List.getElem_mem hk2)) d1
      have d2 : D = catB (l.take k) ++ numB l[k] ++ (catB (l.drop (k + 1)) ++ D.drop (catB l).length) := by
        have : catB l = catB (l.take k) ++ (numB l[k] ++ catB (l.drop (k + 1))) := by
          rw [← show catB (l[k] :: l.drop (k + 1)) = numB l[k] ++ catB (l.drop (k + 1)) from rfl, ← catB_app, List.getElem_cons_drop, List.take_append_drop]
        conv => lhs; rw [← List.take_append_drop (catB l).length D, h.pre]
        rw [this]; simp only [List.append_assoc]
      have a2 := at_of (h.ints _ (List.getElem_mem hk1)) d2
      rw [at_unique a1 a2]
  have hk := key l.length (Nat.le_refl _)
  rw [List.take_length] at hk
  have h2 : l.length < o.fs.length := by show l.length < 11; omega
  have d1 : D = catB l ++ numB o.fs[l.length] ++ catB (o.fs.drop (l.length + 1)) := by
    rw [← e, List.append_assoc, ← show catB (o.fs[l.length] :: o.fs.drop (l.length + 1)) = numB o.fs[l.length] ++ catB (o.fs.drop (l.length + 1)) from rfl, List.getElem_cons_drop]
    conv => rhs; arg 1; rw [← hk]
    rw [← catB_app, List.take_append_drop]; rfl
  exact hn _ (at_of (ho _ (List.getElem_mem h2)) d1)

def opL (l : List Int) : OpR := ⟨l.getD 0 0, l.getD 1 0, l.getD 2 0, l.getD 3 0, l.getD 4 0, l.getD 5 0, l.getD 6 0, l.getD 7 0, l.getD 8 0, l.getD 9 0, l.getD 10 0⟩
theorem opL_fs {l : List Int} (h : l.length = 11) : (opL l).fs = l := by
  match l, h with
  | [a, b, c, d, e, f, g, h, i, j, k], _ => rfl
/-- All numbers are read. -/
theorem RdL.all {D l : List Int} (h : RdL D l) (hl : l.length = 11) : (∀ o : OpR, o.ints → (opB o = D ↔ (catB l).length = D.length ∧ o = opL l)) ∧ (opL l).ints := by
  have hi : (opL l).ints := by unfold OpR.ints; rw [opL_fs hl]; exact h.ints
  refine ⟨fun o ho => ⟨fun e => ?_, fun ⟨e, e2⟩ => ?_⟩, hi⟩
  · have hp := h.pre
    have : o = opL l := by
      have key : ∀ (k : Nat), k ≤ 11 → o.fs.take k = l.take k := by
        intro k
        induction k with
        | zero => intro _; simp
        | succ k ih =>
          intro hk
          have ih := ih (by omega)
          have hk1 : k < l.length := by omega
          have hk2 : k < o.fs.length := by show k < 11; omega
          rw [List.take_add_one, List.take_add_one, ih, List.getElem?_eq_getElem hk1, List.getElem?_eq_getElem hk2]
          congr 2
          have d1 : D = catB (l.take k) ++ numB o.fs[k] ++ catB (o.fs.drop (k + 1)) := by
            rw [← e, ← ih, List.append_assoc, ← show catB (o.fs[k] :: o.fs.drop (k + 1)) = numB o.fs[k] ++ catB (o.fs.drop (k + 1)) from rfl, ← catB_app, List.getElem_cons_drop, List.take_append_drop]; rfl
          have a1 := at_of (ho _ (List.getElem_mem hk2)) d1
          have d2 : D = catB (l.take k) ++ numB l[k] ++ (catB (l.drop (k + 1)) ++ D.drop (catB l).length) := by
            have : catB l = catB (l.take k) ++ (numB l[k] ++ catB (l.drop (k + 1))) := by
              rw [← show catB (l[k] :: l.drop (k + 1)) = numB l[k] ++ catB (l.drop (k + 1)) from rfl, ← catB_app, List.getElem_cons_drop, List.take_append_drop]
            conv => lhs; rw [← List.take_append_drop (catB l).length D, h.pre]
            rw [this]; simp only [List.append_assoc]
          have a2 := at_of (h.ints _ (List.getElem_mem hk1)) d2
          rw [at_unique a1 a2]
      have hk := key 11 (Nat.le_refl _)
      rw [List.take_of_length_le (by show o.fs.length ≤ 11; exact Nat.le_refl _), List.take_of_length_le (by omega)] at hk
      have h2 : o.fs = (opL l).fs := by rw [hk, opL_fs hl]
      cases o
      simp only [OpR.fs, opL, List.cons.injEq, and_true] at h2
      simp only [opL, OpR.mk.injEq]
      exact h2
    subst this
    refine ⟨?_, rfl⟩
    rw [← e]; unfold opB; rw [opL_fs hl]
  · rw [e2]
    unfold opB
    rw [opL_fs hl, ← h.pre, e, List.take_length]
end Go.Eng.T

namespace Go.Eng.T
open Go.Proofs Go.Eng Go.Eng.S
set_option maxRecDepth 100000
set_option maxHeartbeats 0

theorem opOf.ac (a b c d e f g h i j k : Int) {K : V → List Obj → List Obj → Prop} (hK : K (encOp ⟨a, b, c, d, e, f, g, h, i, j, k⟩) [] []) : AC Try.prog 119 [.is 1 ([a, b, c, d, e, f, g, h, i, j, k].map iv)] [] K := by
  refine ac_body (ann []) [((998, 0), true), ((4, 0), true)] hm htt Try.func119 rfl (by kernel_rfl) rfl rfl ?_
  conv => whnf
  iterate 11
    refine ⟨⟨rfl, by decide, by show (_ : Int) < 11; decide⟩, ?_⟩
    conv => whnf
    refine ⟨_, rfl, ?_⟩
    conv => whnf
  refine ⟨by kernel_rfl, ?_⟩
  conv => whnf
  exact hK
theorem list11 {l : List Int} (h : l.length = 11) : ∃ a b c d e f g h i j k, l = [a, b, c, d, e, f, g, h, i, j, k] := by
  match l, h with
  | [a, b, c, d, e, f, g, h, i, j, k], _ => exact ⟨a, b, c, d, e, f, g, h, i, j, k, rfl⟩
theorem app_i {l : List Int} {es' : List V} {x : Int} (h : es' = ((l.map iv).drop 0).take l.length ++ [iv x]) : es' = (l ++ [x]).map iv := by
  rw [h, List.drop_zero, List.take_of_length_le (by simp), List.map_append]; rfl

theorem opRead.ac (D : List Int) (hd : Bytes D) (hl : D.length ≤ 1000000) {K : V → List Obj → List Obj → Prop}
    (hK1 : ∀ o : OpR, o.good → opB o = D → K (.tup [encOp o, bv true]) [] []) (hK0 : (∀ o : OpR, o.good → opB o ≠ D) → K (.tup [encOp .zero, bv false]) [] []) : AC Try.prog 107 [.is 1 (D.map encB)] [] K := by
  have hml : (D.map encB).length = D.length := List.length_map ..
  refine ac_body (annW [(119, [0])] [(3, [0, 2, 4, 5, 11], [(4, 0), (28, 1)])] [(3, (28, 1), [28, 12])]) [((998, 0), true), ((4, 0), true), ((12, 0), true), ((27, 0), true), ((28, 0), false), ((28, 1), false), ((11, 0), true)] hm htt Try.func107 rfl (by kernel_rfl) rfl rfl ?_
  conv => whnf
  refine cwF_loop (fun m st => ∃ (z w : Int) (l : List Int), (z = l.length ∧ w = ((catB l).length : Nat) ∧ m = 11 - l.length ∧ l.length ≤ 11 ∧ RdL D l) ∧
    st = ⟨[.is 1 (D.map encB), .un, .lp (4, 0) 11 0 0, .un, .ls (28, 1) 1 0 l.length, iv w, .un, .un, .un, .un, .un, iv z] ++ List.replicate 30 .un, mkOb [((4, 0), some (.arr false 11 [encOp .zero])), ((28, 1), some (.arr true 1 (l.map iv)))]⟩) 11 (by kernel_rfl) ⟨_, _, [], ⟨rfl, rfl, rfl, by decide, ⟨by simp [catB], fun x hx => nomatch hx⟩⟩, rfl⟩ ?_
  rintro m st ⟨z, w, l, ⟨rfl, rfl, rfl, l11, hI⟩, rfl⟩
  have hle := mem_take hI.pre
  conv => whnf
  refine bF_dec (fun h2 => ?_) (fun h2 => ?_)
  · conv => whnf
    refine NumReadI.ac D _ hd (by omega) (by omega) (fun n _ hn => ?_) (fun hn => ?_)
    · have hn : At D (catB l).length n := hn
      conv => whnf
      refine ⟨⟨by decide, rfl, rfl, by rw [List.length_map]; omega, ⟨by show (_ + 1) * 8 ≤ _; omega, by show _ + 1 ≤ _; omega⟩, rfl, by simp [mentsOne]⟩, fun l' es' hl he => ?_⟩
      obtain rfl := app_i he
      obtain rfl : l' = (l ++ [n]).length := by rw [hl]; simp
      conv => whnf
      refine ⟨by kernel_rfl, 11 - (l.length + 1), by omega, _, _, l ++ [n], ⟨?_, ?_, by simp, by simp; omega, hI.next hn⟩, rfl⟩
      · rw [wrap_i64 (by omega)]; simp
      · rw [catB_snoc]; push_cast; rfl
    · have hn : ∀ n, ¬ At D (catB l).length n := hn (by omega)
      conv => whnf
      exact hK0 fun o ho => hI.none (by omega) hn o ho.2
  · have h11 : l.length = 11 := by omega
    obtain ⟨ha, hi⟩ := hI.all h11
    obtain ⟨a, b, c, d, e, f, g, h, i, j, k, rfl⟩ := list11 h11
    conv => whnf
    refine opOf.ac a b c d e f g h i j k ?_
    conv => whnf
    refine bF_ne (fun h3 => ?_) (fun h3 => ?_)
    · conv => whnf
      exact hK0 fun o ho e => h3 (by have := ((ha o ho.2).1 e).1; omega)
    · have h3 : ((catB [a, b, c, d, e, f, g, h, i, j, k]).length : Int) = ((D.map encB).length : Int) := h3
      conv => whnf
      refine isOp2 ⟨a, b, c, d, e, f, g, h, i, j, k⟩ (fun h4 => ?_) (fun h4 => ?_)
      · conv => whnf
        exact hK1 ⟨a, b, c, d, e, f, g, h, i, j, k⟩ ⟨h4, hi⟩ ((ha _ hi).2 ⟨by omega, rfl⟩)
      · conv => whnf
        exact hK0 fun o ho e => h4 (by
          have := ((ha o ho.2).1 e).2
          subst this
          exact ho.1)
end Go.Eng.T

namespace Go.Eng.T
open Go.Proofs Go.Eng Go.Eng.S
set_option maxRecDepth 100000
set_option maxHeartbeats 0

theorem OpReadS.ac (D : List Int) (hd : Bytes D) (hl : D.length ≤ 1000000) {K : V → List Obj → List Obj → Prop}
    (hK1 : ∀ o : OpR, o.good → opB o = D → K (.tup [encOp o, bv true]) [] []) (hK0 : (∀ o : OpR, o.good → opB o ≠ D) → K (.tup [encOp .zero, bv false]) [] []) : AC Try.prog 89 [.is 1 (D.map encB)] [] K := by
  have hml : (D.map encB).length = D.length := List.length_map ..
  refine ac_body (annW [] [(3, [0, 2, 4, 5], [(4, 0), (29, 1)])] [(3, (29, 1), [29, 12])]) [((998, 0), true), ((4, 0), true), ((12, 0), true), ((28, 0), true), ((29, 0), false), ((29, 1), false), ((11, 0), true)] hm htt Try.func89 rfl (by kernel_rfl) rfl rfl ?_
  conv => whnf
  refine cwF_loop (fun m st => ∃ (w : Int) (l : List Int), (w = ((catB l).length : Nat) ∧ m = 11 - l.length ∧ l.length ≤ 11 ∧ RdL D l) ∧
    st = ⟨[.is 1 (D.map encB), .un, .lp (4, 0) 11 0 0, .un, .ls (29, 1) 1 0 l.length, iv w] ++ List.replicate 70 .un, mkOb [((4, 0), some (.arr false 11 [encOp .zero])), ((29, 1), some (.arr true 1 (l.map iv)))]⟩) 11 (by kernel_rfl) ⟨_, [], ⟨rfl, rfl, by decide, ⟨by simp [catB], fun x hx => nomatch hx⟩⟩, rfl⟩ ?_
  rintro m st ⟨w, l, ⟨rfl, rfl, l11, hI⟩, rfl⟩
  have hle := mem_take hI.pre
  conv => whnf
  refine bF_dec (fun h2 => ?_) (fun h2 => ?_)
  · conv => whnf
    refine NumReadS.ac D _ hd (by omega) (by omega) (fun n _ hn => ?_) (fun hn => ?_)
    · have hn : At D (catB l).length n := hn
      conv => whnf
      refine ⟨⟨by decide, rfl, rfl, by rw [List.length_map]; omega, ⟨by show (_ + 1) * 8 ≤ _; omega, by show _ + 1 ≤ _; omega⟩, rfl, by simp [mentsOne]⟩, fun l' es' hl he => ?_⟩
      obtain rfl := app_i he
      obtain rfl : l' = (l ++ [n]).length := by rw [hl]; simp
      conv => whnf
      refine ⟨by kernel_rfl, 11 - (l.length + 1), by omega, _, l ++ [n], ⟨?_, by simp, by simp; omega, hI.next hn⟩, rfl⟩
      rw [catB_snoc]; push_cast; rfl
    · have hn : ∀ n, ¬ At D (catB l).length n := hn (by omega)
      conv => whnf
      exact hK0 fun o ho => hI.none (by omega) hn o ho.2
  · have h11 : l.length = 11 := by omega
    obtain ⟨ha, hi⟩ := hI.all h11
    obtain ⟨a, b, c, d, e, f, g, h, i, j, k, rfl⟩ := list11 h11
    conv => whnf
    iterate 11
      refine ⟨⟨rfl, by decide, by show (_ : Int) < 11; decide⟩, ?_⟩
      conv => whnf
      refine ⟨rfl, _, rfl, ?_⟩
      conv => whnf
    refine ⟨by kernel_rfl, ?_⟩
    conv => whnf
    refine bF_ne (fun h3 => ?_) (fun h3 => ?_)
    · conv => whnf
      exact hK0 fun o ho e => h3 (by have := ((ha o ho.2).1 e).1; omega)
    · have h3 : ((catB [a, b, c, d, e, f, g, h, i, j, k]).length : Int) = ((D.map encB).length : Int) := h3
      conv => whnf
      refine OpOkS2 ⟨a, b, c, d, e, f, g, h, i, j, k⟩ (fun h4 => ?_) (fun h4 => ?_)
      · conv => whnf
        exact hK1 ⟨a, b, c, d, e, f, g, h, i, j, k⟩ ⟨h4, hi⟩ ((ha _ hi).2 ⟨by omega, rfl⟩)
      · conv => whnf
        exact hK0 fun o ho e => h4 (by
          have := ((ha o ho.2).1 e).2
          subst this
          exact ho.1)
end Go.Eng.T

namespace Go.Eng.T
open Go.Proofs Go.Eng Go.Eng.S
set_option maxRecDepth 100000
set_option maxHeartbeats 0

theorem sum_step {d : List Int} {i : Nat} (h : i < d.length) : sumB (d.take (i + 1)) = sumB (d.take i) + d.getD i default := by
  rw [List.take_add_one, List.getElem?_eq_getElem h, List.getD_eq_getElem?_getD, List.getElem?_eq_getElem h]
  exact sumB_snoc
theorem take_bytes {d : List Int} (h : Bytes d) (i : Nat) : Bytes (d.take i) := fun x hx => h x (List.mem_of_mem_take hx)
theorem sum_le {d : List Int} (h : Bytes d) (hl : d.length ≤ 255) (i : Nat) : 0 ≤ sumB (d.take i) ∧ sumB (d.take i) ≤ 65025 := by
  have := sumB_range (take_bytes h i)
  have h2 : (d.take i).length ≤ d.length := by rw [List.length_take]; omega
  omega
theorem rec_row {d : List Int} {a b : Int} {es' es : List V} (h1 : es = ([yv a].drop 0).take 1 ++ d.map encB) (h : es' = (es.drop 0).take (1 + (d.map encB).length) ++ [yv b, yv (sumB d % 256)]) (ha : a = d.length) (hb : b = sumB d / 256 % 256) : es' = (recB d).map encB := by
  subst h1 ha hb
  rw [h]
  show (List.take (1 + (d.map encB).length) (yv _ :: d.map encB)) ++ _ = _
  rw [List.take_of_length_le (by simp; omega)]
  simp [recB]
  exact ⟨rfl, rfl, rfl⟩

theorem RecordOfS.ac (d : List Int) (hd : Bytes d) (hl : d.length ≤ 255) {K : V → List Obj → List Obj → Prop} (hK : K (.ls (1, 0) 1 0 (recB d).length) [] [rowB (recB d)]) : AC Try.prog 67 [.is 1 (d.map encB)] [] K := by
  have hml : (d.map encB).length = d.length := List.length_map ..
  refine ac_body (ann [(5, [0, 3, 4], [])]) [((998, 0), true), ((27, 0), false), ((29, 0), false), ((38, 0), true), ((39, 0), false)] hm htt Try.func67 rfl (by kernel_rfl) rfl rfl ?_
  conv => whnf
  refine bF_dec (fun h => by omega) (fun _ => ?_)
  conv => whnf
  refine cwF_loop (fun m st => ∃ (z s : Int) (i : Nat), (z = i ∧ m = d.length - i ∧ i ≤ d.length ∧ s = sumB (d.take i)) ∧
    st = ⟨[.is 1 (d.map encB), .un, .un, iv s, iv z] ++ List.replicate 33 .un, mkOb []⟩) d.length (by kernel_rfl) ⟨_, _, 0, ⟨rfl, rfl, by omega, rfl⟩, rfl⟩ ?_
  rintro m st ⟨z, s, i, ⟨rfl, rfl, i1, rfl⟩, rfl⟩
  have hs := sum_le hd hl i
  conv => whnf
  refine bF_dec (fun h2 => ?_) (fun h2 => ?_)
  · conv => whnf
    refine ⟨⟨rfl, by omega, by omega⟩, ?_⟩
    conv => whnf
    refine ⟨_, map_get (by omega), ?_⟩
    conv => whnf
    have hb := bytes_get hd (i := i) (by omega)
    have e1 : IntKind.i64.wrap (sumB (d.take i) + IntKind.i64.wrap (d.getD i default)) = sumB (d.take (i + 1)) := by
      rw [sum_step (by omega), wrap_i64 (x := d.getD i default) (by omega), wrap_i64 (by omega)]
    exact ⟨by kernel_rfl, d.length - (i + 1), by omega, _, _, i + 1, ⟨wrap_i64 (by omega), rfl, by omega, e1⟩, rfl⟩
  · rw [List.take_of_length_le (by omega)] at hs ⊢
    conv => whnf
    refine ⟨rfl, ?_⟩
    conv => whnf
    refine ⟨⟨by decide, rfl, rfl, by simp, ⟨by show (1 + (d.map encB).length) * 1 ≤ _; omega, by show 1 + (d.map encB).length ≤ _; omega⟩, rfl, by simp [mentsOne]⟩, fun l1 es1 hl1 he1 => ?_⟩
    conv => whnf
    have hl1' : l1 = 1 + (d.map encB).length := hl1
    have he1' : es1 = ([yv (IntKind.u8.wrap ((d.map encB).length : Int))].drop 0).take 1 ++ d.map encB := he1
    clear he1
    have hel : es1.length = 1 + (d.map encB).length := by rw [he1']; simp; omega
    refine ⟨⟨by decide, rfl, rfl, by rw [hel]; omega, ⟨by show (l1 + 2) * 1 ≤ _; omega, by show l1 + 2 ≤ _; omega⟩, rfl, by simp [mentsOne]⟩, fun l2 es2 hl2 he2 => ?_⟩
    have a1 : IntKind.u8.wrap ((d.map encB).length : Int) = d.length := by rw [hml, wrap_u8 (by omega)]
    have a2 : IntKind.u8.wrap ((IntKind.i64.wrap ((sumB d).tdiv 256)).tmod 256) = sumB d / 256 % 256 := by
      rw [tdiv_e hs.1, wrap_i64 (by omega), tmod_e (by omega), wrap_u8 (by omega)]
    have a3 : IntKind.u8.wrap ((sumB d).tmod 256) = sumB d % 256 := by
      rw [tmod_e hs.1, wrap_u8 (by omega)]
    have he3 : es2 = (recB d).map encB := by
      rw [hl1', a3] at he2
      exact rec_row he1' he2 a1 a2
    subst he3
    obtain rfl : l2 = (recB d).length := by rw [hl2, hl1', recB_len]; simp; omega
    conv => whnf
    exact hK
theorem RecordOfI.ac (d : List Int) (hd : Bytes d) (hl : d.length ≤ 255) {K : V → List Obj → List Obj → Prop} (hK : K (.ls (1, 0) 1 0 (recB d).length) [] [rowB (recB d)]) : AC Try.prog 44 [.is 1 (d.map encB)] [] K := by
  have hml : (d.map encB).length = d.length := List.length_map ..
  refine ac_body (ann [(5, [0, 3, 10, 11, 12], [])]) [((998, 0), true), ((26, 0), false), ((28, 0), false), ((35, 0), true), ((36, 0), false)] hm htt Try.func44 rfl (by kernel_rfl) rfl rfl ?_
  conv => whnf
  refine bF_dec (fun h => by omega) (fun _ => ?_)
  conv => whnf
  refine cwF_loop (fun m st => ∃ (z s : Int) (i : Nat), (z = i ∧ m = d.length - i ∧ i ≤ d.length ∧ s = sumB (d.take i)) ∧
    st = ⟨[.is 1 (d.map encB), .un, .un, iv s, .un, .un, .un, .un, .un, .un, .is 1 (d.map encB), iv (d.map encB).length, iv z] ++ List.replicate 22 .un, mkOb []⟩) d.length (by kernel_rfl) ⟨_, _, 0, ⟨rfl, rfl, by omega, rfl⟩, rfl⟩ ?_
  rintro m st ⟨z, s, i, ⟨rfl, rfl, i1, rfl⟩, rfl⟩
  have hs := sum_le hd hl i
  conv => whnf
  refine bF_dec (fun h2 => ?_) (fun h2 => ?_)
  · conv => whnf
    refine ⟨⟨rfl, by omega, by omega⟩, ?_⟩
    conv => whnf
    refine ⟨_, map_get (by omega), ?_⟩
    conv => whnf
    have hb := bytes_get hd (i := i) (by omega)
    have e1 : IntKind.i64.wrap (sumB (d.take i) + IntKind.i64.wrap (d.getD i default)) = sumB (d.take (i + 1)) := by
      rw [sum_step (by omega), wrap_i64 (x := d.getD i default) (by omega), wrap_i64 (by omega)]
    exact ⟨by kernel_rfl, d.length - (i + 1), by omega, _, _, i + 1, ⟨wrap_i64 (by omega), rfl, by omega, e1⟩, rfl⟩
  · rw [List.take_of_length_le (by omega)] at hs ⊢
    conv => whnf
    refine ⟨rfl, ?_⟩
    conv => whnf
    refine ⟨⟨by decide, rfl, rfl, by simp, ⟨by show (1 + (d.map encB).length) * 1 ≤ _; omega, by show 1 + (d.map encB).length ≤ _; omega⟩, rfl, by simp [mentsOne]⟩, fun l1 es1 hl1 he1 => ?_⟩
    conv => whnf
    have hl1' : l1 = 1 + (d.map encB).length := hl1
    have he1' : es1 = ([yv (IntKind.u8.wrap ((d.map encB).length : Int))].drop 0).take 1 ++ d.map encB := he1
    clear he1
    have hel : es1.length = 1 + (d.map encB).length := by rw [he1']; simp; omega
    refine ⟨⟨by decide, rfl, rfl, by rw [hel]; omega, ⟨by show (l1 + 2) * 1 ≤ _; omega, by show l1 + 2 ≤ _; omega⟩, rfl, by simp [mentsOne]⟩, fun l2 es2 hl2 he2 => ?_⟩
    have a1 : IntKind.u8.wrap ((d.map encB).length : Int) = d.length := by rw [hml, wrap_u8 (by omega)]
    have a2 : IntKind.u8.wrap ((sumB d).fdiv (2 ^ min (Int.toNat 8) IntKind.i64.bits)) = sumB d / 256 % 256 := by
      have e2 : (2 : Int) ^ min (Int.toNat 8) IntKind.i64.bits = 256 := by decide
      rw [e2, Int.fdiv_eq_ediv_of_nonneg _ (by omega), wrap_u8_mod]
    have a3 : IntKind.u8.wrap (sumB d) = sumB d % 256 := wrap_u8_mod
    have he3 : es2 = (recB d).map encB := by
      rw [hl1', a3] at he2
      exact rec_row he1' he2 a1 a2
    subst he3
    obtain rfl : l2 = (recB d).length := by rw [hl2, hl1', recB_len]; simp; omega
    conv => whnf
    exact hK
end Go.Eng.T

namespace Go.Eng.T
open Go.Proofs Go.Eng Go.Eng.S
set_option maxRecDepth 100000
set_option maxHeartbeats 0

theorem OpBytesI.ac (o : OpR) (ho : o.ints) {K : V → List Obj → List Obj → Prop} (hK1 : o.ok → K (.ls (1, 0) 1 0 (opB o).length) [] [rowB (opB o)]) (hK0 : ¬ o.ok → K nilS [] []) : AC Try.prog 43 [encOp o] [] K := by
  refine ac_body (ann []) [((998, 0), true), ((3, 0), true), ((9, 0), false)] hm htt Try.func43 rfl (by kernel_rfl) rfl rfl ?_
  conv => whnf
  refine isOp2 o (fun hk => ?_) (fun hk => ?_)
  rotate_left
  · conv => whnf
    exact hK0 hk
  conv => whnf
  refine opBytesI.ac o ho ?_
  conv => whnf
  exact hK1 hk
theorem opB_bytes {o : OpR} (h : o.ints) : Bytes (opB o) := catB_bytes h
theorem noIs_map {α : Type} {f : α → V} (h : ∀ x, (f x).noIs = true) (n : Nat) (l : List α) : noIsO [.arr true n (l.map f)] = true := by
  have : noIsL (l.map f) = true := noIsL_of fun x hx => by obtain ⟨i, _, rfl⟩ := List.mem_map.1 hx; exact h i
  show ((noIsL (l.map f)) && true) = true
  rw [this]; rfl
theorem noIs_rowB (l : List Int) : noIsO [rowB l] = true := noIs_map (fun _ => rfl) 1 l
/-- A row of bytes, lent; what stands behind it is plain. -/
theorem lend_same {k : Key} {n : Nat} {es : List V} : ∀ {xs : List V}, (∀ x ∈ xs, x.ments = []) → LendA k n es xs xs
  | [], _ => .nil
  | x :: xs, h => .cons (.same (by rw [h x List.mem_cons_self]; exact List.not_mem_nil)) (lend_same fun y hy => h y (List.mem_cons_of_mem _ hy))
theorem AC.row {P : Program} {f : FuncId} {d : List Int} {xs : List V} {K : V → List Obj → List Obj → Prop} (hx : ∀ x ∈ xs, x.ments = []) (h : AC P f (.is 1 (d.map encB) :: xs) [] fun v o n => (v.noIs = true ∧ noIsO o = true ∧ noIsO n = true) ∧ K v (o ++ [rowB d]) n) :
    AC P f (.ls (0, 0) 1 0 d.length :: xs) [rowB d] K :=
  AC.borrow (objs := []) (.cons (.all (by simp)) (lend_same hx)) (fun _ h => nomatch h) h
theorem no_xs : ∀ x ∈ ([] : List V), x.ments = [] := fun _ h => nomatch h

theorem RecordOfS2.ac {d : List Int} {es : List V} (he : es = d.map encB) (hd : Bytes d) (hl : d.length ≤ 255) {K : V → List Obj → List Obj → Prop} (hK : K (.ls (1, 0) 1 0 (recB d).length) [] [rowB (recB d)]) : AC Try.prog 67 [.is 1 es] [] K := by
  subst he; exact RecordOfS.ac d hd hl hK
theorem RecordOfI2.ac {d : List Int} {es : List V} (he : es = d.map encB) (hd : Bytes d) (hl : d.length ≤ 255) {K : V → List Obj → List Obj → Prop} (hK : K (.ls (1, 0) 1 0 (recB d).length) [] [rowB (recB d)]) : AC Try.prog 44 [.is 1 es] [] K := by
  subst he; exact RecordOfI.ac d hd hl hK
theorem log_step {ops : List OpR} {i : Nat} (h : i < ops.length) : logB (ops.take (i + 1)) = logB (ops.take i) ++ recB (opB (ops.getD i default)) := by
  rw [List.take_add_one, List.getElem?_eq_getElem h, logB_app, List.getD_eq_getElem?_getD, List.getElem?_eq_getElem h]
  simp [logB]
theorem getO {ops : List OpR} {i : Nat} (h : i < ops.length) : ops.getD i default ∈ ops := by
  rw [List.getD_eq_getElem?_getD, List.getElem?_eq_getElem h]; exact List.getElem_mem h
theorem log_le {ops : List OpR} {i : Nat} (h : ops.length ≤ 250) : (logB (ops.take i)).length ≤ 28250 := by
  have := logB_len (l := ops.take i)
  have : (ops.take i).length ≤ ops.length := by rw [List.length_take]; omega
  omega
theorem all_of {ops : List OpR} (h : ∀ i, i < ops.length → (ops.getD i default).ok) : ∀ o ∈ ops, o.ok := fun o ho => by
  obtain ⟨i, hi, rfl⟩ := List.getElem_of_mem ho
  have := h i hi
  rwa [List.getD_eq_getElem?_getD, List.getElem?_eq_getElem hi] at this

theorem LogOfS.ac (ops : List OpR) (hi : ∀ o ∈ ops, o.ints) (hn : ops.length ≤ 10000000) {K : V → List Obj → List Obj → Prop} (hK1 : (∀ o ∈ ops, o.ok) → ops.length ≤ 250 → K (.tup [.ls (1, 0) 1 0 (logB ops).length, bv true]) [] [rowB (logB ops)])
    (hK0 : ¬ ((∀ o ∈ ops, o.ok) ∧ ops.length ≤ 250) → K (.tup [nilS, bv false]) [] []) : AC Try.prog 38 [.is 11 (ops.map encOp)] [] K := by
  have hml : (ops.map encOp).length = ops.length := List.length_map ..
  refine ac_body (annW [] [(5, [0, 4, 5], [(31, 1)])] [(5, (31, 1), [31, 11])]) [((998, 0), true), ((11, 0), true), ((29, 0), false), ((30, 0), false), ((31, 0), false), ((31, 1), false)] hm htt Try.func38 rfl (by kernel_rfl) rfl rfl ?_
  conv => whnf
  refine bF_dec (fun h => ?_) (fun h0 => ?_)
  · conv => whnf
    exact hK0 fun k => by omega
  have h250 : ops.length ≤ 250 := by omega
  conv => whnf
  refine cwF_loop (fun m st => ∃ (z : Int) (i : Nat) (l : List Int), (z = i ∧ m = ops.length - i ∧ i ≤ ops.length ∧ l = logB (ops.take i) ∧ ∀ j, j < i → (ops.getD j default).ok) ∧
    st = ⟨[.is 11 (ops.map encOp), .un, .un, .un, .ls (31, 1) 1 0 l.length, iv z] ++ List.replicate 25 .un, mkOb [((31, 1), some (rowB l))]⟩) ops.length (by kernel_rfl) ⟨_, 0, [], ⟨rfl, rfl, by omega, rfl, fun j h => by omega⟩, rfl⟩ ?_
  rintro m st ⟨z, i, l, ⟨rfl, rfl, i1, el, hok⟩, rfl⟩
  have ll := log_le (i := i) h250
  rw [← el] at ll
  conv => whnf
  refine bF_dec (fun h2 => ?_) (fun h2 => ?_)
  · conv => whnf
    refine ⟨⟨rfl, by omega, by omega⟩, ?_⟩
    conv => whnf
    refine ⟨_, map_get (by omega), ?_⟩
    conv => whnf
    refine OpOkS2 (ops.getD i default) (fun hk => ?_) (fun hk => ?_)
    rotate_left
    · conv => whnf
      exact hK0 fun k => hk (k.1 _ (getO (by omega)))
    conv => whnf
    refine ⟨⟨rfl, by omega, by omega⟩, ?_⟩
    conv => whnf
    refine ⟨_, map_get (by omega), ?_⟩
    conv => whnf
    have oi := hi _ (getO (i := i) (by omega))
    refine OpBytesS.ac (ops.getD i default) oi (fun _ => ?_) (fun k => absurd hk k)
    conv => whnf
    have bl := opB_len (o := ops.getD i default)
    refine AC.row no_xs (RecordOfS.ac _ (opB_bytes oi) (by omega) ⟨⟨rfl, rfl, noIs_rowB _⟩, ?_⟩)
    conv => whnf
    have rl := recB_len (d := opB (ops.getD i default))
    refine ⟨⟨rfl, rfl, by rw [List.length_map]; omega⟩, fun xs hx => ?_⟩
    obtain rfl := row_all hx
    conv => whnf
    refine ⟨⟨by decide, rfl, rfl, by rw [List.length_map]; omega, roomB (by omega) (by rw [List.length_map]; omega), rfl, by simp [mentsOne]⟩, fun l' es' hl he => ?_⟩
    obtain rfl := app_row he
    obtain rfl : l' = (l ++ recB (opB (ops.getD i default))).length := by rw [hl, List.length_map, List.length_append]
    conv => whnf
    refine ⟨by kernel_rfl, ops.length - (i + 1), by omega, _, i + 1, _, ⟨wrap_i64 (by omega), rfl, by omega, by rw [log_step (by omega), el], fun j hj => ?_⟩, rfl⟩
    rcases (by omega : j < i ∨ j = i) with h | rfl
    · exact hok j h
    · exact hk
  · conv => whnf
    rw [List.take_of_length_le (by omega)] at el
    subst el
    exact hK1 (all_of fun j hj => hok j (by omega)) h250
theorem logOf.ac (ops : List OpR) (hi : ∀ o ∈ ops, o.ints) (hn : ops.length ≤ 10000000) {K : V → List Obj → List Obj → Prop} (hK1 : (∀ o ∈ ops, o.ok) → ops.length ≤ 250 → K (.tup [.ls (1, 0) 1 0 (logB ops).length, bv true]) [] [rowB (logB ops)])
    (hK0 : ¬ ((∀ o ∈ ops, o.ok) ∧ ops.length ≤ 250) → K (.tup [nilS, bv false]) [] []) : AC Try.prog 79 [.is 11 (ops.map encOp)] [] K := by
  have hml : (ops.map encOp).length = ops.length := List.length_map ..
  refine ac_body (annW [] [(5, [4, 11, 12, 13], [(26, 1)])] [(5, (26, 1), [26, 9])]) [((998, 0), true), ((9, 0), true), ((8, 0), true), ((24, 0), false), ((25, 0), false), ((26, 0), false), ((26, 1), false)] hm htt Try.func79 rfl (by kernel_rfl) rfl rfl ?_
  conv => whnf
  refine bF_dec (fun h => ?_) (fun h0 => ?_)
  · conv => whnf
    exact hK0 fun k => by omega
  have h250 : ops.length ≤ 250 := by omega
  conv => whnf
  refine cwF_loop (fun m st => ∃ (z : Int) (i : Nat) (l : List Int), (z = i ∧ m = ops.length - i ∧ i ≤ ops.length ∧ l = logB (ops.take i) ∧ ∀ j, j < i → (ops.getD j default).ok) ∧
    st = ⟨[.un, .un, .un, .un, .ls (26, 1) 1 0 l.length] ++ List.replicate 6 .un ++ [.is 11 (ops.map encOp), iv (ops.map encOp).length, iv z] ++ List.replicate 13 .un, mkOb [((26, 1), some (rowB l))]⟩) ops.length (by kernel_rfl) ⟨_, 0, [], ⟨rfl, rfl, by omega, rfl, fun j h => by omega⟩, rfl⟩ ?_
  rintro m st ⟨z, i, l, ⟨rfl, rfl, i1, el, hok⟩, rfl⟩
  have ll := log_le (i := i) h250
  rw [← el] at ll
  conv => whnf
  refine bF_dec (fun h2 => ?_) (fun h2 => ?_)
  · conv => whnf
    refine ⟨⟨rfl, by omega, by omega⟩, ?_⟩
    conv => whnf
    refine ⟨_, map_get (by omega), ?_⟩
    conv => whnf
    refine isOp2 (ops.getD i default) (fun hk => ?_) (fun hk => ?_)
    rotate_left
    · conv => whnf
      exact hK0 fun k => hk (k.1 _ (getO (by omega)))
    conv => whnf
    have oi := hi _ (getO (i := i) (by omega))
    refine opBytesI.ac (ops.getD i default) oi ?_
    conv => whnf
    have bl := opB_len (o := ops.getD i default)
    refine AC.row no_xs (RecordOfI.ac _ (opB_bytes oi) (by omega) ⟨⟨rfl, rfl, noIs_rowB _⟩, ?_⟩)
    conv => whnf
    have rl := recB_len (d := opB (ops.getD i default))
    refine ⟨⟨rfl, rfl, by rw [List.length_map]; omega⟩, fun xs hx => ?_⟩
    obtain rfl := row_all hx
    conv => whnf
    refine ⟨⟨by decide, rfl, rfl, by rw [List.length_map]; omega, roomB (by omega) (by rw [List.length_map]; omega), rfl, by simp [mentsOne]⟩, fun l' es' hl he => ?_⟩
    obtain rfl := app_row he
    obtain rfl : l' = (l ++ recB (opB (ops.getD i default))).length := by rw [hl, List.length_map, List.length_append]
    conv => whnf
    refine ⟨by kernel_rfl, ops.length - (i + 1), by omega, _, i + 1, _, ⟨wrap_i64 (by omega), rfl, by omega, by rw [log_step (by omega), el], fun j hj => ?_⟩, rfl⟩
    rcases (by omega : j < i ∨ j = i) with h | rfl
    · exact hok j h
    · exact hk
  · conv => whnf
    rw [List.take_of_length_le (by omega)] at el
    subst el
    exact hK1 (all_of fun j hj => hok j (by omega)) h250
end Go.Eng.T

namespace Go.Eng.T
open Go.Proofs Go.Eng Go.Eng.S
set_option maxRecDepth 100000
set_option maxHeartbeats 0

theorem drop_cons {D : List Int} {a : Nat} (h : a < D.length) : D.drop a = D.getD a default :: D.drop (a + 1) := by
  rw [List.getD_eq_getElem?_getD, List.getElem?_eq_getElem h, List.drop_eq_getElem_cons h]; rfl
theorem rec_lt {D : List Int} {a : Nat} {o : OpR} (h : RecAt D a o) : a < D.length ∧ D.getD a default = ((opB o).length : Nat) ∧ a + (opB o).length + 3 ≤ D.length := by
  have h2 := h.2
  have hl := congrArg List.length h2
  rw [List.length_take, List.length_drop, recB_len] at hl
  have ha : a < D.length := by omega
  refine ⟨ha, ?_, by omega⟩
  rw [drop_cons ha, recB_len] at h2
  simp only [recB, List.cons_append, List.take_succ_cons, List.cons.injEq] at h2
  exact h2.1
theorem recAt_iff {D : List Int} {a n : Nat} (ha : a < D.length) (hx : D.getD a default = n) (hl : a + n + 3 ≤ D.length) (o : OpR) :
    RecAt D a o ↔ o.good ∧ opB o = (D.drop (a + 1)).take n ∧ recB (opB o) = (D.drop a).take (n + 3) := by
  constructor
  · intro h
    have h1 := (rec_lt h).2.1
    have hn : (opB o).length = n := by omega
    have h2 := h.2
    rw [recB_len, hn] at h2
    refine ⟨h.1, ?_, h2.symm⟩
    rw [drop_cons ha] at h2
    simp only [recB, List.cons_append, List.take_succ_cons, List.cons.injEq] at h2
    have h3 := congrArg (List.take n) h2.2
    rw [List.take_take, show min n (n + 2) = n by omega, ← hn, List.take_left] at h3
    rw [← h3, hn]
  · rintro ⟨h1, h2, h3⟩
    have hn : (opB o).length = n := by
      rw [h2, List.length_take, List.length_drop]; omega
    exact ⟨h1, by rw [recB_len, hn, h3]⟩
/-- The reading of a log so far. -/
structure LgI (D : List Int) (ops : List OpR) : Prop where
  good : ∀ o ∈ ops, o.good
  pre : D.take (logB ops).length = logB ops
  len : ops.length ≤ 250
theorem LgI.le {D : List Int} {ops : List OpR} (h : LgI D ops) : (logB ops).length ≤ D.length := pre_le h.pre
theorem logB_snoc {ops : List OpR} {o : OpR} : logB (ops ++ [o]) = logB ops ++ recB (opB o) := by rw [logB_app]; simp [logB]
theorem LgI.next {D : List Int} {ops : List OpR} {o : OpR} (h : LgI D ops) (h2 : ops.length < 250) (hr : RecAt D (logB ops).length o) : LgI D (ops ++ [o]) := by
  refine ⟨fun x hx => ?_, ?_, by simp; omega⟩
  · rcases List.mem_append.1 hx with h1 | h1
    · exact h.good x h1
    · rw [List.mem_singleton.1 h1]; exact hr.1
  · rw [logB_snoc, List.length_append, List.take_add, h.pre, hr.2]
theorem LgI.stop {D : List Int} {ops : List OpR} (h : LgI D ops) (hs : ops.length = 250 ∨ ∀ o, ¬ RecAt D (logB ops).length o) : LogR D ops := ⟨h.good, h.pre, h.len, hs⟩
theorem opL_map {D : List Int} (h : Bytes D) {a n : Nat} : Bytes ((D.drop a).take n) := sub_bytes h
theorem app_o {l : List OpR} {es' : List V} {x : OpR} (h : es' = ((l.map encOp).drop 0).take l.length ++ [encOp x]) : es' = (l ++ [x]).map encOp := by
  rw [h, List.drop_zero, List.take_of_length_le (by simp), List.map_append]; rfl
abbrev rowO (l : List OpR) : Obj := .arr true 11 (l.map encOp)

theorem logRead.ac (D : List Int) (hd : Bytes D) (hl : D.length ≤ 1000000) {K : V → List Obj → List Obj → Prop} (hK : ∀ ops, LogR D ops → K (.tup [.ls (1, 0) 11 0 ops.length, iv (logB ops).length]) [] [rowO ops]) : AC Try.prog 78 [.is 1 (D.map encB)] [] K := by
  have hml : (D.map encB).length = D.length := List.length_map ..
  have hml3 : (D.map encU).length = D.length := List.length_map ..
  refine ac_body (annW [] [(2, [0, 4, 5], [(64, 1)])] [(2, (64, 1), [64, 11])]) [((998, 0), true), ((11, 0), true), ((9, 0), true), ((51, 0), false), ((63, 0), true), ((64, 0), false), ((64, 1), false)] hm htt Try.func78 rfl (by kernel_rfl) rfl rfl ?_
  conv => whnf
  refine cwF_loop (fun m st => ∃ (z : Int) (ops : List OpR), (z = ((logB ops).length : Nat) ∧ m = 250 - ops.length ∧ LgI D ops) ∧
    st = ⟨[.is 1 (D.map encB), .un, .un, .un, .ls (64, 1) 11 0 ops.length, iv z] ++ List.replicate 61 .un, mkOb [((64, 1), some (rowO ops))]⟩) 250 (by kernel_rfl) ⟨_, [], ⟨rfl, rfl, ⟨fun o h => (nomatch h), by simp [logB], by decide⟩⟩, rfl⟩ ?_
  rintro m st ⟨z, ops, ⟨rfl, rfl, hI⟩, rfl⟩
  have hle := hI.le
  have h250 := hI.len
  have fin : (ops.length = 250 ∨ ∀ o, ¬ RecAt D (logB ops).length o) → K (.tup [.ls (1, 0) 11 0 ops.length, iv (logB ops).length]) [] [rowO ops] := fun h => hK ops (hI.stop h)
  conv => whnf
  refine bF_dec (fun h1 => ?_) (fun h1 => ?_)
  rotate_left
  · conv => whnf
    exact fin (.inr fun o h => by have := (rec_lt h).1; omega)
  conv => whnf
  refine bF_dec (fun h2 => ?_) (fun h2 => ?_)
  rotate_left
  · conv => whnf
    exact fin (.inl (by omega))
  have ha : (logB ops).length < D.length := by omega
  have hb := bytes_get hd ha
  obtain ⟨n, hx⟩ : ∃ n : Nat, D.getD (logB ops).length default = n := ⟨(D.getD (logB ops).length default).toNat, by omega⟩
  conv => whnf
  refine ⟨⟨rfl, by omega, by omega⟩, ?_⟩
  conv => whnf
  refine ⟨_, map_get (by omega), ?_⟩
  conv => whnf
  have hx2 : D.getD ((logB ops).length : Int).toNat default = n := hx
  have e1 : IntKind.i64.wrap (IntKind.i64.wrap (((logB ops).length : Int) + 1) + IntKind.i64.wrap (D.getD ((logB ops).length : Int).toNat default)) = (((logB ops).length + 1 + n : Nat) : Int) := by
    rw [hx2, wrap_i64 (x := (n : Int)) (by omega), wrap_i64 (x := ((logB ops).length : Int) + 1) (by omega), wrap_i64 (by omega)]; omega
  have e2 : IntKind.i64.wrap (IntKind.i64.wrap (IntKind.i64.wrap (((logB ops).length : Int) + 1) + IntKind.i64.wrap (D.getD ((logB ops).length : Int).toNat default)) + 2) = (((logB ops).length + 1 + n + 2 : Nat) : Int) := by
    rw [e1, wrap_i64 (by omega)]; omega
  have e3 := wrap_i64 (x := ((logB ops).length : Int) + 1) (by omega)
  refine bF_dec (fun h3 => ?_) (fun h3 => ?_)
  · conv => whnf
    exact fin (.inr fun o h => by
      have := rec_lt h
      rw [e2] at h3
      omega)
  have hln : (logB ops).length + n + 3 ≤ D.length := by
    rw [e2] at h3
    omega
  have ra := recAt_iff ha hx hln
  conv => whnf
  refine ⟨rfl, ⟨⟨by omega, by omega⟩, by omega, by omega⟩, fun es' he => ?_⟩
  obtain rfl : es' = (((D.drop ((logB ops).length + 1)).take n).map encB) := by
    rw [he, e1, e3, List.map_take, List.map_drop]
    congr 1
    · omega
  conv => whnf
  refine opRead.ac _ (opL_map hd) (by rw [List.length_take]; omega) (fun o ho eo => ?_) (fun hno => ?_)
  rotate_left
  · conv => whnf
    repeat (refine ⟨by kernel_rfl, ?_⟩; conv => whnf)
    exact fin (.inr fun o h => hno o ((ra o).1 h).1 ((ra o).1 h).2.1)
  have hnl : ((D.drop ((logB ops).length + 1)).take n).length = n := by rw [List.length_take, List.length_drop]; omega
  conv => whnf
  refine ⟨rfl, ⟨⟨by omega, by omega⟩, by omega, by omega⟩, fun es' he => ?_⟩
  obtain rfl : es' = (((D.drop ((logB ops).length + 1)).take n).map encB) := by
    rw [he, e1, e3, List.map_take, List.map_drop]
    congr 1
    · omega
  conv => whnf
  refine ⟨rfl, ⟨⟨by omega, by omega⟩, by omega, by omega⟩, fun es' he => ?_⟩
  obtain rfl : es' = (((D.drop (logB ops).length).take (n + 3)).map encU) := by
    rw [he, e2, List.map_take, List.map_drop]
    congr 1
    · omega
  conv => whnf
  refine ⟨rfl, (D.drop (logB ops).length).take (n + 3), rfl, ?_⟩
  conv => whnf
  refine ⟨by kernel_rfl, ?_⟩
  conv => whnf
  refine RecordOfI.ac _ (opL_map hd) (by omega) ?_
  conv => whnf
  refine ⟨⟨rfl, rfl, by rw [List.length_map]; omega⟩, fun xs hx => ⟨recB ((D.drop ((logB ops).length + 1)).take n), ?_, ?_⟩⟩
  · exact row_all hx
  conv => whnf
  have bs1 : Bytes (recB ((D.drop ((logB ops).length + 1)).take n)) := recB_bytes (opL_map hd) (by omega)
  have se := str_eq bs1 (opL_map hd (a := (logB ops).length) (n := n + 3))
  refine bF_bool (fun h7 => ?_) (fun h7 => ?_)
  · have h10 : (!((strOfNums (recB ((D.drop ((logB ops).length + 1)).take n))).toList == (strOfNums ((D.drop (logB ops).length).take (n + 3))).toList)) = true := h7
    conv => whnf
    refine ⟨by kernel_rfl, ?_⟩
    conv => whnf
    refine fin (.inr fun o' h => ?_)
    have h11 := (ra o').1 h
    rw [se.2 (by rw [← h11.2.2, h11.2.1])] at h10
    cases h10
  · have h10 : (!((strOfNums (recB ((D.drop ((logB ops).length + 1)).take n))).toList == (strOfNums ((D.drop (logB ops).length).take (n + 3))).toList)) = false := h7
    rw [Bool.not_eq_false'] at h10
    have h12 := se.1 h10
    have hr : RecAt D (logB ops).length o := (ra o).2 ⟨ho, eo, by rw [eo]; exact h12⟩
    conv => whnf
    refine ⟨by kernel_rfl, ?_⟩
    conv => whnf
    refine ⟨⟨by decide, rfl, rfl, by rw [List.length_map]; omega, ⟨by show (_ + 1) * 88 ≤ _; omega, by show _ + 1 ≤ _; omega⟩, rfl, by simp [mentsOne]⟩, fun l' es' hl he => ?_⟩
    obtain rfl := app_o he
    obtain rfl : l' = (ops ++ [o]).length := by rw [hl]; simp
    conv => whnf
    refine ⟨by kernel_rfl, 250 - (ops.length + 1), by omega, _, ops ++ [o], ⟨?_, by simp, hI.next (by omega) hr⟩, rfl⟩
    rw [e2, logB_snoc, List.length_append, recB_len, eo, hnl]
    omega
end Go.Eng.T

namespace Go.Eng.T
open Go.Proofs Go.Eng Go.Eng.S
set_option maxRecDepth 100000
set_option maxHeartbeats 0

theorem LogReadI.ac (D : List Int) (hd : Bytes D) (hl : D.length ≤ 1000000) {K : V → List Obj → List Obj → Prop} (hK : ∀ ops, LogR D ops → K (.tup [.ls (1, 0) 11 0 ops.length, iv (logB ops).length]) [] [rowO ops]) : AC Try.prog 45 [.is 1 (D.map encB)] [] K := by
  refine ac_body (ann []) [((998, 0), true), ((7, 0), false)] hm htt Try.func45 rfl (by kernel_rfl) rfl rfl ?_
  conv => whnf
  refine logRead.ac D hd hl fun ops h => ?_
  conv => whnf
  exact hK ops h

theorem LogReadS.ac (D : List Int) (hd : Bytes D) (hl : D.length ≤ 1000000) {K : V → List Obj → List Obj → Prop} (hK : ∀ ops, LogR D ops → K (.tup [.ls (1, 0) 11 0 ops.length, iv (logB ops).length]) [] [rowO ops]) : AC Try.prog 58 [.is 1 (D.map encB)] [] K := by
  have hml : (D.map encB).length = D.length := List.length_map ..
  have hml3 : (D.map encU).length = D.length := List.length_map ..
  refine ac_body (annW [] [(3, [0, 4, 5], [(60, 1)])] [(3, (60, 1), [60, 11])]) [((998, 0), true), ((11, 0), true), ((9, 0), true), ((47, 0), false), ((48, 0), false), ((59, 0), true), ((60, 0), false), ((60, 1), false)] hm htt Try.func58 rfl (by kernel_rfl) rfl rfl ?_
  conv => whnf
  refine cwF_loop (fun m st => ∃ (z : Int) (ops : List OpR), (z = ((logB ops).length : Nat) ∧ m = 250 - ops.length ∧ LgI D ops) ∧
    st = ⟨[.is 1 (D.map encB), .un, .un, .un, .ls (60, 1) 11 0 ops.length, iv z] ++ List.replicate 56 .un, mkOb [((60, 1), some (rowO ops))]⟩) 250 (by kernel_rfl) ⟨_, [], ⟨rfl, rfl, ⟨fun o h => (nomatch h), by simp [logB], by decide⟩⟩, rfl⟩ ?_
  rintro m st ⟨z, ops, ⟨rfl, rfl, hI⟩, rfl⟩
  have hle := hI.le
  have h250 := hI.len
  have fin : (ops.length = 250 ∨ ∀ o, ¬ RecAt D (logB ops).length o) → K (.tup [.ls (1, 0) 11 0 ops.length, iv (logB ops).length]) [] [rowO ops] := fun h => hK ops (hI.stop h)
  conv => whnf
  refine bF_dec (fun h1 => ?_) (fun h1 => ?_)
  rotate_left
  · conv => whnf
    exact fin (.inr fun o h => by have := (rec_lt h).1; omega)
  conv => whnf
  refine bF_dec (fun h2 => ?_) (fun h2 => ?_)
  rotate_left
  · conv => whnf
    exact fin (.inl (by omega))
  have ha : (logB ops).length < D.length := by omega
  have hb := bytes_get hd ha
  obtain ⟨n, hx⟩ : ∃ n : Nat, D.getD (logB ops).length default = n := ⟨(D.getD (logB ops).length default).toNat, by omega⟩
  conv => whnf
  refine ⟨⟨rfl, by omega, by omega⟩, ?_⟩
  conv => whnf
  refine ⟨_, map_get (by omega), ?_⟩
  conv => whnf
  have hx2 : D.getD ((logB ops).length : Int).toNat default = n := hx
  have e2 : IntKind.i64.wrap (IntKind.i64.wrap (((logB ops).length : Int) + IntKind.i64.wrap (D.getD ((logB ops).length : Int).toNat default)) + 3) = (((logB ops).length + n + 3 : Nat) : Int) := by
    rw [hx2, wrap_i64 (x := (n : Int)) (by omega), wrap_i64 (x := ((logB ops).length : Int) + n) (by omega), wrap_i64 (by omega)]; omega
  have e1 : IntKind.i64.wrap (IntKind.i64.wrap (IntKind.i64.wrap (((logB ops).length : Int) + IntKind.i64.wrap (D.getD ((logB ops).length : Int).toNat default)) + 3) - 2) = (((logB ops).length + 1 + n : Nat) : Int) := by
    rw [e2, wrap_i64 (by omega)]; omega
  have e3 := wrap_i64 (x := ((logB ops).length : Int) + 1) (by omega)
  refine bF_dec (fun h3 => ?_) (fun h3 => ?_)
  · conv => whnf
    exact fin (.inr fun o h => by
      have := rec_lt h
      rw [e2] at h3
      omega)
  have hln : (logB ops).length + n + 3 ≤ D.length := by
    rw [e2] at h3
    omega
  have ra := recAt_iff ha hx hln
  conv => whnf
  refine ⟨rfl, ⟨⟨by omega, by omega⟩, by omega, by omega⟩, fun es' he => ?_⟩
  obtain rfl : es' = (((D.drop ((logB ops).length + 1)).take n).map encB) := by
    rw [he, e1, e3, List.map_take, List.map_drop]
    congr 1
    · omega
  conv => whnf
  refine OpReadS.ac _ (opL_map hd) (by rw [List.length_take]; omega) (fun o ho eo => ?_) (fun hno => ?_)
  rotate_left
  · conv => whnf
    repeat (refine ⟨by kernel_rfl, ?_⟩; conv => whnf)
    exact fin (.inr fun o h => hno o ((ra o).1 h).1 ((ra o).1 h).2.1)
  have hnl : ((D.drop ((logB ops).length + 1)).take n).length = n := by rw [List.length_take, List.length_drop]; omega
  have ol := opB_len (o := o)
  conv => whnf
  refine ⟨rfl, ⟨⟨by omega, by omega⟩, by omega, by omega⟩, fun es' he => ?_⟩
  obtain rfl : es' = (((D.drop (logB ops).length).take (n + 3)).map encU) := by
    rw [he, e2, List.map_take, List.map_drop]
    congr 1
    · omega
  conv => whnf
  refine ⟨rfl, (D.drop (logB ops).length).take (n + 3), rfl, ?_⟩
  conv => whnf
  refine ⟨by kernel_rfl, ?_⟩
  conv => whnf
  refine OpBytesS.ac o ho.2 (fun _ => ?_) (fun k => absurd ho.1 k)
  conv => whnf
  refine ⟨by kernel_rfl, ?_⟩
  conv => whnf
  refine AC.row no_xs (RecordOfS.ac _ (opB_bytes ho.2) (by omega) ⟨⟨rfl, rfl, noIs_rowB _⟩, ?_⟩)
  conv => whnf
  refine ⟨⟨rfl, rfl, by rw [List.length_map]; omega⟩, fun xs hx => ⟨recB (opB o), ?_, ?_⟩⟩
  · exact row_all hx
  conv => whnf
  have bs1 : Bytes (recB (opB o)) := recB_bytes (opB_bytes ho.2) (by omega)
  have se := str_eq bs1 (opL_map hd (a := (logB ops).length) (n := n + 3))
  refine bF_bool (fun h7 => ?_) (fun h7 => ?_)
  · have h10 : (!((strOfNums (recB (opB o))).toList == (strOfNums ((D.drop (logB ops).length).take (n + 3))).toList)) = true := h7
    conv => whnf
    refine ⟨by kernel_rfl, ?_⟩
    conv => whnf
    refine fin (.inr fun o' h => ?_)
    have h11 := (ra o').1 h
    rw [se.2 (by rw [← h11.2.2, h11.2.1, eo])] at h10
    cases h10
  · have h10 : (!((strOfNums (recB (opB o))).toList == (strOfNums ((D.drop (logB ops).length).take (n + 3))).toList)) = false := h7
    rw [Bool.not_eq_false'] at h10
    have h12 := se.1 h10
    have hr : RecAt D (logB ops).length o := (ra o).2 ⟨ho, eo, h12⟩
    conv => whnf
    refine ⟨by kernel_rfl, ?_⟩
    conv => whnf
    refine ⟨⟨by decide, rfl, rfl, by rw [List.length_map]; omega, ⟨by show (_ + 1) * 88 ≤ _; omega, by show _ + 1 ≤ _; omega⟩, rfl, by simp [mentsOne]⟩, fun l' es' hl he => ?_⟩
    obtain rfl := app_o he
    obtain rfl : l' = (ops ++ [o]).length := by rw [hl]; simp
    conv => whnf
    refine ⟨by kernel_rfl, 250 - (ops.length + 1), by omega, _, ops ++ [o], ⟨?_, by simp, hI.next (by omega) hr⟩, rfl⟩
    rw [e2, logB_snoc, List.length_append, recB_len, eo, hnl]
    omega
end Go.Eng.T
