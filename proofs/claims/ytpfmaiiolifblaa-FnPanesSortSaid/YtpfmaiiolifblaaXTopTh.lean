/- The greatest numbers of a list, in plain Lean. -/
namespace Go.Eng
open List
/-- A list in descending order. -/
def sd (l : List Int) : List Int := l.mergeSort fun a b => decide (b ≤ a)
theorem sd_sorted (l : List Int) : (sd l).Pairwise fun a b => b ≤ a := by
  have h := pairwise_mergeSort (le := fun a b : Int => decide (b ≤ a)) (fun a b c h1 h2 => by simp only [decide_eq_true_iff] at *; omega) (fun a b => by simp only [Bool.or_eq_true, decide_eq_true_iff]; omega) l
  exact h.imp fun h => by simpa using h
theorem sd_perm (l : List Int) : sd l ~ l := mergeSort_perm l _
theorem sd_eq {l m : List Int} (hp : l ~ m) (hs : m.Pairwise fun a b => b ≤ a) : sd l = m :=
  Perm.eq_of_pairwise (le := fun a b : Int => b ≤ a) (fun a b _ _ h1 h2 => by omega) (sd_sorted l) hs ((sd_perm l).trans hp)
theorem sd_congr {l m : List Int} (hp : l ~ m) : sd l = sd m := sd_eq (hp.trans (sd_perm m).symm) (sd_sorted m)
def top4 (l : List Int) : List Int := (sd l).take 4
theorem top4_congr {l m : List Int} (hp : l ~ m) : top4 l = top4 m := by unfold top4; rw [sd_congr hp]
theorem sd_length (l : List Int) : (sd l).length = l.length := (sd_perm l).length_eq
theorem top4_length (l : List Int) : (top4 l).length = min 4 l.length := by unfold top4; rw [length_take, sd_length]
/-- The greatest one stands in front. -/
theorem sd_max {l : List Int} {i : Nat} (h : i < l.length) (hm : ∀ x ∈ l, x ≤ l.getD i default) : sd l = l.getD i default :: sd (l.take i ++ l.drop (i + 1)) := by
  have e : l.getD i default = l[i] := by rw [getD_eq_getElem?_getD, getElem?_eq_getElem h]; rfl
  have hp : l ~ l[i] :: (l.take i ++ l.drop (i + 1)) := by
    have h1 : l = l.take i ++ l[i] :: l.drop (i + 1) := by rw [← drop_eq_getElem_cons h, take_append_drop]
    exact Perm.trans (Perm.of_eq h1) perm_middle
  rw [e] at hm ⊢
  refine sd_eq (hp.trans ((sd_perm _).symm.cons _)) ?_
  rw [pairwise_cons]
  refine ⟨fun x hx => hm x ?_, sd_sorted _⟩
  have := (sd_perm _).mem_iff.1 hx
  exact hp.mem_iff.2 (mem_cons_of_mem _ this)
theorem sd_split (x : Int) (l : List Int) : sd l = (sd l).filter (fun y => decide (x ≤ y)) ++ (sd l).filter (fun y => !decide (x ≤ y)) := by
  have h0 := sd_sorted l
  refine Perm.eq_of_pairwise (le := fun a b : Int => b ≤ a) (fun a b _ _ h1 h2 => by omega) h0 ?_ (filter_append_perm _ _).symm
  rw [pairwise_append]
  refine ⟨h0.filter _, h0.filter _, fun a ha b hb => ?_⟩
  simp only [mem_filter, decide_eq_true_iff, Bool.not_eq_true', decide_eq_false_iff_not] at ha hb
  omega
theorem sd_ins (x : Int) (l : List Int) : sd (x :: l) = (sd l).filter (fun y => decide (x ≤ y)) ++ x :: (sd l).filter (fun y => !decide (x ≤ y)) := by
  have h0 := sd_sorted l
  refine sd_eq ?_ ?_
  · exact (((sd_perm l).symm.trans (filter_append_perm (fun y => decide (x ≤ y)) _).symm).cons x).trans perm_middle.symm
  · rw [pairwise_append]
    refine ⟨h0.filter _, ?_, fun a ha b hb => ?_⟩
    · rw [pairwise_cons]
      refine ⟨fun a ha => ?_, h0.filter _⟩
      simp only [mem_filter, Bool.not_eq_true', decide_eq_false_iff_not] at ha
      omega
    · simp only [mem_filter, decide_eq_true_iff] at ha
      rcases mem_cons.1 hb with rfl | hb
      · exact ha.2
      · simp only [mem_filter, Bool.not_eq_true', decide_eq_false_iff_not] at hb
        omega
theorem top4_ins {x : Int} {l : List Int} (h : 4 ≤ (l.filter fun y => decide (x ≤ y)).length) : top4 (x :: l) = top4 l := by
  have h' : 4 ≤ ((sd l).filter fun y => decide (x ≤ y)).length := by rw [((sd_perm l).filter _).length_eq]; exact h
  unfold top4
  rw [sd_ins, take_append_of_le_length h']
  conv => rhs; rw [sd_split x l, take_append_of_le_length h']
theorem top4_drop {t : List Int} (ht : 4 ≤ t.length) : ∀ (r b : List Int), (∀ x ∈ r, ∀ y ∈ t, x ≤ y) → top4 (t ++ (r ++ b)) = top4 (t ++ b)
  | [], b, _ => rfl
  | x :: r, b, h => by
    have h1 : t ++ (x :: r ++ b) ~ x :: (t ++ (r ++ b)) := perm_middle
    rw [top4_congr h1, top4_ins, top4_drop ht r b fun y hy => h y (mem_cons_of_mem _ hy)]
    rw [filter_append, length_append]
    have : t.filter (fun y => decide (x ≤ y)) = t := by
      rw [filter_eq_self]
      intro y hy
      rw [decide_eq_true_iff]
      exact h x mem_cons_self y hy
    rw [this]
    omega
theorem top4_top4 (a b : List Int) : top4 (top4 a ++ b) = top4 (a ++ b) := by
  have hp : a ++ b ~ top4 a ++ ((sd a).drop 4 ++ b) := by
    rw [← append_assoc]
    unfold top4
    rw [take_append_drop]
    exact (sd_perm a).symm.append_right b
  rw [top4_congr hp]
  by_cases h : 4 ≤ (sd a).length
  · refine (top4_drop (by unfold top4; rw [length_take]; omega) _ _ fun x hx y hy => ?_).symm
    have := sd_sorted a
    rw [← take_append_drop 4 (sd a), pairwise_append] at this
    exact this.2.2 y hy x hx
  · rw [drop_eq_nil_of_le (by omega)]; rfl
theorem top4_self {l : List Int} (hs : l.Pairwise fun a b => b ≤ a) (h : l.length ≤ 4) : top4 l = l := by
  unfold top4
  rw [sd_eq (Perm.refl l) hs, take_of_length_le h]
theorem top4_sorted (l : List Int) : (top4 l).Pairwise fun a b => b ≤ a := (sd_sorted l).sublist (take_sublist _ _)
end Go.Eng

/- Aggregates, in plain Lean. -/
namespace Go.Eng
structure Ag where
  n : Int
  s : Int
  mn : Int
  mx : Int
  top : List Int
instance : Inhabited Ag := ⟨⟨0, 0, 0, 0, []⟩⟩
def Ag0 : Ag := ⟨0, 0, 0, 0, []⟩
def sumL (l : List Int) : Int := l.foldl (· + ·) 0
def minL : List Int → Int
  | [] => 0
  | x :: l => l.foldl min x
def maxL : List Int → Int
  | [] => 0
  | x :: l => l.foldl max x
/-- The aggregate of a list. -/
def agOf (l : List Int) : Ag := ⟨l.length, sumL l, minL l, maxL l, top4 l⟩
def B64 (n : Int) : Prop := -9223372036854775808 ≤ n ∧ n ≤ 9223372036854775807
/-- An aggregate may be that of some list. -/
def AgOk (a : Ag) : Prop :=
  (0 ≤ a.n ∧ a.n ≤ 1000000) ∧ (a.top.length : Int) = min a.n 4 ∧
  (a.n = 0 → a.s = 0 ∧ a.mn = 0 ∧ a.mx = 0) ∧
  (1 ≤ a.n → (a.top.Pairwise fun x y => y ≤ x) ∧ a.top.getD 0 0 = a.mx ∧ a.mn ≤ a.top.getD (a.top.length - 1) 0 ∧
    (a.n ≤ 4 → a.mn = a.top.getD (a.top.length - 1) 0 ∧ a.s = sumL a.top) ∧
    (5 ≤ a.n → sumL a.top + (a.n - 4) * a.mn ≤ a.s ∧ a.s ≤ sumL a.top + a.mn + (a.n - 5) * a.top.getD 3 0))
theorem foldl_add (l : List Int) : ∀ x, l.foldl (· + ·) x = x + sumL l := by
  induction l with
  | nil => intro x; simp [sumL]
  | cons y l ih => intro x; unfold sumL; simp only [List.foldl_cons]; rw [ih, ih (0 + y)]; omega
theorem sumL_cons (x : Int) (l : List Int) : sumL (x :: l) = x + sumL l := by unfold sumL; simp only [List.foldl_cons]; rw [foldl_add]; unfold sumL; omega
theorem sumL_append (a b : List Int) : sumL (a ++ b) = sumL a + sumL b := by
  induction a with
  | nil => simp [sumL]
  | cons x a ih => rw [List.cons_append, sumL_cons, sumL_cons, ih]; omega
theorem sumL_perm {a b : List Int} (h : List.Perm a b) : sumL a = sumL b := by
  induction h with
  | nil => rfl
  | cons x _ ih => rw [sumL_cons, sumL_cons, ih]
  | swap x y l => simp only [sumL_cons]; omega
  | trans _ _ h1 h2 => rw [h1, h2]
theorem foldl_min (l : List Int) : ∀ x y, l.foldl min (min x y) = min x (l.foldl min y) := by
  induction l with
  | nil => intro x y; rfl
  | cons z l ih => intro x y; simp only [List.foldl_cons]; rw [← ih]; congr 1; omega
theorem foldl_max (l : List Int) : ∀ x y, l.foldl max (max x y) = max x (l.foldl max y) := by
  induction l with
  | nil => intro x y; rfl
  | cons z l ih => intro x y; simp only [List.foldl_cons]; rw [← ih]; congr 1; omega
theorem minL_append {a b : List Int} (ha : a ≠ []) (hb : b ≠ []) : minL (a ++ b) = min (minL a) (minL b) := by
  cases a with
  | nil => exact absurd rfl ha
  | cons x a => cases b with
    | nil => exact absurd rfl hb
    | cons y b => simp only [minL, List.cons_append, List.foldl_append, List.foldl_cons]; rw [foldl_min]
theorem maxL_append {a b : List Int} (ha : a ≠ []) (hb : b ≠ []) : maxL (a ++ b) = max (maxL a) (maxL b) := by
  cases a with
  | nil => exact absurd rfl ha
  | cons x a => cases b with
    | nil => exact absurd rfl hb
    | cons y b => simp only [maxL, List.cons_append, List.foldl_append, List.foldl_cons]; rw [foldl_max]
theorem minL_le : ∀ {l : List Int} {x : Int}, x ∈ l → minL l ≤ x
  | y :: l, x, h => by
    have key : ∀ (l : List Int) (y x : Int), x = y ∨ x ∈ l → l.foldl min y ≤ x := by
      intro l
      induction l with
      | nil => intro y x h; rcases h with rfl | h; exact Int.le_refl _; cases h
      | cons z l ih =>
        intro y x h
        simp only [List.foldl_cons]
        rcases h with rfl | h
        · have := ih (min x z) (min x z) (.inl rfl); omega
        · rcases List.mem_cons.1 h with rfl | h
          · have := ih (min y x) (min y x) (.inl rfl); omega
          · exact ih _ _ (.inr h)
    exact key l y x (List.mem_cons.1 h)
theorem le_maxL : ∀ {l : List Int} {x : Int}, x ∈ l → x ≤ maxL l
  | y :: l, x, h => by
    have key : ∀ (l : List Int) (y x : Int), x = y ∨ x ∈ l → x ≤ l.foldl max y := by
      intro l
      induction l with
      | nil => intro y x h; rcases h with rfl | h; exact Int.le_refl _; cases h
      | cons z l ih =>
        intro y x h
        simp only [List.foldl_cons]
        rcases h with rfl | h
        · have := ih (max x z) (max x z) (.inl rfl); omega
        · rcases List.mem_cons.1 h with rfl | h
          · have := ih (max y x) (max y x) (.inl rfl); omega
          · exact ih _ _ (.inr h)
    exact key l y x (List.mem_cons.1 h)
theorem minL_mem : ∀ {l : List Int}, l ≠ [] → minL l ∈ l
  | y :: l, _ => by
    have key : ∀ (l : List Int) (y : Int), l.foldl min y = y ∨ l.foldl min y ∈ l := by
      intro l
      induction l with
      | nil => intro y; exact .inl rfl
      | cons z l ih =>
        intro y
        simp only [List.foldl_cons]
        rcases ih (min y z) with h | h
        · rw [h]
          by_cases c : y ≤ z
          · rw [Int.min_eq_left c]; exact .inl rfl
          · rw [Int.min_eq_right (by omega)]; exact .inr List.mem_cons_self
        · exact .inr (List.mem_cons_of_mem _ h)
    rcases key l y with h | h
    · show l.foldl min y ∈ _; rw [h]; exact List.mem_cons_self
    · exact List.mem_cons_of_mem _ h
theorem maxL_mem : ∀ {l : List Int}, l ≠ [] → maxL l ∈ l
  | y :: l, _ => by
    have key : ∀ (l : List Int) (y : Int), l.foldl max y = y ∨ l.foldl max y ∈ l := by
      intro l
      induction l with
      | nil => intro y; exact .inl rfl
      | cons z l ih =>
        intro y
        simp only [List.foldl_cons]
        rcases ih (max y z) with h | h
        · rw [h]
          by_cases c : y ≤ z
          · rw [Int.max_eq_right c]; exact .inr List.mem_cons_self
          · rw [Int.max_eq_left (by omega)]; exact .inl rfl
        · exact .inr (List.mem_cons_of_mem _ h)
    rcases key l y with h | h
    · show l.foldl max y ∈ _; rw [h]; exact List.mem_cons_self
    · exact List.mem_cons_of_mem _ h
theorem top4_head {l : List Int} (h : l ≠ []) : (top4 l).getD 0 0 = maxL l := by
  have hl : 0 < (sd l).length := by rw [sd_length]; cases l; exact absurd rfl h; simp
  unfold top4
  cases e : sd l with
  | nil => rw [e] at hl; simp at hl
  | cons x r =>
    simp only [List.take_succ_cons, List.getD_cons_zero]
    have hs := sd_sorted l
    have hp := sd_perm l
    rw [e] at hs hp
    have h1 := le_maxL (hp.mem_iff.1 List.mem_cons_self)
    have h2 := hp.mem_iff.2 (maxL_mem h)
    rcases List.mem_cons.1 h2 with h2 | h2
    · omega
    · have := (List.pairwise_cons.1 hs).1 _ h2; omega
theorem sum_le {l : List Int} {m : Int} (h : ∀ x ∈ l, x ≤ m) : sumL l ≤ l.length * m := by
  induction l with
  | nil => simp [sumL]
  | cons x l ih =>
    rw [sumL_cons, List.length_cons]
    have h1 := h x List.mem_cons_self
    have h2 := ih fun y hy => h y (List.mem_cons_of_mem _ hy)
    have : ((l.length + 1 : Nat) : Int) * m = l.length * m + m := by rw [Int.natCast_add, Int.add_mul]; omega
    omega
theorem le_sum {l : List Int} {m : Int} (h : ∀ x ∈ l, m ≤ x) : l.length * m ≤ sumL l := by
  induction l with
  | nil => simp [sumL]
  | cons x l ih =>
    rw [sumL_cons, List.length_cons]
    have h1 := h x List.mem_cons_self
    have h2 := ih fun y hy => h y (List.mem_cons_of_mem _ hy)
    have : ((l.length + 1 : Nat) : Int) * m = l.length * m + m := by rw [Int.natCast_add, Int.add_mul]; omega
    omega
theorem agOf_join {a b : List Int} (ha : a ≠ []) (hb : b ≠ []) : agOf (a ++ b) = ⟨(agOf a).n + (agOf b).n, (agOf a).s + (agOf b).s, min (agOf a).mn (agOf b).mn, max (agOf a).mx (agOf b).mx, top4 ((agOf a).top ++ (agOf b).top)⟩ := by
  unfold agOf
  dsimp only
  rw [sumL_append, minL_append ha hb, maxL_append ha hb, List.length_append, Int.natCast_add, top4_top4, top4_congr (List.perm_append_comm (l₁ := a) (l₂ := top4 b)), top4_top4, top4_congr (List.perm_append_comm (l₁ := a) (l₂ := b))]
theorem last_min {l m : List Int} (hs : m.Pairwise fun a b => b ≤ a) (hm : m ≠ []) (hx : ∀ x ∈ l, minL l ≤ x) (hmem : minL l ∈ m) (hsub : ∀ x ∈ m, x ∈ l) : m.getLast hm = minL l := by
  have h1 : minL l ≤ m.getLast hm := hx _ (hsub _ (List.getLast_mem hm))
  have h2 : m.getLast hm ≤ minL l := by
    have e := List.dropLast_concat_getLast hm
    rw [← e, List.pairwise_append] at hs
    rw [← e] at hmem
    rcases List.mem_append.1 hmem with h | h
    · exact hs.2.2 _ h _ (List.mem_singleton.2 rfl)
    · rw [List.mem_singleton.1 h]; exact Int.le_refl _
  omega
theorem getD_last {m : List Int} (hm : m ≠ []) : m.getD (m.length - 1) 0 = m.getLast hm := by
  have : 0 < m.length := List.length_pos_iff.2 hm
  rw [List.getD_eq_getElem?_getD, List.getElem?_eq_getElem (by omega), List.getLast_eq_getElem]; rfl
theorem agOf_ok {l : List Int} (h : l ≠ []) (hl : l.length ≤ 1000000) : AgOk (agOf l) := by
  have hpos : 0 < l.length := List.length_pos_iff.2 h
  have hsl := sd_length l
  have hp := sd_perm l
  have hs := sd_sorted l
  have hmin : ∀ x ∈ l, minL l ≤ x := fun x hx => minL_le hx
  have htl := top4_length l
  have htne : top4 l ≠ [] := fun e => by rw [e] at htl; simp at htl; omega
  have htm : ∀ x ∈ top4 l, x ∈ l := fun x hx => hp.mem_iff.1 (List.mem_of_mem_take hx)
  unfold AgOk agOf
  dsimp only
  refine ⟨by omega, by omega, fun hn => absurd hn (by omega), fun _ => ⟨top4_sorted l, top4_head h, ?_, fun hn => ?_, fun hn => ?_⟩⟩
  · rw [getD_last htne]; exact hmin _ (htm _ (List.getLast_mem htne))
  · have e : top4 l = sd l := by unfold top4; rw [List.take_of_length_le (by omega)]
    refine ⟨?_, by rw [e]; exact (sumL_perm hp).symm⟩
    rw [getD_last htne]
    refine (last_min (top4_sorted l) htne hmin ?_ htm).symm
    rw [e]; exact hp.mem_iff.2 (minL_mem h)
  · have hsum : sumL l = sumL (top4 l) + sumL ((sd l).drop 4) := by
      rw [← sumL_append]; unfold top4; rw [List.take_append_drop]; exact (sumL_perm hp).symm
    have hdl : ((sd l).drop 4).length = l.length - 4 := by rw [List.length_drop]; omega
    have hdne : (sd l).drop 4 ≠ [] := fun e => by rw [e] at hdl; simp at hdl; omega
    have hlow := le_sum (l := (sd l).drop 4) (m := minL l) fun x hx => hmin x (hp.mem_iff.1 (List.mem_of_mem_drop hx))
    have hsp := hs
    rw [← List.take_append_drop 4 (sd l), List.pairwise_append] at hsp
    have hlast : ((sd l).drop 4).getLast hdne = minL l := by
      have e1 : (sd l) ≠ [] := fun e => by rw [e] at hsl; simp at hsl; omega
      have := last_min hs e1 hmin (hp.mem_iff.2 (minL_mem h)) (fun x hx => hp.mem_iff.1 hx)
      rw [← this, List.getLast_drop]
    have h3 : (top4 l).getD 3 0 ∈ (sd l).take 4 := by
      have : 3 < (top4 l).length := by omega
      rw [List.getD_eq_getElem?_getD, List.getElem?_eq_getElem this]; exact List.getElem_mem this
    have hdr := List.dropLast_concat_getLast hdne
    have hup := sum_le (l := ((sd l).drop 4).dropLast) (m := (top4 l).getD 3 0) fun x hx => hsp.2.2 _ h3 _ ((List.dropLast_sublist _).mem hx)
    have hs2 : sumL ((sd l).drop 4) = sumL ((sd l).drop 4).dropLast + minL l := by
      conv => lhs; rw [← hdr]
      rw [sumL_append, hlast, sumL_cons]; simp [sumL]
    rw [List.length_dropLast, hdl] at hup
    rw [hdl] at hlow
    have c1 : ((l.length - 4 : Nat) : Int) = l.length - 4 := by omega
    have c2 : ((l.length - 4 - 1 : Nat) : Int) = l.length - 5 := by omega
    rw [c1] at hlow; rw [c2] at hup
    omega
end Go.Eng
