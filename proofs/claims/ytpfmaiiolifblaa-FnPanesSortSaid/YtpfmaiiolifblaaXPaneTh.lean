/- Panes in order, in plain Lean. -/
import Derived.Test.YtpfmaiiolifblaaXBoxTh
namespace Go.Eng
def pnLt (p q : Pn) : Bool := if p.q ≠ q.q then decide (p.q < q.q) else if p.k ≠ q.k then decide (p.k < q.k) else if p.f ≠ q.f then decide (p.f < q.f) else decide (p.t < q.t)
theorem pnLt_asymm {p q : Pn} (h : pnLt p q = true) : pnLt q p = false := by
  unfold pnLt at h ⊢
  by_cases c1 : p.q = q.q
  · rw [if_neg (by simpa using c1)] at h; rw [if_neg (by simpa using c1.symm)]
    by_cases c2 : p.k = q.k
    · rw [if_neg (by simpa using c2)] at h; rw [if_neg (by simpa using c2.symm)]
      by_cases c3 : p.f = q.f
      · rw [if_neg (by simpa using c3)] at h; rw [if_neg (by simpa using c3.symm)]
        simp only [decide_eq_true_iff, decide_eq_false_iff_not] at *; omega
      · rw [if_pos c3] at h; rw [if_pos (Ne.symm c3)]
        simp only [decide_eq_true_iff, decide_eq_false_iff_not] at *; omega
    · rw [if_pos c2] at h; rw [if_pos (Ne.symm c2)]
      simp only [decide_eq_true_iff, decide_eq_false_iff_not] at *; omega
  · rw [if_pos c1] at h; rw [if_pos (Ne.symm c1)]
    simp only [decide_eq_true_iff, decide_eq_false_iff_not] at *; omega
/-- Where a pane goes among the first j. -/
def pnAt (x : Pn) (l : List Pn) : Nat → Nat
  | 0 => 0
  | j + 1 => if pnLt x (l.getD j default) then pnAt x l j else j + 1
theorem pnAt_le (x : Pn) (l : List Pn) : ∀ j, pnAt x l j ≤ j
  | 0 => Nat.le_refl _
  | j + 1 => by unfold pnAt; split; exact Nat.le_succ_of_le (pnAt_le x l j); exact Nat.le_refl _
theorem pnAt_lo (x : Pn) (l : List Pn) : ∀ j, 0 < pnAt x l j → pnLt x (l.getD (pnAt x l j - 1) default) = false
  | 0, h => absurd h (by unfold pnAt; omega)
  | j + 1, h => by
    unfold pnAt at h ⊢
    split
    · rename_i c; rw [if_pos c] at h; exact pnAt_lo x l j h
    · rename_i c; simpa using c
theorem pnAt_hi (x : Pn) (l : List Pn) : ∀ j i, pnAt x l j ≤ i → i < j → pnLt x (l.getD i default) = true
  | 0, i, _, h => absurd h (by omega)
  | j + 1, i, h, h2 => by
    unfold pnAt at h
    split at h
    · rename_i c
      by_cases e : i = j
      · subst e; exact c
      · exact pnAt_hi x l j i h (by omega)
    · omega
def pnIns (l : List Pn) (x : Pn) : List Pn := l.take (pnAt x l l.length) ++ x :: l.drop (pnAt x l l.length)
def pnSort (l : List Pn) : List Pn := l.foldl pnIns []
def PnSrt (l : List Pn) : Prop := ∀ i, i + 1 < l.length → pnLt (l.getD (i + 1) default) (l.getD i default) = false
theorem pnIns_length (l : List Pn) (x : Pn) : (pnIns l x).length = l.length + 1 := by
  have := pnAt_le x l l.length
  unfold pnIns
  rw [List.length_append, List.length_cons, List.length_take, List.length_drop]; omega
theorem pnIns_get (l : List Pn) (x : Pn) (i : Nat) : (pnIns l x).getD i default = if i < pnAt x l l.length then l.getD i default else if i = pnAt x l l.length then x else l.getD (i - 1) default := by
  have ha := pnAt_le x l l.length
  unfold pnIns
  rw [List.getD_eq_getElem?_getD, List.getElem?_append, List.length_take, Nat.min_eq_left ha]
  split
  · rename_i h; rw [List.getElem?_take, if_pos h, List.getD_eq_getElem?_getD]
  · split
    · rename_i h; subst h; simp
    · rename_i h1 h2
      rw [show i - pnAt x l l.length = (i - pnAt x l l.length - 1) + 1 by omega, List.getElem?_cons_succ, List.getElem?_drop, List.getD_eq_getElem?_getD]
      congr 2; omega
theorem pnIns_srt {l : List Pn} {x : Pn} (h : PnSrt l) : PnSrt (pnIns l x) := by
  have ha := pnAt_le x l l.length
  intro i hi
  rw [pnIns_length] at hi
  rw [pnIns_get, pnIns_get]
  by_cases c1 : i + 1 < pnAt x l l.length
  · rw [if_pos c1, if_pos (by omega)]; exact h i (by omega)
  · rw [if_neg c1]
    by_cases c2 : i + 1 = pnAt x l l.length
    · rw [if_pos c2, if_pos (by omega)]
      have := pnAt_lo x l l.length (by omega)
      rwa [show pnAt x l l.length - 1 = i by omega] at this
    · rw [if_neg c2, if_neg (by omega)]
      by_cases c3 : i = pnAt x l l.length
      · rw [if_pos c3, show i + 1 - 1 = i by omega]
        exact pnLt_asymm (pnAt_hi x l l.length i (by omega) (by omega))
      · rw [if_neg c3, show i + 1 - 1 = (i - 1) + 1 by omega]
        exact h (i - 1) (by omega)
theorem foldl_srt : ∀ (l m : List Pn), PnSrt m → PnSrt (l.foldl pnIns m)
  | [], _, h => h
  | x :: l, m, h => foldl_srt l _ (pnIns_srt h)
theorem pnSort_srt (l : List Pn) : PnSrt (pnSort l) := foldl_srt l [] (fun i h => absurd h (by simp))
theorem foldl_len : ∀ (l m : List Pn), (l.foldl pnIns m).length = m.length + l.length
  | [], m => by simp
  | x :: l, m => by rw [List.foldl_cons, foldl_len, pnIns_length, List.length_cons]; omega
theorem pnSort_length (l : List Pn) : (pnSort l).length = l.length := by unfold pnSort; rw [foldl_len]; simp
theorem pnIns_last {l : List Pn} {x : Pn} (h : 0 < l.length → pnLt x (l.getD (l.length - 1) default) = false) : pnIns l x = l ++ [x] := by
  have : pnAt x l l.length = l.length := by
    cases e : l.length with
    | zero => rfl
    | succ n => unfold pnAt; have := h (by omega); rw [e] at this; rw [if_neg (by simpa using this)]
  unfold pnIns
  rw [this, List.take_length, List.drop_length]
theorem foldl_id : ∀ (l m : List Pn), PnSrt (m ++ l) → l.foldl pnIns m = m ++ l
  | [], m, _ => by simp
  | x :: l, m, h => by
    rw [List.foldl_cons, pnIns_last (l := m) (x := x), foldl_id l (m ++ [x]) (by rw [List.append_assoc]; exact h), List.append_assoc]; rfl
    intro hm
    have := h (m.length - 1) (by rw [List.length_append, List.length_cons]; omega)
    rw [show m.length - 1 + 1 = m.length by omega] at this
    rw [List.getD_eq_getElem?_getD, List.getElem?_append_right (Nat.le_refl _), Nat.sub_self, List.getElem?_cons_zero, List.getD_eq_getElem?_getD, List.getElem?_append_left (by omega)] at this
    rw [List.getD_eq_getElem?_getD]; exact this
theorem pnSort_id {l : List Pn} (h : PnSrt l) : pnSort l = l := foldl_id l [] h
theorem pnSort_take {l : List Pn} {i : Nat} (h : i < l.length) : pnSort (l.take (i + 1)) = pnIns (pnSort (l.take i)) (l.getD i default) := by
  unfold pnSort
  rw [List.take_add_one, List.getElem?_eq_getElem h, List.foldl_append, List.getD_eq_getElem?_getD, List.getElem?_eq_getElem h]; rfl
/-- Insertion in place: x goes down from place j. -/
theorem pnAt_swap {x : Pn} {l : List Pn} {j : Nat} (h : pnLt x (l.getD j default) = true) : pnAt x l (j + 1) = pnAt x l j := by show (if _ then _ else _) = _; rw [if_pos h]
end Go.Eng
