/- Insertion in place, in plain Lean. -/
import Derived.Test.YtpfmaiiolifblaaXPaneTh
namespace Go.Eng
/-- x stands at place j among S. -/
def insAt (S : List Pn) (x : Pn) (j : Nat) : List Pn := S.take j ++ x :: S.drop j
theorem insAt_lo {S R : List Pn} {x : Pn} {k : Nat} (h : k < S.length) : insAt S x k ++ R = S.take k ++ (x :: S.getD k default :: (S.drop (k + 1) ++ R)) := by
  unfold insAt
  rw [List.drop_eq_getElem_cons h, List.getD_eq_getElem?_getD, List.getElem?_eq_getElem h, List.append_assoc]
  rfl
theorem insAt_hi {S R : List Pn} {x : Pn} {k : Nat} (h : k < S.length) : insAt S x (k + 1) ++ R = S.take k ++ (S.getD k default :: x :: (S.drop (k + 1) ++ R)) := by
  unfold insAt
  rw [List.take_add_one, List.getElem?_eq_getElem h, List.getD_eq_getElem?_getD, List.getElem?_eq_getElem h, List.append_assoc, List.append_assoc]
  rfl
theorem two_get {A T : List Pn} {s x : Pn} {k : Nat} (h : A.length = k) : (A ++ (s :: x :: T)).getD k default = s ∧ (A ++ (s :: x :: T)).getD (k + 1) default = x := by
  subst h
  constructor
  · rw [List.getD_eq_getElem?_getD, List.getElem?_append_right (Nat.le_refl _), Nat.sub_self]; rfl
  · rw [List.getD_eq_getElem?_getD, List.getElem?_append_right (by omega), show A.length + 1 - A.length = 1 by omega]; rfl
theorem two_set {A T : List Pn} {s x : Pn} {k : Nat} (h : A.length = k) : ((A ++ (s :: x :: T)).set (k + 1) s).set k x = A ++ (x :: s :: T) := by
  subst h
  rw [List.set_append_right _ _ (by omega), show A.length + 1 - A.length = 1 by omega, List.set_append_right _ _ (Nat.le_refl _), Nat.sub_self]
  rfl
theorem insAt_len {S : List Pn} {x : Pn} {j : Nat} (h : j ≤ S.length) : (insAt S x j).length = S.length + 1 := by
  unfold insAt
  rw [List.length_append, List.length_cons, List.length_take, List.length_drop]; omega
/-- What the search sees at place j > 0, and what the exchange makes. -/
theorem ins_step {S R : List Pn} {x : Pn} {j : Nat} (h0 : 0 < j) (h : j ≤ S.length) : (insAt S x j ++ R).getD j default = x ∧ (insAt S x j ++ R).getD (j - 1) default = S.getD (j - 1) default ∧ ((insAt S x j ++ R).set j (S.getD (j - 1) default)).set (j - 1) x = insAt S x (j - 1) ++ R := by
  obtain ⟨k, rfl⟩ : ∃ k, j = k + 1 := ⟨j - 1, by omega⟩
  have hk : k < S.length := by omega
  have hl : (S.take k).length = k := by rw [List.length_take]; omega
  simp only [Nat.add_sub_cancel]
  rw [insAt_hi hk, insAt_lo hk]
  obtain ⟨e1, e2⟩ := two_get (T := S.drop (k + 1) ++ R) (s := S.getD k default) (x := x) hl
  exact ⟨e2, e1, two_set hl⟩
theorem ins_full {S : List Pn} {x : Pn} {R : List Pn} : insAt S x S.length ++ R = S ++ x :: R := by
  unfold insAt
  rw [List.take_length, List.drop_length]; simp
theorem ins_done {S : List Pn} {x : Pn} {j : Nat} (h : pnAt x S S.length = j) : insAt S x j = pnIns S x := by
  unfold insAt pnIns; rw [h]
theorem at_step {S : List Pn} {x : Pn} {j : Nat} (h0 : 0 < j) (h : pnLt x (S.getD (j - 1) default) = true) : pnAt x S j = pnAt x S (j - 1) := by
  obtain ⟨k, rfl⟩ : ∃ k, j = k + 1 := ⟨j - 1, by omega⟩
  exact pnAt_swap h
theorem at_stop {S : List Pn} {x : Pn} {j : Nat} (h : j = 0 ∨ pnLt x (S.getD (j - 1) default) = false) : pnAt x S j = j := by
  cases j with
  | zero => rfl
  | succ k =>
    rcases h with h | h
    · omega
    · simp only [Nat.add_sub_cancel] at h
      show (if _ then _ else _) = _
      rw [h]; rfl
/-- One round: the first i are in order, the rest is untouched. -/
theorem round_start {l : List Pn} {i : Nat} (h : i < l.length) : pnSort (l.take i) ++ l.drop i = insAt (pnSort (l.take i)) (l.getD i default) (pnSort (l.take i)).length ++ l.drop (i + 1) := by
  rw [ins_full, List.drop_eq_getElem_cons h, List.getD_eq_getElem?_getD, List.getElem?_eq_getElem h]; rfl
theorem round_end {l : List Pn} {i j : Nat} (h : i < l.length) (hj : pnAt (l.getD i default) (pnSort (l.take i)) (pnSort (l.take i)).length = j) : insAt (pnSort (l.take i)) (l.getD i default) j ++ l.drop (i + 1) = pnSort (l.take (i + 1)) ++ l.drop (i + 1) := by
  rw [ins_done hj, pnSort_take h]
theorem sort_len {l : List Pn} {i : Nat} (h : i ≤ l.length) : (pnSort (l.take i)).length = i := by rw [pnSort_length, List.length_take]; omega
theorem ins_val {l : List Pn} (P : Pn → Prop) {x : Pn} (h : ∀ p ∈ l, P p) (hx : P x) (j : Nat) : ∀ p ∈ insAt l x j, P p := fun p hp => by
  unfold insAt at hp
  rcases List.mem_append.1 hp with hp | hp
  · exact h p (List.mem_of_mem_take hp)
  · rcases List.mem_cons.1 hp with rfl | hp
    · exact hx
    · exact h p (List.mem_of_mem_drop hp)
theorem sort_all (P : Pn → Prop) : ∀ (l m : List Pn), (∀ p ∈ m, P p) → (∀ p ∈ l, P p) → ∀ p ∈ l.foldl pnIns m, P p
  | [], m, hm, _ => hm
  | x :: l, m, hm, hl => sort_all P l (pnIns m x) (by
      have := ins_val P hm (hl x List.mem_cons_self) (pnAt x m m.length)
      rwa [ins_done rfl] at this) fun p hp => hl p (List.mem_cons_of_mem _ hp)
end Go.Eng
