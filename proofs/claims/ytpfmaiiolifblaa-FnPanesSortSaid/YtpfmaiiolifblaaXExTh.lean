/- Expressions, in plain Lean. -/
namespace Go.Eng
def exTakes (o : Int) : Int := if o ≤ 3 then 0 else if o = 11 then 1 else 2
theorem exTakes_b (o : Int) : 0 ≤ exTakes o ∧ exTakes o ≤ 2 := by unfold exTakes; split <;> (try split) <;> omega
def exBad (t : Int × Int) (now : Int) : Prop := t.1 < 0 ∨ 11 < t.1 ∨ (t.1 ≠ 0 ∧ t.2 ≠ 0) ∨ now < exTakes t.1
instance (t : Int × Int) (now : Int) : Decidable (exBad t now) := by unfold exBad; exact inferInstance
def exDep : List (Int × Int) → Int → Int → Int
  | [], now, most => if now = 1 then most else -1
  | t :: x, now, most => if exBad t now then -1 else exDep x (now + 1 - exTakes t.1) (max most (now + 1 - exTakes t.1))
def exDepth (x : List (Int × Int)) : Int := if x.length < 1 ∨ 20 < x.length then -1 else exDep x 0 0
theorem exDep_most : ∀ (x : List (Int × Int)) (now most : Int), exDep x now most = -1 ∨ most ≤ exDep x now most
  | [], now, most => by unfold exDep; split <;> omega
  | t :: x, now, most => by
    unfold exDep
    split
    · exact .inl rfl
    · have := exDep_most x (now + 1 - exTakes t.1) (max most (now + 1 - exTakes t.1))
      omega
theorem exDep_one : ∀ (x : List (Int × Int)) (now most : Int), (x = [] → now ≤ most) → exDep x now most = -1 ∨ 1 ≤ exDep x now most
  | [], now, most, h => by have := h rfl; unfold exDep; split <;> omega
  | t :: x, now, most, _ => by
    unfold exDep
    split
    · exact .inl rfl
    · exact exDep_one x _ _ (fun _ => by omega)
theorem exDepth_one (x : List (Int × Int)) : exDepth x = -1 ∨ 1 ≤ exDepth x := by
  unfold exDepth
  split
  · exact .inl rfl
  · refine exDep_one x 0 0 (fun _ => by omega)

/-- What an operation makes of two numbers, exactly. -/
def exTwo (o a b : Int) : Int :=
  if o = 4 then a + b else if o = 5 then a - b else if o = 6 then a * b else if o = 7 then a.tdiv b
  else if o = 8 then (if a < b then 1 else 0) else if o = 9 then (if a = b then 1 else 0) else (if a ≠ 0 ∧ b ≠ 0 then 1 else 0)
/-- Its code. -/
def exCode (o a b : Int) : Int :=
  if o = 7 ∧ b = 0 then 3 else if -9223372036854775808 ≤ exTwo o a b ∧ exTwo o a b ≤ 9223372036854775807 then 0 else 2
/-- The rest of an expression, over a pile (its top at the end). -/
def exRun (key val time : Int) : List (Int × Int) → List Int → Int × Int
  | [], st => (st.getD 0 0, 0)
  | t :: x, st =>
    if t.1 = 0 then exRun key val time x (st ++ [t.2]) else if t.1 = 1 then exRun key val time x (st ++ [key])
    else if t.1 = 2 then exRun key val time x (st ++ [val]) else if t.1 = 3 then exRun key val time x (st ++ [time])
    else if t.1 = 11 then exRun key val time x (st.set (st.length - 1) (if st.getD (st.length - 1) 0 = 0 then 1 else 0))
    else if exCode t.1 (st.getD (st.length - 2) 0) (st.getD (st.length - 1) 0) = 0 then exRun key val time x (st.take (st.length - 2) ++ [exTwo t.1 (st.getD (st.length - 2) 0) (st.getD (st.length - 1) 0)])
    else (0, exCode t.1 (st.getD (st.length - 2) 0) (st.getD (st.length - 1) 0))
def exEval (key val time : Int) (x : List (Int × Int)) : Int × Int := if exDepth x = -1 then (0, 1) else exRun key val time x []
end Go.Eng
