/- A machine of values for the program's code, part 3: the operations that only compute, and that they say what the program's do. -/
import Derived.Test.YtpfmaiiolifblaaXPoll01
namespace Go.Eng
open Go.RowKit

section inv
variable {F : Cells} {m : Mem} {pl : Places} {cv : Value}
theorem RepV.lit_inv {v} (h : RepV F m pl (.lit v) cv) : cv = v := by cases h; rfl
theorem RepV.e0_inv (h : RepV F m pl .e0 cv) : ∃ a, cv = .slice a 0 0 := by cases h <;> exact ⟨_, rfl⟩
theorem RepV.lp_inv {k n i off} (h : RepV F m pl (.lp k n i off) cv) : ∃ p, pl k = some p ∧ p.n = n ∧ cv = .pointer (some ⟨p.b, p.base + i * n + off, none⟩) := by
  cases h with | lp h0 h1 => exact ⟨_, h0, h1, rfl⟩
theorem RepV.ls_inv {k n i len} (h : RepV F m pl (.ls k n i len) cv) : ∃ p a cap, pl k = some p ∧ p.n = n ∧ len ≤ cap ∧ i + cap ≤ p.C ∧ (cap ≠ 0 → a = ⟨p.b, p.base + i * n, none⟩) ∧ cv = .slice (some a) len cap := by
  cases h with | ls h0 h1 h2 h3 h4 => exact ⟨_, _, _, h0, h1, h2, h3, h4, rfl⟩
theorem RepV.agg_inv {vs} (h : RepV F m pl (.agg vs) cv) : ∃ cs : Array Value, cv = .agg cs ∧ cs.size = vs.length ∧ ∀ (i : Nat) x (hi : i < cs.size), vs[i]? = some x → RepV F m pl x cs[i] := by
  cases h with | agg cs h0 h1 => exact ⟨cs, rfl, h0, h1⟩
theorem RepV.tup_inv {vs} (h : RepV F m pl (.tup vs) cv) : ∃ cs : Array Value, cv = .tuple cs ∧ cs.size = vs.length ∧ ∀ (i : Nat) x (hi : i < cs.size), vs[i]? = some x → RepV F m pl x cs[i] := by
  cases h with | tup cs h0 h1 => exact ⟨cs, rfl, h0, h1⟩
theorem RepV.fn_inv {f vs} (h : RepV F m pl (.fn f vs) cv) : ∃ cs : Array Value, cv = .func (.func f) #[] cs ∧ cs.size = vs.length ∧ ∀ (i : Nat) x (hi : i < cs.size), vs[i]? = some x → RepV F m pl x cs[i] := by
  cases h with | fn cs h0 h1 => exact ⟨cs, rfl, h0, h1⟩
theorem RepV.ip_inv {n es i off} (h : RepV F m pl (.ip n es i off) cv) : ∃ b base, ∃ cf : Nat → Nat → Value, (∀ (j : Nat) e, es[j]? = some e → e.cells.length = n) ∧
      (∀ (j : Nat) e (c : Nat) x, es[j]? = some e → e.cells[c]? = some x → scal x = true ∧ F b (base + j * n + c) ∧ m b (base + j * n + c) = some (cf j c)) ∧
      (∀ (j : Nat) e (c : Nat) x, es[j]? = some e → e.cells[c]? = some x → RepV F m noPl x (cf j c)) ∧ cv = .pointer (some ⟨b, base + i * n + off, none⟩) := by
  cases h with | ip cf h0 h1 h2 => exact ⟨_, _, cf, h0, h1, h2, rfl⟩
theorem RepV.is_inv {n es} (h : RepV F m pl (.is n es) cv) : (es = [] ∧ cv = .slice none 0 0) ∨ ∃ a cap, ∃ cf : Nat → Nat → Value, es.length ≤ cap ∧ (es ≠ [] → a.spot = none) ∧ (∀ (j : Nat) e, es[j]? = some e → e.cells.length = n) ∧
      (∀ (j : Nat) e (c : Nat) x, es[j]? = some e → e.cells[c]? = some x → scal x = true ∧ F a.block (a.off + j * n + c) ∧ m a.block (a.off + j * n + c) = some (cf j c)) ∧
      (∀ (j : Nat) e (c : Nat) x, es[j]? = some e → e.cells[c]? = some x → RepV F m noPl x (cf j c)) ∧ cv = .slice (some a) es.length cap := by
  cases h with
  | is cf h0 h00 h1 h2 h3 => exact .inr ⟨_, _, cf, h0, h00, h1, h2, h3, rfl⟩
  | isn => exact .inl ⟨rfl, rfl⟩
end inv

theorem add_none (b o n : Nat) : (⟨b, o, none⟩ : Addr).add n = ⟨b, o + n, none⟩ := by
  unfold Addr.add; split <;> simp_all

def placeV (tt : TT) (fs : List (Nat × TypeId)) (i : Nat) : Option (Nat × Nat) :=
  match fs[i]? with
  | some (off, t) => (tt t).map fun ti => (off, ti.size)
  | none => none

/-- What a load of type t gives, of an element's cells. -/
def loadV (ti : TI) (e : V) (off : Nat) : Option V := partV ti e.cells off

def lenV (tt : TT) (t : TypeId) (x : V) : Option V :=
  match tt t, x with
  | some ⟨.str, _, _, _⟩, .lit (.string s) => some (.lit (.int .i64 s.size))
  | some ⟨.slice _, _, _, _⟩, .is _ es => some (.lit (.int .i64 es.length))
  | some ⟨.slice _, _, _, _⟩, .ls _ _ _ len => some (.lit (.int .i64 len))
  | some ⟨.slice _, _, _, _⟩, .lit (.slice none 0 0) => some (.lit (.int .i64 (0 : Nat)))
  | some ⟨.slice _, _, _, _⟩, .e0 => some (.lit (.int .i64 (0 : Nat)))
  | _, _ => none

def capV (tt : TT) (t : TypeId) (x : V) : Option V :=
  match tt t, x with
  | some ⟨.slice _, _, _, _⟩, .lit (.slice none 0 0) => some (.lit (.int .i64 (0 : Nat)))
  | _, _ => none

def builtinV (tt : TT) (b : Builtin) (ts : List TypeId) (vs : List V) : Option V :=
  match b, ts, vs with
  | .len, [t], [x] => lenV tt t x
  | .cap, [t], [x] => capV tt t x
  | .min, _, [.lit (.int k x), .lit (.int _ y)] => some (.lit (.int k (if y < x then y else x)))
  | .max, _, [.lit (.int k x), .lit (.int _ y)] => some (.lit (.int k (if y > x then y else x)))
  | _, _, _ => none

def pureF (tt : TT) (op : Op) (μ : Operand → V) : Option V :=
  match op with
  | .move x => some (μ x)
  | .assign x => some (μ x)
  | .pick c a b => match μ c with
    | .lit (.bool c) => if c = true then some (μ a) else some (μ b)
    | _ => none
  | .build t parts => match tt t with
    | some ti => match ti.td with
      | .struct fs => if fs.all (fun x => (tt x.2).isSome) = true then (fillV (placeV tt fs) (ti.zero.map fun z => .lit z.val) (parts.toList.map fun p => (p.1, μ p.2))).map .agg else none
      | _ => none
    | none => none
  | .nilCheck x => match μ x with
    | .lp k n i o => some (.lp k n i o)
    | .ip n es i o => some (.ip n es i o)
    | .fn f cs => some (.fn f cs)
    | _ => none
  | .load t a => match tt t, μ a with
    | some ti, .ip _ es i off => match es[i]? with
      | some e => loadV ti e off
      | none => none
    | _, _ => none
  | .binOp op t x y _ => binV tt op t (μ x) (μ y)
  | .unOp op _ x => unV op (μ x)
  | .convert src dst x => match tt src, tt dst, μ x with
    | some ⟨.int _, _, _, _⟩, some ⟨.int k, _, _, _⟩, .lit (.int _ n) => some (.lit (.int k (k.wrap n)))
    | some ⟨.str, _, _, _⟩, some ⟨.str, _, _, _⟩, .lit (.string s) => some (.lit (.string s))
    | _, _, _ => none
  | .makeFunc (.func f) first cap => if first.size = 0 then some (.fn f (cap.toList.map μ)) else none
  | .slice t x lo hi mx => sliceV tt t (μ x) (lo.map μ) (hi.map μ) (mx.map μ)
  | .fieldAddr s x f => match tt s with
    | some ⟨.struct fs, _, _, _⟩ => match fs[f]? with
      | some (off, ft) => match tt ft with
        | some fi => if fi.size = 0 then none else match μ x with
          | .lp k n i o => some (.lp k n i (o + off))
          | .ip n es i o => some (.ip n es i (o + off))
          | _ => none
        | none => none
      | none => none
    | _ => none
  | .field s x f => match tt s with
    | some ⟨.struct fs, _, _, _⟩ => match fs[f]? with
      | some (off, ft) => match tt ft with
        | some fi => match μ x with
          | .agg cs => partV fi cs off
          | _ => none
        | none => none
      | none => none
    | _ => none
  | .indexAddr t x ix => match tt t with
    | some ⟨.slice e, _, _, _⟩ => match tt e with
      | some ei => match μ x, μ ix with
        | .is n es, .lit (.int _ i) => if ei.size = n ∧ 0 ≤ i ∧ i < es.length then some (.ip n es i.toNat 0) else none
        | .ls k n i0 len, .lit (.int _ i) => if ei.size = n ∧ 0 ≤ i ∧ i < len then some (.lp k n (i0 + i.toNat) 0) else none
        | _, _ => none
      | none => none
    | _ => none
  | .index t x ix => match tt t, μ x, μ ix with
    | some ⟨.str, _, _, _⟩, .lit (.string s), .lit (.int _ i) => match (if 0 ≤ i then s[i.toNat]? else none) with
      | some b => some (.lit (.int .u8 b.toNat))
      | none => none
    | _, _, _ => none
  | .extract x i => match μ x with
    | .tup vs => vs[i]?
    | _ => none
  | .call { callee := .builtin b, args, argTypes } => builtinV tt b argTypes.toList (args.toList.map μ)
  | _ => none

section sound
variable {P : Program} {tt : TT} {F : Cells} {w : World} {pl : Places} {ρ : Operand → Value} {μ : Operand → V}

theorem rep_part {m : Mem} {t : TypeId} {ti : TI} {i : TypeInfo} {d : TypeDesc} (hk : TOk P t ti i d) {cs : List V} {ca : Array Value} (hs : ca.size = cs.length)
    (hr : ∀ (i : Nat) x (hi : i < ca.size), cs[i]? = some x → RepV F m pl x ca[i]) {off : Nat} {v : V} (h : partV ti cs off = some v) :
    ∃ cv, (part t ca off).run P w = .ok cv w ∧ RepV F m pl v cv := by
  unfold partV at h
  simp only [part, Sem.run_bind, hk.agg w, Result.andThen]
  split at h
  · rename_i ha
    split at h
    · rename_i hle
      cases h
      refine ⟨_, by simp [ha, hk.sizeOf]; rfl, .agg _ (by simp; omega) (fun j x hj hx => ?_)⟩
      simp only [List.getElem?_take, List.getElem?_drop] at hx
      split at hx
      · have hj' : off + j < ca.size := by simp at hj; omega
        have := hr (off + j) x hj' hx
        simpa using this
      · cases hx
    · cases h
  · rename_i ha
    obtain ⟨h1, h2⟩ := List.getElem?_eq_some_iff.1 h
    have h1' : off < ca.size := by omega
    exact ⟨ca[off], by simp [ha, h1'], hr off v h1' h⟩

theorem rep_one {m : Mem} {v : V} {cv : Value} (h : RepV F m pl v cv) (hs : scal v = true) : cv.oneCell' = true ∧ cv.cells = #[cv] ∧ v.cells = [v] := by
  cases h with
  | un => simp [scal] at hs
  | agg cs h0 h1 => simp [scal] at hs
  | tup cs h0 h1 => simp [scal] at hs
  | lit => cases cv <;> simp [scal] at hs <;> exact ⟨rfl, rfl, rfl⟩
  | e0 => exact ⟨rfl, rfl, rfl⟩
  | e0n => exact ⟨rfl, rfl, rfl⟩
  | isn => exact ⟨rfl, rfl, rfl⟩
  | lp h0 h1 => exact ⟨rfl, rfl, rfl⟩
  | ls h0 h1 h2 h3 h4 => exact ⟨rfl, rfl, rfl⟩
  | ip cf h0 h1 h2 => exact ⟨rfl, rfl, rfl⟩
  | is cf h0 h00 h1 h2 h3 => exact ⟨rfl, rfl, rfl⟩
  | fn cs h0 h1 => exact ⟨rfl, rfl, rfl⟩

theorem rep_cells {m : Mem} {v : V} {cv : Value} (h : RepV F m pl v cv) (hs : v.cells.all scal = true) :
    ∃ vc : Array Value, cv.cells = vc ∧ vc.size = v.cells.length ∧ ∀ (j : Nat) y (hj : j < vc.size), v.cells[j]? = some y → RepV F m pl y vc[j] := by
  by_cases ha : ∃ cs, v = .agg cs
  · obtain ⟨cs, rfl⟩ := ha
    obtain ⟨ca, rfl, h1, h2⟩ := h.agg_inv
    exact ⟨ca, rfl, h1, h2⟩
  · have hv : v.cells = [v] := by cases v <;> first | rfl | exact absurd ⟨_, rfl⟩ ha
    rw [hv] at hs
    obtain ⟨_, h2, _⟩ := rep_one h (by simpa using hs)
    refine ⟨#[cv], h2, by rw [hv]; rfl, fun j y hj hy => ?_⟩
    simp at hj; subst hj
    rw [hv] at hy
    simp only [List.getElem?_cons_zero, Option.some.injEq] at hy; subst hy
    exact h

theorem run_fill {m : Mem} {place placeC : Nat → Option (Nat × Nat)} (hp : ∀ i x, place i = some x → placeC i = some x) : ∀ (ps : List (Nat × Operand)) {cells : List V} {ca : Array Value} {out : List V},
    ca.size = cells.length → (∀ (i : Nat) x (hi : i < ca.size), cells[i]? = some x → RepV F m pl x ca[i]) → (∀ x, RepV F m pl (μ x) (ρ x)) →
    fillV place cells (ps.map fun p => (p.1, μ p.2)) = some out →
    ∃ ca', Instr.fill placeC ca (ps.map fun p => (p.1, ρ p.2)) = some ca' ∧ ca'.size = out.length ∧ ∀ (i : Nat) x (hi : i < ca'.size), out[i]? = some x → RepV F m pl x ca'[i] := by
  intro ps
  induction ps with
  | nil => intro cells ca out hs hr _ h; simp only [List.map_nil, fillV, Option.some.injEq] at h; subst h; exact ⟨ca, rfl, hs, hr⟩
  | cons p ps ih =>
    intro cells ca out hs hr hρ h
    obtain ⟨i, x⟩ := p
    simp only [List.map_cons, fillV] at h
    split at h
    · cases h
    · rename_i off size hpi
      split at h
      · rename_i hc
        obtain ⟨hc1, hc2, hc3⟩ := hc
        -- the value's cells
        have hcells := rep_cells (hρ x) hc3
        obtain ⟨vc, hvc, hvs, hvr⟩ := hcells
        have hpc := hp i (off, size) hpi
        simp only [List.map_cons, Instr.fill, hpc, hvc]
        rw [if_neg (by simp; omega)]
        have key : ∀ (k : Nat) (cur : Array Value), k ≤ vc.size → cur.size = ca.size → 
            (vc.zipIdx.foldl (fun cs (c, j) => cs.setIfInBounds (off + j) c) ca).size = ca.size ∧ ∀ (j : Nat), (vc.zipIdx.foldl (fun cs (c, j) => cs.setIfInBounds (off + j) c) ca)[j]? = if off ≤ j ∧ j < off + vc.size then vc[j - off]? else ca[j]? := by
          intro _ _ _ _
          have gen : ∀ (l : List Value) (s : Nat) (cur : Array Value), off + s + l.length ≤ cur.size →
              ((l.zipIdx s).foldl (fun cs (c, j) => cs.setIfInBounds (off + j) c) cur).size = cur.size ∧
              ∀ (j : Nat), ((l.zipIdx s).foldl (fun cs (c, j) => cs.setIfInBounds (off + j) c) cur)[j]? = if off + s ≤ j ∧ j < off + s + l.length then l[j - (off + s)]? else cur[j]? := by
            intro l
            induction l with
            | nil => intro s cur _; exact ⟨rfl, fun j => by simp; omega⟩
            | cons y t iht =>
              intro s cur hle
              simp only [List.zipIdx_cons, List.foldl_cons]
              simp only [List.length_cons] at hle
              obtain ⟨e1, e2⟩ := iht (s + 1) (cur.setIfInBounds (off + s) y) (by simp; omega)
              refine ⟨by rw [e1]; simp, fun j => ?_⟩
              rw [e2]
              by_cases hj : j = off + s
              · subst hj
                have hlt : off + s < cur.size := by omega
                rw [if_neg (by omega), if_pos (by simp)]
                simp [hlt]
              · by_cases hr : off + (s + 1) ≤ j ∧ j < off + (s + 1) + t.length
                · rw [if_pos hr, if_pos (by simp; omega)]
                  rw [show j - (off + s) = (j - (off + (s + 1))) + 1 by omega]
                  simp
                · rw [if_neg hr, if_neg (by simp; omega), Array.getElem?_setIfInBounds_ne (by omega)]
          have := gen vc.toList 0 ca (by simp; omega)
          rw [← Array.foldl_toList, Array.toList_zipIdx]
          simpa using this
        obtain ⟨k1, k2⟩ := key 0 ca (Nat.zero_le _) rfl
        refine ih (out := out) (cells := cells.take off ++ (μ x).cells ++ cells.drop (off + size)) ?_ ?_ hρ h
        · rw [k1]; simp; omega
        · intro j y hj hy
          have hget := k2 j
          rw [Array.getElem?_eq_getElem hj] at hget
          by_cases hj1 : off ≤ j ∧ j < off + vc.size
          · rw [if_pos hj1] at hget
            rw [List.append_assoc, List.getElem?_append_right (by simp; omega), List.getElem?_append_left (by simp; omega)] at hy
            have hj2 : j - off < vc.size := by omega
            rw [Array.getElem?_eq_getElem hj2] at hget
            have e := Option.some.inj hget
            rw [e]
            refine hvr (j - off) y hj2 ?_
            rw [← hy]; congr 1; simp; omega
          · rw [if_neg hj1] at hget
            have hjc : j < ca.size := by rw [k1] at hj; exact hj
            rw [Array.getElem?_eq_getElem hjc] at hget
            have e := Option.some.inj hget
            rw [e]
            refine hr j y hjc ?_
            rw [← hy]
            by_cases hlo : j < off
            · rw [List.append_assoc, List.getElem?_append_left (by simp; omega)]
              simp [hlo]
            · rw [List.getElem?_append_right (by simp; omega)]
              simp only [List.length_append, List.length_take, List.getElem?_drop]
              congr 1; omega
      · cases h
end sound
end Go.Eng
