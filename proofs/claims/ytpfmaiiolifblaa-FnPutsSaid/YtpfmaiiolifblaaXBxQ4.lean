import Derived.Test.YtpfmaiiolifblaaXBxQ3
import Derived.Test.YtpfmaiiolifblaaXBxP4
namespace Go.Eng.T
open Go.Proofs Go.Eng
set_option maxRecDepth 100000
set_option maxHeartbeats 0

def bxZ : Bx := ⟨0, 0, 0, 0, [], []⟩
abbrev WkK (K : V → List Obj → List Obj → Prop) (v : V) (o n : List Obj) : Prop := ∃ v', (∀ {F : Cells} {m : Mem} {pl : Places} {cv : Value}, RepV F m pl v cv → RepV F m pl v' cv) ∧ K v' o n
theorem frzTL {c : Bx} {t : Bool} {K : V → List Obj → List Obj → Prop} (k : K (.tup [encBx c, bv t]) [] []) : FrO (FrO (WkK K)) (.tup [bxL c, bv t]) [] [rowIt c.its, rowRc c.rcs] :=
  .inl ⟨.tup [.agg [iv c.cap, iv c.aud, iv c.nx, iv c.gp, .ls (1, 0) 10 0 c.its.length, .is 3 (c.rcs.map encRc)], bv t], [rowIt c.its], 3, _, rfl, .tup (.agg (.cons (.same (by simp [V.ments])) (.cons (.same (by simp [V.ments])) (.cons (.same (by simp [V.ments])) (.cons (.same (by simp [V.ments])) (.cons (.same (by simp [V.ments])) (.cons (.all (by simp)) .nil)))))) (.cons (.same (by simp [V.ments])) .nil)), by simp [Obj.ments],
    .inl ⟨.tup [encBx c, bv t], [], 10, _, rfl, .tup (.agg (.cons (.same (by simp [V.ments])) (.cons (.same (by simp [V.ments])) (.cons (.same (by simp [V.ments])) (.cons (.same (by simp [V.ments])) (.cons (.all (by simp)) (.cons (.same (by simp [V.ments])) .nil)))))) (.cons (.same (by simp [V.ments])) .nil)), by simp, ⟨_, Wk.refl, k⟩⟩⟩
theorem frzTN {c : Bx} {t : Bool} (hn : c.rcs = []) {K : V → List Obj → List Obj → Prop} (k : K (.tup [encBx c, bv t]) [] []) : FrO (FrO (WkK K)) (.tup [bxN c, bv t]) [] [rowIt c.its] := by
  refine .inl ⟨.tup [.agg [iv c.cap, iv c.aud, iv c.nx, iv c.gp, .is 10 (c.its.map encIt), nilS], bv t], [], 10, _, rfl, .tup (.agg (.cons (.same (by simp [V.ments])) (.cons (.same (by simp [V.ments])) (.cons (.same (by simp [V.ments])) (.cons (.same (by simp [V.ments])) (.cons (.all (by simp)) (.cons (.same (by simp [V.ments])) .nil)))))) (.cons (.same (by simp [V.ments])) .nil)), by simp, .inr ⟨.tup [encBx c, bv t], ?_, k⟩⟩
  have e : encBx c = .agg [iv c.cap, iv c.aud, iv c.nx, iv c.gp, .is 10 (c.its.map encIt), .is 3 []] := by rw [encBx, hn]; rfl
  rw [e]
  intro F m pl cv h
  exact Wk.tup (.cons (Wk.agg (.cons Wk.refl (.cons Wk.refl (.cons Wk.refl (.cons Wk.refl (.cons Wk.refl (.cons Wk.nil .nil))))))) (.cons Wk.refl .nil)) h
theorem frzT0 {K : V → List Obj → List Obj → Prop} (k : K (.tup [encBx bxZ, bv false]) [] []) : FrO (FrO (WkK K)) (.tup [bx0, bv false]) [] [] :=
  .inr (.inr ⟨.tup [encBx bxZ, bv false], Wk.tup (.cons (Wk.agg (.cons Wk.refl (.cons Wk.refl (.cons Wk.refl (.cons Wk.refl (.cons Wk.nil (.cons Wk.nil .nil))))))) (.cons Wk.refl .nil)), k⟩)
theorem PutsS.fz (b : Bx) (l : List Pn) (r : Int) (hb : BxF b) (hl : ∀ p ∈ l, p.v.length ≤ 100000) (hll : l.length ≤ 1000) (hr : I64 r) {K : V → List Obj → List Obj → Prop}
    (h1 : ∀ c, BxOk b → putsB r b l = some c → K (.tup [encBx c, bv true]) [] [])
    (h0 : ¬ BxOk b ∨ putsB r b l = none → K (.tup [encBx bxZ, bv false]) [] []) : AC Try.prog 24 [encBx b, .is 8 (l.map encPn), iv r] [] K :=
  AC.weak (AC.frzO (AC.frzO (PutsS.new b l r hb hl hll hr (fun c h h2 => frzTL (h1 c h h2)) fun h => frzT0 (h0 h))))
theorem PutsI.fz (b : Bx) (l : List Pn) (r : Int) (hb : BxF b) (hl : ∀ p ∈ l, p.v.length ≤ 100000) (hll : l.length ≤ 1000) {K : V → List Obj → List Obj → Prop}
    (h1 : ∀ c, BxOk b → putsB r b l = some c → K (.tup [encBx c, bv true]) [] [])
    (h0 : ¬ BxOk b ∨ putsB r b l = none → K (.tup [encBx bxZ, bv false]) [] []) : AC Try.prog 25 [encBx b, .is 8 (l.map encPn), iv r] [] K :=
  AC.weak (AC.frzO (AC.frzO (PutsI.new b l r hb hl hll (fun c h h2 h3 => frzTN h3 (h1 c h h2)) (fun c h h2 => frzTL (h1 c h h2)) fun h => frzT0 (h0 h))))
theorem PutI.fz (b : Bx) (p : Pn) (r : Int) (hb : BxF b) (hl : p.v.length ≤ 100000) {K : V → List Obj → List Obj → Prop}
    (h1 : ∀ c, BxOk b → putsB r b [p] = some c → K (.tup [encBx c, bv true]) [] [])
    (h0 : ¬ BxOk b ∨ putsB r b [p] = none → K (.tup [encBx bxZ, bv false]) [] []) : AC Try.prog 17 [encBx b, encPn p, iv r] [] K := by
  refine ac_body { imm := immL [(25, [1])], keep := keepL [] } [((997, 0), true), ((5, 0), true), ((6, 0), true), ((8, 0), true), ((12, 0), true)] hm htt Try.func17 rfl (by kernel_rfl) rfl rfl ?_
  repeat' ((conv => whnf); first
    | (refine PutsI.fz b [p] r hb (fun q hq => by rw [List.mem_singleton.1 hq]; exact hl) (by simp) (fun c hok hc => ?_) (fun h => ?_))
    | (refine bF_dec (fun _ => ?_) (fun _ => ?_) <;> try (exfalso; omega))
    | (refine bF_eq (fun _ => ?_) (fun _ => ?_) <;> try (exfalso; omega))
    | (refine bF_ne (fun _ => ?_) (fun _ => ?_) <;> try (exfalso; omega))
    | (refine a64 (by omega) ?_)
    | (refine ix_at rfl (by omega) ?_)
    | (refine ⟨⟨rfl, by omega, by omega⟩, ?_⟩)
    | (refine map_at (by omega) ?_)
    | (refine alen ?_)
    | (refine amin ?_)
    | (refine amax ?_)
    | (refine ⟨⟨rfl, rfl, by simp [V.ments, mentsL]⟩, ?_⟩)
    | (refine map_at0 (by omega) ?_)
    | (refine set_at rfl ?_)
    | (refine map_atI (by omega) ?_)
    | (refine map_atI0 (by omega) ?_)
    | (refine set_atI rfl ?_)
    | (refine ⟨⟨by decide, rfl, by omega, by omega, by omega, by dsimp only; omega⟩, ?_⟩)
    | (refine arem (by omega) ?_)
    | (refine aquo (by omega) (by omega) ?_)
    | (refine au8 ?_)
    | (refine au64 (by omega) ?_)
    | (refine anat ?_)
    | (refine szOk rfl ?_)
    | (refine dvOk rfl (by omega) ?_)
    | (refine nzOk (by decide) ?_)
    | (refine lgOk (by kernel_rfl) ?_)
    | (refine kpOk (by kernel_rfl) ?_)
    | fail)
  all_goals conv => whnf
  · exact h1 c hok hc
  · exact h0 h
end Go.Eng.T
