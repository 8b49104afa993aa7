import Derived.Test.YtenocjjbfkgflaaXSF
import Derived.Test.YtenocjjbfkgflaaXEB
import Derived.Test.YtenocjjbfkgflaaXSA
namespace Go.Eng.T
open Go.Proofs Go.Eng Go.Eng.S
set_option maxRecDepth 100000

/-- A slot whose last complete image has number g. -/
structure Sl (E : List Int) (g : Int) : Prop where
  len : E.length = 7000
  b : Bytes E
  h : ∀ i, i < 3 → E.getD i default = 0
  t : ∀ i, 6996 ≤ i → i < 6999 → E.getD i default = 0
  l : E.getD 6999 default = g
  g0 : 0 ≤ g
  g1 : g ≤ 200
theorem getD_left {α : Type} {a b : List α} {i : Nat} {d : α} (h : i < a.length) : (a ++ b).getD i d = a.getD i d := by
  rw [List.getD_eq_getElem?_getD, List.getElem?_append_left h, List.getD_eq_getElem?_getD]
theorem getD_right {α : Type} {a b : List α} {i n : Nat} {d : α} (h : a.length = n) : (a ++ b).getD (n + i) d = b.getD i d := by
  subst h
  rw [List.getD_eq_getElem?_getD, List.getElem?_append_right (by omega), List.getD_eq_getElem?_getD, Nat.add_sub_cancel_left]
theorem im_parts {g : Int} {ops : List OpR} (h : ImOk g ops) : ∃ M : List Int, M.length = 6992 ∧ imB g ops = four g ++ M ++ four g := by
  refine ⟨[((logB ops).length : Int) / 256, ((logB ops).length : Int) % 256] ++ logB ops ++ List.replicate (6990 - (logB ops).length) 0, ?_, ?_⟩
  · have := h.2.2
    simp only [List.length_append, List.length_cons, List.length_nil, List.length_replicate]; omega
  · simp only [imB, List.append_assoc]
theorem im_head {g : Int} {ops : List OpR} (h : ImOk g ops) {i : Nat} (hi : i < 4) : (imB g ops).getD i default = (four g).getD i default := by
  obtain ⟨M, _, e⟩ := im_parts h
  rw [e, List.append_assoc, getD_left (by show i < 4; exact hi)]
theorem im_tail {g : Int} {ops : List OpR} (h : ImOk g ops) {i : Nat} (hi : i < 4) : (imB g ops).getD (6996 + i) default = (four g).getD i default := by
  obtain ⟨M, hM, e⟩ := im_parts h
  have l : (four g ++ M).length = 6996 := by rw [List.length_append, hM]; rfl
  rw [e, getD_right l]
theorem four_get {g : Int} (h : 0 ≤ g ∧ g ≤ 200) : (four g).getD 0 default = 0 ∧ (four g).getD 1 default = 0 ∧ (four g).getD 2 default = 0 ∧ (four g).getD 3 default = g := by
  simp only [four, List.getD_cons_zero, List.getD_cons_succ]
  omega
theorem img_sl {g : Int} {ops : List OpR} (h : ImOk g ops) (hg : g ≤ 200) : Sl (imB g ops) g := by
  have h1 := h.2.1
  have f := four_get (g := g) ⟨by omega, hg⟩
  refine ⟨imB_len h, img_bytes h, fun i hi => ?_, fun i h1 h2 => ?_, (im_tail h (i := 3) (by omega)).trans f.2.2.2, by omega, hg⟩
  · rw [im_head h (by omega)]
    match i, hi with
    | 0, _ => exact f.1
    | 1, _ => exact f.2.1
    | 2, _ => exact f.2.2.1
  · obtain ⟨j, rfl⟩ : ∃ j, i = 6996 + j := ⟨i - 6996, by omega⟩
    rw [im_tail h (by omega)]
    match j, (show j < 3 by omega) with
    | 0, _ => exact f.1
    | 1, _ => exact f.2.1
    | 2, _ => exact f.2.2.1
theorem sl_img {E : List Int} {e g : Int} {ops : List OpR} (h : Sl E e) (hi : imgOf E = some (g, ops)) : g = e := by
  obtain ⟨h1, h2⟩ := imgOf_some hi
  have hg := h1.2.1
  have t0 := im_tail h1 (i := 1) (by omega)
  have t1 := im_tail h1 (i := 2) (by omega)
  have t2 := im_tail h1 (i := 3) (by omega)
  rw [h2] at t0 t1 t2
  rw [h.t (6996 + 1) (by omega) (by omega)] at t0
  rw [h.t (6996 + 2) (by omega) (by omega)] at t1
  rw [h.l] at t2
  simp only [four, List.getD_cons_zero, List.getD_cons_succ] at t0 t1 t2
  omega
theorem zero_sl : Sl (List.replicate 7000 0) 0 := by
  have z : ∀ i, i < 7000 → (List.replicate 7000 (0 : Int)).getD i default = 0 := fun i hi => by
    rw [List.getD_eq_getElem?_getD, List.getElem?_replicate, if_pos hi]; rfl
  refine ⟨by simp, fun x hx => by rw [List.mem_replicate] at hx; omega, fun i hi => z i (by omega), fun i h1 h2 => z i (by omega), z 6999 (by omega), by omega, by omega⟩
theorem over_get {E d : List Int} {n : Int} (hE : E.length = 7000) (hd : d.length = 7000) (i : Nat) (hi : i < 7000) : (overB E d n).getD i default = if (i : Int) < n then d.getD i default else E.getD i default := by
  unfold overB
  rw [List.getD_eq_getElem?_getD, List.getElem?_append, List.length_take, List.getElem?_take, List.getElem?_drop]
  split
  · rename_i h
    rw [if_pos (by omega), if_pos (by omega), List.getD_eq_getElem?_getD]
  · rename_i h
    rw [if_neg (by omega), List.getD_eq_getElem?_getD]
    congr 2
    omega
theorem over_bytes {E d : List Int} {n : Int} (hE : Bytes E) (hd : Bytes d) : Bytes (overB E d n) := fun x hx => by
  rcases List.mem_append.1 hx with hx | hx
  · exact hd x (List.mem_of_mem_take hx)
  · exact hE x (List.mem_of_mem_drop hx)
theorem over_sl {E : List Int} {e g : Int} {ops : List OpR} {n : Int} (h : Sl E e) (hk : ImOk g ops) (hg : g ≤ 200) (hn : n < 7000) : Sl (overB E (imB g ops) n) e := by
  have s := img_sl hk hg
  have L := imB_len hk
  refine ⟨(over_len (by rw [L, h.len])).trans h.len, over_bytes h.b s.b, fun i hi => ?_, fun i h1 h2 => ?_, ?_, h.g0, h.g1⟩
  · rw [over_get h.len L i (by omega), s.h i hi, h.h i hi]; simp
  · rw [over_get h.len L i (by omega), s.t i h1 h2, h.t i h1 h2]; simp
  · rw [over_get h.len L 6999 (by omega), if_neg (by omega)]; exact h.l
theorem over_full {E d : List Int} {n : Int} (hE : E.length = 7000) (hd : d.length = 7000) (hn : 7000 ≤ n) : overB E d n = d := by
  unfold overB
  rw [show (max 0 (min n (d.length : Int))).toNat = 7000 by omega, List.take_of_length_le (by omega), List.drop_of_length_le (by omega), List.append_nil]
/-- What the slots hold behind some writes: the last complete one. -/
structure SInv (D E : List Int) (gen : Int) (last : List OpR) (gd ge : Int) : Prop where
  d : Sl D gd
  e : Sl E ge
  g : gen ≤ 100
  c : (gen = 0 ∧ gd = 0 ∧ ge = 0 ∧ last = []) ∨ (0 < gen ∧ gd = gen ∧ imgOf D = some (gen, last) ∧ ge < gen) ∨ (0 < gen ∧ ge = gen ∧ imgOf E = some (gen, last) ∧ gd < gen)
theorem SInv.zero : SInv (List.replicate 7000 0) (List.replicate 7000 0) 0 [] 0 0 := ⟨zero_sl, zero_sl, by omega, .inl ⟨rfl, rfl, rfl, rfl⟩⟩
theorem SInv.best {D E : List Int} {gen gd ge : Int} {last : List OpR} (h : SInv D E gen last gd ge) : (gen = 0 ∧ last = [] ∧ bestOf D E = none) ∨ (0 < gen ∧ gd = gen ∧ ge < gen ∧ imgOf D = some (gen, last) ∧ bestOf D E = some (true, gen, last)) ∨ (0 < gen ∧ ge = gen ∧ gd < gen ∧ imgOf E = some (gen, last) ∧ bestOf D E = some (false, gen, last)) := by
  rcases h.c with ⟨rfl, rfl, rfl, rfl⟩ | ⟨h0, h1, h2, h3⟩ | ⟨h0, h1, h2, h3⟩
  · have n1 : imgOf D = none := by
      cases e : imgOf D with
      | none => rfl
      | some p => have := sl_img h.d e; have := (imgOf_some e).1.2.1; omega
    have n2 : imgOf E = none := by
      cases e : imgOf E with
      | none => rfl
      | some p => have := sl_img h.e e; have := (imgOf_some e).1.2.1; omega
    exact .inl ⟨rfl, rfl, by unfold bestOf; rw [n1, n2]; rfl⟩
  · refine .inr (.inl ⟨h0, h1, h3, h2, ?_⟩)
    unfold bestOf
    rw [h2]
    cases e : imgOf E with
    | none => rfl
    | some p =>
      obtain ⟨g, l⟩ := p
      have := sl_img h.e e
      exact if_pos (by omega)
  · refine .inr (.inr ⟨h0, h1, h3, h2, ?_⟩)
    unfold bestOf
    rw [h2]
    cases e : imgOf D with
    | none => rfl
    | some p =>
      obtain ⟨g, l⟩ := p
      have := sl_img h.d e
      exact if_neg (by omega)
theorem SInv.put {D E : List Int} {gen gd ge : Int} {last ops : List OpR} {n : Int} (h : SInv D E gen last gd ge) (hk : ImOk (gen + 1) ops) (hg : gen ≤ 99) : ∃ X Y xd xe, putR D E ops n = some (X, Y) ∧ SInv X Y (if 7000 ≤ n then gen + 1 else gen) (if 7000 ≤ n then ops else last) xd xe := by
  have hb := h.best
  have L := imB_len hk
  have hn : nextOf D E = (decide (0 < gen ∧ gd = gen), gen) := by
    unfold nextOf
    rcases hb with ⟨h0, _, e⟩ | ⟨h0, h1, h2, _, e⟩ | ⟨h0, h1, h2, _, e⟩
    · rw [e, decide_eq_false (by omega), h0]
    · rw [e, decide_eq_true ⟨h0, h1⟩]
    · rw [e, decide_eq_false (by omega)]
  have hp : putR D E ops n = some (putOf D E ops n (decide (0 < gen ∧ gd = gen)) gen) := by
    unfold putR
    rw [hn]
    exact if_pos ⟨⟨h.d.len, h.e.len⟩, hk⟩
  by_cases hf : 0 < gen ∧ gd = gen
  · rw [decide_eq_true hf] at hp
    have hge : ge < gen ∧ imgOf D = some (gen, last) := by
      rcases hb with ⟨h0, _, e⟩ | ⟨h0, h1, h2, h3, e⟩ | ⟨h0, h1, h2, h3, e⟩
      · omega
      · exact ⟨h2, h3⟩
      · omega
    by_cases h7 : 7000 ≤ n
    · refine ⟨D, overB E (imB (gen + 1) ops) n, gd, gen + 1, hp, ?_⟩
      rw [if_pos h7, if_pos h7, over_full h.e.len L h7]
      exact ⟨h.d, img_sl hk (by omega), by omega, .inr (.inr ⟨by omega, rfl, imgOf_of hk rfl, by omega⟩)⟩
    · refine ⟨D, overB E (imB (gen + 1) ops) n, gd, ge, hp, ?_⟩
      rw [if_neg h7, if_neg h7]
      exact ⟨h.d, over_sl h.e hk (by omega) (by omega), by omega, .inr (.inl ⟨hf.1, hf.2, hge.2, hge.1⟩)⟩
  · rw [decide_eq_false hf] at hp
    by_cases h7 : 7000 ≤ n
    · refine ⟨overB D (imB (gen + 1) ops) n, E, gen + 1, ge, hp, ?_⟩
      rw [if_pos h7, if_pos h7, over_full h.d.len L h7]
      refine ⟨img_sl hk (by omega), h.e, by omega, .inr (.inl ⟨?_, rfl, imgOf_of hk rfl, ?_⟩)⟩
      · rcases h.c with h | h | h <;> omega
      · rcases h.c with h | h | h <;> omega
    · refine ⟨overB D (imB (gen + 1) ops) n, E, gd, ge, hp, ?_⟩
      rw [if_neg h7, if_neg h7]
      refine ⟨over_sl h.d hk (by omega) (by omega), h.e, by omega, ?_⟩
      rcases h.c with h | h | h
      · exact .inl h
      · exact absurd ⟨h.1, h.2.1⟩ hf
      · exact .inr (.inr h)
theorem putR_none {D E : List Int} {gen gd ge : Int} {last ops : List OpR} {n : Int} (h : SInv D E gen last gd ge) (hk : ¬ ImOk (gen + 1) ops) : putR D E ops n = none := by
  have hb := h.best
  have hn : (nextOf D E).2 = gen := by
    unfold nextOf
    rcases hb with ⟨h0, _, e⟩ | ⟨h0, h1, h2, _, e⟩ | ⟨h0, h1, h2, _, e⟩
    · rw [e, h0]
    · rw [e]
    · rw [e]
  unfold putR
  exact if_neg fun h => hk (by have := h.2; rwa [hn] at this)
end Go.Eng.T

namespace Go.Eng.T
open Go.Proofs Go.Eng Go.Eng.S
set_option maxRecDepth 100000
set_option maxHeartbeats 0

/-- The drawing cursor. -/
abbrev cur (D : List Int) (p s : Int) : Obj := .arr false 3 [.agg [.is 1 (D.map encB), iv p, iv s]]
structure CurI (D : List Int) (k p s : Int) : Prop where
  d : Bytes D
  l : D.length ≤ 1048576
  p0 : 0 ≤ p
  pk : p ≤ k
  s0 : 0 ≤ s
  s1 : s ≤ 65521
theorem CurI.up {D : List Int} {k k' p s : Int} (h : CurI D k p s) (hk : k ≤ k') : CurI D k' p s := ⟨h.d, h.l, h.p0, Int.le_trans h.pk hk, h.s0, h.s1⟩
theorem Bytes.get {D : List Int} (h : Bytes D) (i : Nat) : 0 ≤ D.getD i default ∧ D.getD i default ≤ 255 := by
  by_cases hi : i < D.length
  · rw [List.getD_eq_getElem?_getD, List.getElem?_eq_getElem hi]
    exact h _ (List.getElem_mem hi)
  · rw [List.getD_eq_getElem?_getD, List.getElem?_eq_none (by omega)]
    exact ⟨by decide, by decide⟩
theorem l01Open.ac (D : List Int) (hd : Bytes D) (hl : D.length ≤ 1048576) {K : V → List Obj → List Obj → Prop} (hK : ∀ s, CurI D 0 0 s → K (.lp (1, 0) 3 0 0) [] [cur D 0 s]) : AC Try.prog 46 [.is 1 (D.map encB)] [] K := by
  refine ac_body (ann []) [((997, 0), true), ((11, 0), true)] hm htt Try.func46 rfl (by kernel_rfl) rfl rfl ?_
  repeat' ((conv => whnf); first
    | (refine bF_dec (fun _ => ?_) (fun _ => ?_) <;> try (exfalso; omega))
    | (refine bF_eq (fun _ => ?_) (fun _ => ?_) <;> try (exfalso; omega))
    | (refine bF_ne (fun _ => ?_) (fun _ => ?_) <;> try (exfalso; omega))
    | (refine a64 (by omega) ?_)
    | (refine ix_at rfl (by omega) ?_)
    | (refine ⟨⟨rfl, by omega, by omega⟩, ?_⟩)
    | (refine map_at (by omega) ?_)
    | (refine alen ?_)
    | (refine amin ?_)
    | (refine amax ?_)
    | (refine ⟨⟨rfl, rfl, by simp [V.ments]⟩, ?_⟩)
    | (refine map_at0 (by omega) ?_)
    | (refine set_at rfl ?_)
    | (refine map_atI (by omega) ?_)
    | (refine map_atI0 (by omega) ?_)
    | (refine set_atI rfl ?_)
    | (refine ⟨⟨by decide, rfl, by omega, by omega, by omega, by dsimp only; omega⟩, ?_⟩)
    | (refine arem (by omega) ?_)
    | (refine aquo (by omega) (by omega) ?_)
    | (refine au8 ?_)
    | (refine au64 (by omega) ?_)
    | (refine anat ?_)
    | (refine szOk rfl ?_)
    | (refine dvOk rfl (by omega) ?_)
    | (refine nzOk (by decide) ?_)
    | (refine lgOk (by kernel_rfl) ?_)
    | (refine kpOk (by kernel_rfl) ?_)
    | fail)
  all_goals conv => whnf
  exact hK _ ⟨hd, hl, by omega, by omega, by omega, by omega⟩
theorem cpick.ac (D : List Int) (k p s n : Int) (hc : CurI D k p s) (hk : k ≤ 1000000) {K : V → List Obj → List Obj → Prop} (hK : ∀ r p' s', CurI D (k + 1) p' s' → 0 ≤ r → (r < n ∨ r = 0) → K (iv r) [cur D p' s'] []) : AC Try.prog 49 [.lp (0,0) 3 0 0, iv n] [cur D p s] K := by
  have hp := hc.p0
  have hp2 := hc.pk
  have hs0 := hc.s0
  have hs1 := hc.s1
  have hl := hc.l
  have hm : (D.map encB).length = D.length := by rw [List.length_map]
  refine ac_body (ann []) [((0,0),true)] Go.Eng.T.hm htt Try.func49 rfl (by kernel_rfl) rfl rfl ?_
  conv => whnf
  refine vif_dec (fun h => ?_) (fun h => ?_)
  · conv => whnf
    exact hK 0 p s ⟨hc.d, hc.l, hp, by omega, hs0, hs1⟩ (by omega) (.inr rfl)
  conv => whnf
  refine ⟨by kernel_rfl, ?_⟩
  conv => whnf
  refine vif_dec (fun h2 => ?_) (fun h2 => ?_)
  · conv => whnf
    refine ⟨⟨rfl, by omega, by omega⟩, ?_⟩
    conv => whnf
    refine ⟨_, map_get (by omega), ?_⟩
    conv => whnf
    refine ⟨by kernel_rfl, ?_⟩
    conv => whnf
    refine ⟨⟨rfl, by omega⟩, ?_⟩
    conv => whnf
    have hb := hc.d.get p.toNat
    have ht := tmod_nn (x := D.getD p.toNat default) (y := n) hb.1 (by omega)
    have e := wrap_i64 (x := D.getD p.toNat default) (by omega)
    refine hK _ _ _ ⟨hc.d, hc.l, ?_, ?_, hs0, hs1⟩ ?_ (.inl ?_)
    · rw [wrap_i64 (by omega)]; omega
    · rw [wrap_i64 (by omega)]; omega
    · rw [e]; exact ht.1
    · rw [e]; exact ht.2
  · conv => whnf
    have ht := tmod_nn (x := s * 1103 + 12345) (y := 65521) (by omega) (by omega)
    have e1 := wrap_i64 (x := s * 1103) (by omega)
    have e2 := wrap_i64 (x := s * 1103 + 12345) (by omega)
    refine vif_dec (fun h3 => ?_) (fun h3 => ?_)
    · conv => whnf
      refine ⟨⟨rfl, by omega⟩, ?_⟩
      conv => whnf
      have hx := tmod_nn (x := p) (y := ((D.map encB).length : Int)) (by omega) (by omega)
      refine ⟨⟨rfl, hx.1, hx.2⟩, ?_⟩
      conv => whnf
      refine ⟨_, map_get hx, ?_⟩
      conv => whnf
      refine ⟨by kernel_rfl, ?_⟩
      conv => whnf
      refine ⟨⟨rfl, by omega⟩, ?_⟩
      conv => whnf
      rw [e1, e2]
      have hb := hc.d.get (p.tmod ((D.map encB).length : Int)).toNat
      generalize D.getD (p.tmod ((D.map encB).length : Int)).toNat default = b at hb ⊢
      generalize Int.tmod (s * 1103 + 12345) 65521 = q at ht ⊢
      have hq := tdiv_nn (x := q) (y := 7) (by omega) (by omega)
      rw [wrap_i64 (x := b) (by omega), wrap_i64 (x := q.tdiv 7) (by omega), wrap_i64 (x := q.tdiv 7 + b) (by omega), wrap_i64 (x := p + 1) (by omega)]
      have hr := tmod_nn (x := q.tdiv 7 + b) (y := n) (by omega) (by omega)
      exact hK _ _ _ ⟨hc.d, hc.l, by omega, by omega, by omega, by omega⟩ hr.1 (.inl hr.2)
    · conv => whnf
      refine ⟨⟨rfl, by omega⟩, ?_⟩
      conv => whnf
      rw [e1, e2, wrap_i64 (x := p + 1) (by omega)]
      exact hK _ _ _ ⟨hc.d, hc.l, by omega, by omega, by omega, by omega⟩ (by simp) (.inr (by simp))
theorem once.ac (D : List Int) (k p s n : Int) (hc : CurI D k p s) (hk : k ≤ 1000000) (hn : -1000000 ≤ n ∧ n ≤ 1000000) {K : V → List Obj → List Obj → Prop} (hK : ∀ r p' s', CurI D (k + 1) p' s' → K (bv r) [cur D p' s'] []) : AC Try.prog 48 [.lp (0,0) 3 0 0, iv n] [cur D p s] K := by
  refine ac_body (ann []) [((997, 0), true), ((0, 0), true)] hm htt Try.func48 rfl (by kernel_rfl) rfl rfl ?_
  repeat' ((conv => whnf); first
    | (refine cpick.ac D _ _ _ n ‹_› (by omega) fun r p' s' hc' h1 h2 => ?_)
    | (refine bF_dec (fun _ => ?_) (fun _ => ?_) <;> try (exfalso; omega))
    | (refine bF_eq (fun _ => ?_) (fun _ => ?_) <;> try (exfalso; omega))
    | (refine bF_ne (fun _ => ?_) (fun _ => ?_) <;> try (exfalso; omega))
    | (refine a64 (by omega) ?_)
    | (refine ix_at rfl (by omega) ?_)
    | (refine ⟨⟨rfl, by omega, by omega⟩, ?_⟩)
    | (refine map_at (by omega) ?_)
    | (refine alen ?_)
    | (refine amin ?_)
    | (refine amax ?_)
    | (refine ⟨⟨rfl, rfl, by simp [V.ments]⟩, ?_⟩)
    | (refine map_at0 (by omega) ?_)
    | (refine set_at rfl ?_)
    | (refine map_atI (by omega) ?_)
    | (refine map_atI0 (by omega) ?_)
    | (refine set_atI rfl ?_)
    | (refine ⟨⟨by decide, rfl, by omega, by omega, by omega, by dsimp only; omega⟩, ?_⟩)
    | (refine arem (by omega) ?_)
    | (refine aquo (by omega) (by omega) ?_)
    | (refine au8 ?_)
    | (refine au64 (by omega) ?_)
    | (refine anat ?_)
    | (refine szOk rfl ?_)
    | (refine dvOk rfl (by omega) ?_)
    | (refine nzOk (by decide) ?_)
    | (refine lgOk (by kernel_rfl) ?_)
    | (refine kpOk (by kernel_rfl) ?_)
    | fail)
  all_goals conv => whnf
  all_goals exact hK _ _ _ ‹_›
theorem raw.ac (D : List Int) (k p s : Int) (hc : CurI D k p s) (hk : k ≤ 900000) {K : V → List Obj → List Obj → Prop} (hK : ∀ r p' s', CurI D (k + 2) p' s' → -9223372036854775808 ≤ r → r ≤ 9223372036854775807 → K (iv r) [cur D p' s'] []) : AC Try.prog 50 [.lp (0,0) 3 0 0] [cur D p s] K := by
  refine ac_body (ann []) [((0, 0), true), ((14, 0), false)] hm htt Try.func50 rfl (by kernel_rfl) rfl rfl ?_
  conv => whnf
  refine cpick.ac D k p s 8 hc (by omega) fun r p' s' hc' h1 h2 => ?_
  conv => whnf
  refine vif_bool (fun q => ?_) (fun q => ?_)
  · conv => whnf
    refine cpick.ac D (k + 1) p' s' 256 hc' (by omega) fun r2 p2 s2 hc2 h3 h4 => ?_
    conv => whnf
    exact hK _ _ _ (hc2.up (by omega)) (by rw [wrap_i64 (by omega)]; omega) (by rw [wrap_i64 (by omega)]; omega)
  conv => whnf
  refine vif_bool (fun q => ?_) (fun q => ?_)
  · conv => whnf
    refine cpick.ac D (k + 1) p' s' 8 hc' (by omega) fun r2 p2 s2 hc2 h3 h4 => ?_
    conv => whnf
    refine ⟨⟨rfl, by omega, by omega⟩, ?_⟩
    conv => whnf
    have h5 : r2 = 0 ∨ r2 = 1 ∨ r2 = 2 ∨ r2 = 3 ∨ r2 = 4 ∨ r2 = 5 ∨ r2 = 6 ∨ r2 = 7 := by omega
    rcases h5 with rfl | rfl | rfl | rfl | rfl | rfl | rfl | rfl
    all_goals
      refine ⟨rfl, _, rfl, ?_⟩
      conv => whnf
      exact hK _ _ _ (hc2.up (by omega)) (by decide) (by decide)
  · conv => whnf
    refine cpick.ac D (k + 1) p' s' 14 hc' (by omega) fun r2 p2 s2 hc2 h3 h4 => ?_
    conv => whnf
    exact hK _ _ _ (hc2.up (by omega)) (by rw [wrap_i64 (by omega)]; omega) (by rw [wrap_i64 (by omega)]; omega)
theorem wide.ac (D : List Int) (k p s n : Int) (hc : CurI D k p s) (hk : k ≤ 900000) (hn : 0 < n) {K : V → List Obj → List Obj → Prop} (hK : ∀ r p' s', CurI D (k + 3) p' s' → 0 ≤ r → r < n → K (iv r) [cur D p' s'] []) : AC Try.prog 91 [.lp (0,0) 3 0 0, iv n] [cur D p s] K := by
  refine ac_body (ann []) [((997, 0), true), ((0, 0), true)] hm htt Try.func91 rfl (by kernel_rfl) rfl rfl ?_
  repeat' ((conv => whnf); first
    | (refine cpick.ac D _ _ _ 256 ‹_› (by omega) fun r p' s' hc' h1 h2 => ?_)
    | (refine aremB (by omega) (by omega) fun r _ _ => ?_)
    | (refine bF_dec (fun _ => ?_) (fun _ => ?_) <;> try (exfalso; omega))
    | (refine bF_eq (fun _ => ?_) (fun _ => ?_) <;> try (exfalso; omega))
    | (refine bF_ne (fun _ => ?_) (fun _ => ?_) <;> try (exfalso; omega))
    | (refine a64 (by omega) ?_)
    | (refine ix_at rfl (by omega) ?_)
    | (refine ⟨⟨rfl, by omega, by omega⟩, ?_⟩)
    | (refine map_at (by omega) ?_)
    | (refine alen ?_)
    | (refine amin ?_)
    | (refine amax ?_)
    | (refine ⟨⟨rfl, rfl, by simp [V.ments]⟩, ?_⟩)
    | (refine map_at0 (by omega) ?_)
    | (refine set_at rfl ?_)
    | (refine map_atI (by omega) ?_)
    | (refine map_atI0 (by omega) ?_)
    | (refine set_atI rfl ?_)
    | (refine ⟨⟨by decide, rfl, by omega, by omega, by omega, by dsimp only; omega⟩, ?_⟩)
    | (refine arem (by omega) ?_)
    | (refine aquo (by omega) (by omega) ?_)
    | (refine au8 ?_)
    | (refine au64 (by omega) ?_)
    | (refine anat ?_)
    | (refine szOk rfl ?_)
    | (refine dvOk rfl (by omega) ?_)
    | (refine nzOk (by decide) ?_)
    | (refine lgOk (by kernel_rfl) ?_)
    | (refine kpOk (by kernel_rfl) ?_)
    | fail)
  all_goals conv => whnf
  exact hK _ _ _ ((by assumption : CurI D (k + 1 + 1 + 1) _ _).up (by omega)) (by omega) (by omega)
def opFew (s n : Int) : OpR := ⟨4, 0, 0, 0, 0, 0, 0, 0, 0, s, n⟩
theorem opFew_good {l : List OpR} {s n : Int} (h : ∀ o ∈ l, o.good) (hs : 0 ≤ s ∧ s < 4) (hn : 0 ≤ n ∧ n ≤ 1000) : ∀ o ∈ l ++ [opFew s n], o.good := fun o ho => by
  rcases List.mem_append.1 ho with ho | ho
  · exact h o ho
  · rw [List.mem_singleton.1 ho]
    refine ⟨.inr (.inr (.inl ⟨rfl, ⟨rfl, rfl, rfl, rfl⟩, ⟨rfl, rfl, rfl, rfl⟩, hs, hn⟩)), fun x hx => ?_⟩
    simp only [opFew, OpR.fs, List.mem_cons, List.not_mem_nil, or_false] at hx
    unfold I64
    rcases hx with rfl | rfl | rfl | rfl | rfl | rfl | rfl | rfl | rfl | rfl | rfl <;> omega
theorem cur_ments {D : List Int} {p s : Int} {j : Nat} : ∀ x ∈ [cur D p s], (1, j) ∉ x.ments := fun x hx => by
  rw [List.mem_singleton.1 hx]; simp [Obj.ments, mentsL, V.ments]
theorem fewL.ac (D : List Int) (k p s : Int) (hc : CurI D k p s) (hk : k ≤ 900000) {K : V → List Obj → List Obj → Prop} (hK : ∀ (ops : List OpR) p' s', CurI D (k + 7) p' s' → ops.length ≤ 3 → (∀ o ∈ ops, o.good) → K (.ls (1, 0) 11 0 ops.length) [cur D p' s'] [rowO ops]) : AC Try.prog 47 [.lp (0,0) 3 0 0] [cur D p s] K := by
  refine ac_body (annW [] [(3, [0, 3, 4], [(0, 0), (21, 1)])] [(3, (21, 1), [21, 7])]) [((997, 0), true), ((0, 0), true), ((7, 0), false), ((20, 0), true), ((21, 0), false), ((21, 1), false)] hm htt Try.func47 rfl (by kernel_rfl) rfl rfl ?_
  repeat' ((conv => whnf); first
    | (refine cpick.ac D _ _ _ 4 ‹_› (by omega) fun r p' s' hc' h1 h2 => ?_)
    | (refine bF_dec (fun _ => ?_) (fun _ => ?_) <;> try (exfalso; omega))
    | (refine bF_eq (fun _ => ?_) (fun _ => ?_) <;> try (exfalso; omega))
    | (refine bF_ne (fun _ => ?_) (fun _ => ?_) <;> try (exfalso; omega))
    | (refine a64 (by omega) ?_)
    | (refine ix_at rfl (by omega) ?_)
    | (refine ⟨⟨rfl, by omega, by omega⟩, ?_⟩)
    | (refine map_at (by omega) ?_)
    | (refine alen ?_)
    | (refine amin ?_)
    | (refine amax ?_)
    | (refine ⟨⟨rfl, rfl, by simp [V.ments]⟩, ?_⟩)
    | (refine map_at0 (by omega) ?_)
    | (refine set_at rfl ?_)
    | (refine map_atI (by omega) ?_)
    | (refine map_atI0 (by omega) ?_)
    | (refine set_atI rfl ?_)
    | (refine ⟨⟨by decide, rfl, by omega, by omega, by omega, by dsimp only; omega⟩, ?_⟩)
    | (refine arem (by omega) ?_)
    | (refine aquo (by omega) (by omega) ?_)
    | (refine au8 ?_)
    | (refine au64 (by omega) ?_)
    | (refine anat ?_)
    | (refine szOk rfl ?_)
    | (refine dvOk rfl (by omega) ?_)
    | (refine nzOk (by decide) ?_)
    | (refine lgOk (by kernel_rfl) ?_)
    | (refine kpOk (by kernel_rfl) ?_)
    | fail)
  all_goals conv => whnf
  refine cwF_loop (fun m st => ∃ (z p s : Int) (l : List OpR), (m = z.toNat ∧ 0 ≤ z ∧ l.length + z ≤ 3 ∧ CurI D (k + 1 + 2 * (3 - z)) p s ∧ ∀ o ∈ l, o.good) ∧
    st = ⟨[.lp (0, 0) 3 0 0, .un, .un, .ls (21, 1) 11 0 l.length, iv z] ++ List.replicate 16 .un, mkOb [((0, 0), some (cur D p s)), ((21, 1), some (rowO l))]⟩) r.toNat (by kernel_rfl) ⟨_, _, _, [], ⟨rfl, by omega, by simp; omega, hc'.up (by omega), fun _ h => nomatch h⟩, rfl⟩ ?_
  rintro m st ⟨z, p, s, l, ⟨rfl, z0, hz, hcz, hl⟩, rfl⟩
  repeat' ((conv => whnf); first
    | (refine cpick.ac D _ _ _ 3 hcz (by omega) fun r p' s' hc' h1 h2 => ?_)
    | (refine cpick.ac D _ _ _ 300 ‹_› (by omega) fun r p' s' hc' h1 h2 => ?_)
    | (refine app1 (f := encOp) (x := opFew _ _) ⟨by decide, rfl, rfl, by simp, ⟨by simp; omega, by simp; omega⟩, rfl, by simp [mentsOne]⟩ rfl ?_)
    | (refine bF_dec (fun _ => ?_) (fun _ => ?_) <;> try (exfalso; omega))
    | (refine bF_eq (fun _ => ?_) (fun _ => ?_) <;> try (exfalso; omega))
    | (refine bF_ne (fun _ => ?_) (fun _ => ?_) <;> try (exfalso; omega))
    | (refine a64 (by omega) ?_)
    | (refine ix_at rfl (by omega) ?_)
    | (refine ⟨⟨rfl, by omega, by omega⟩, ?_⟩)
    | (refine map_at (by omega) ?_)
    | (refine alen ?_)
    | (refine amin ?_)
    | (refine amax ?_)
    | (refine ⟨⟨rfl, rfl, by simp [V.ments]⟩, ?_⟩)
    | (refine map_at0 (by omega) ?_)
    | (refine set_at rfl ?_)
    | (refine map_atI (by omega) ?_)
    | (refine map_atI0 (by omega) ?_)
    | (refine set_atI rfl ?_)
    | (refine ⟨⟨by decide, rfl, by omega, by omega, by omega, by dsimp only; omega⟩, ?_⟩)
    | (refine arem (by omega) ?_)
    | (refine aquo (by omega) (by omega) ?_)
    | (refine au8 ?_)
    | (refine au64 (by omega) ?_)
    | (refine anat ?_)
    | (refine szOk rfl ?_)
    | (refine dvOk rfl (by omega) ?_)
    | (refine nzOk (by decide) ?_)
    | (refine lgOk (by kernel_rfl) ?_)
    | (refine kpOk (by kernel_rfl) ?_)
    | fail)
  all_goals conv => whnf
  · exact ⟨(z - 1).toNat, by omega, _, _, _, l ++ [opFew _ _], ⟨rfl, by omega, by simp; omega, ‹CurI D (k + 1 + 2 * (3 - z) + 1 + 1) _ _›.up (by omega), opFew_good hl ⟨by omega, by omega⟩ ⟨by omega, by omega⟩⟩, rfl⟩
  · exact hK l p s (hcz.up (by omega)) (by omega) hl
theorem few.ac (D : List Int) (k p s : Int) (hc : CurI D k p s) (hk : k ≤ 900000) {K : V → List Obj → List Obj → Prop} (hK : ∀ (ops : List OpR) p' s', CurI D (k + 7) p' s' → ops.length ≤ 3 → (∀ o ∈ ops, o.good) → K (.is 11 (ops.map encOp)) [cur D p' s'] []) : AC Try.prog 47 [.lp (0,0) 3 0 0] [cur D p s] K :=
  AC.frz (fewL.ac D k p s hc hk fun ops p' s' h1 h2 h3 => frz1 cur_ments (hK ops p' s' h1 h2 h3))
end Go.Eng.T

namespace Go.Eng.T
open Go.Proofs Go.Eng Go.Eng.S
set_option maxRecDepth 100000
set_option maxHeartbeats 0

theorem tear.ac (D : List Int) (k p s : Int) (hc : CurI D k p s) (hk : k ≤ 800000) {K : V → List Obj → List Obj → Prop} (hK : ∀ r p' s', CurI D (k + 8) p' s' → -9223372036854775808 ≤ r → r ≤ 9223372036854775807 → K (iv r) [cur D p' s'] []) : AC Try.prog 66 [.lp (0,0) 3 0 0] [cur D p s] K := by
  refine ac_body (ann []) [((997, 0), true), ((0, 0), true), ((14, 0), false)] hm htt Try.func66 rfl (by kernel_rfl) rfl rfl ?_
  repeat' ((conv => whnf); first
    | (refine cpick.ac D _ _ _ 40 ‹_› (by omega) fun r p' s' hc' h1 h2 => ?_)
    | (refine cpick.ac D _ _ _ 6 ‹_› (by omega) fun r p' s' hc' h1 h2 => ?_)
    | (refine cpick.ac D _ _ _ 5 ‹_› (by omega) fun r p' s' hc' h1 h2 => ?_)
    | (refine wide.ac D _ _ _ 7000 ‹_› (by omega) (by omega) fun r p' s' hc' h1 h2 => ?_)
    | (refine raw.ac D _ _ _ ‹_› (by omega) fun r p' s' hc' h1 h2 => ?_)
    | (refine bF_dec (fun _ => ?_) (fun _ => ?_) <;> try (exfalso; omega))
    | (refine bF_eq (fun _ => ?_) (fun _ => ?_) <;> try (exfalso; omega))
    | (refine bF_ne (fun _ => ?_) (fun _ => ?_) <;> try (exfalso; omega))
    | (refine a64 (by omega) ?_)
    | (refine ix_at rfl (by omega) ?_)
    | (refine ⟨⟨rfl, by omega, by omega⟩, ?_⟩)
    | (refine map_at (by omega) ?_)
    | (refine alen ?_)
    | (refine amin ?_)
    | (refine amax ?_)
    | (refine ⟨⟨rfl, rfl, by simp [V.ments]⟩, ?_⟩)
    | (refine map_at0 (by omega) ?_)
    | (refine set_at rfl ?_)
    | (refine map_atI (by omega) ?_)
    | (refine map_atI0 (by omega) ?_)
    | (refine set_atI rfl ?_)
    | (refine ⟨⟨by decide, rfl, by omega, by omega, by omega, by dsimp only; omega⟩, ?_⟩)
    | (refine arem (by omega) ?_)
    | (refine aquo (by omega) (by omega) ?_)
    | (refine au8 ?_)
    | (refine au64 (by omega) ?_)
    | (refine anat ?_)
    | (refine szOk rfl ?_)
    | (refine dvOk rfl (by omega) ?_)
    | (refine nzOk (by decide) ?_)
    | (refine lgOk (by kernel_rfl) ?_)
    | (refine kpOk (by kernel_rfl) ?_)
    | fail)
  all_goals conv => whnf
  have h5 : r = 0 ∨ r = 1 ∨ r = 2 ∨ r = 3 ∨ r = 4 := by omega
  have hc8 := hc'.up (k' := k + 8) (by omega)
  rcases h5 with rfl | rfl | rfl | rfl | rfl
  all_goals
    refine ⟨_, rfl, ?_⟩
    conv => whnf
    exact hK _ _ _ hc8 (by omega) (by omega)
theorem zero_row : (List.replicate 7000 (0 : Int)).length = 7000 := by simp
theorem frzSl {X Y : List Int} {K : V → List Obj → List Obj → Prop} (k : K (slV X Y) [] []) : ∃ v' news' n es, [rowB X, rowB Y] = news' ++ [.arr true n es] ∧ LendR (1, news'.length) n es (slM X Y (1, 0) (1, 1)) v' ∧ (∀ x ∈ [] ++ news', (1, news'.length) ∉ x.ments) ∧
    ∃ v'' news'' n' es', news' = news'' ++ [.arr true n' es'] ∧ LendR (1, news''.length) n' es' v' v'' ∧ (∀ x ∈ [] ++ news'', (1, news''.length) ∉ x.ments) ∧ K v'' [] news'' :=
  ⟨.agg [.ls (1, 0) 1 0 X.length, .is 1 (Y.map encB)], [rowB X], 1, _, rfl, .agg (.cons (.same (by simp [V.ments])) (.cons (.all (by simp)) .nil)), by simp [Obj.ments],
   slV X Y, [], 1, _, rfl, .agg (.cons (.all (by simp)) (.cons (.same (by simp [V.ments])) .nil)), by simp, k⟩
theorem rowZ {Z : List Int} (h : Z = List.replicate 7000 0) : rowB Z = .arr true 1 (List.replicate 7000 (encB 0)) := by rw [h, rowB, List.map_replicate]
theorem SlotsNewS.ac {K : V → List Obj → List Obj → Prop} (hK : ∀ Z, Z = List.replicate 7000 0 → K (slM Z Z (1, 0) (1, 1)) [] [rowB Z, rowB Z]) : AC Try.prog 90 [] [] K := by
  refine ac_body (ann []) [((997, 0), true), ((2, 0), true), ((3, 0), false), ((4, 0), false)] hm htt Try.func90 rfl (by kernel_rfl) rfl rfl ?_
  repeat' ((conv => whnf); first
    | (refine bF_dec (fun _ => ?_) (fun _ => ?_) <;> try (exfalso; omega))
    | (refine bF_eq (fun _ => ?_) (fun _ => ?_) <;> try (exfalso; omega))
    | (refine bF_ne (fun _ => ?_) (fun _ => ?_) <;> try (exfalso; omega))
    | (refine a64 (by omega) ?_)
    | (refine ix_at rfl (by omega) ?_)
    | (refine ⟨⟨rfl, by omega, by omega⟩, ?_⟩)
    | (refine map_at (by omega) ?_)
    | (refine alen ?_)
    | (refine amin ?_)
    | (refine amax ?_)
    | (refine ⟨⟨rfl, rfl, by simp [V.ments]⟩, ?_⟩)
    | (refine map_at0 (by omega) ?_)
    | (refine set_at rfl ?_)
    | (refine map_atI (by omega) ?_)
    | (refine map_atI0 (by omega) ?_)
    | (refine set_atI rfl ?_)
    | (refine ⟨⟨by decide, rfl, by omega, by omega, by omega, by dsimp only; omega⟩, ?_⟩)
    | (refine arem (by omega) ?_)
    | (refine aquo (by omega) (by omega) ?_)
    | (refine au8 ?_)
    | (refine au64 (by omega) ?_)
    | (refine anat ?_)
    | (refine szOk rfl ?_)
    | (refine dvOk rfl (by omega) ?_)
    | (refine nzOk (by decide) ?_)
    | (refine lgOk (by kernel_rfl) ?_)
    | (refine kpOk (by kernel_rfl) ?_)
    | fail)
  all_goals conv => whnf
  have key := hK _ rfl
  simp only [slM, rowB, List.map_replicate, List.length_replicate] at key
  exact key
theorem SlotsNewI.ac {K : V → List Obj → List Obj → Prop} (hK : ∀ Z, Z = List.replicate 7000 0 → K (slV Z Z) [] []) : AC Try.prog 36 [] [] K := by
  refine AC.frz (AC.frz ?_)
  refine ac_body (ann []) [((997, 0), true), ((2, 0), true), ((3, 0), false), ((4, 0), false)] hm htt Try.func36 rfl (by kernel_rfl) rfl rfl ?_
  repeat' ((conv => whnf); first
    | (refine bF_dec (fun _ => ?_) (fun _ => ?_) <;> try (exfalso; omega))
    | (refine bF_eq (fun _ => ?_) (fun _ => ?_) <;> try (exfalso; omega))
    | (refine bF_ne (fun _ => ?_) (fun _ => ?_) <;> try (exfalso; omega))
    | (refine a64 (by omega) ?_)
    | (refine ix_at rfl (by omega) ?_)
    | (refine ⟨⟨rfl, by omega, by omega⟩, ?_⟩)
    | (refine map_at (by omega) ?_)
    | (refine alen ?_)
    | (refine amin ?_)
    | (refine amax ?_)
    | (refine ⟨⟨rfl, rfl, by simp [V.ments]⟩, ?_⟩)
    | (refine map_at0 (by omega) ?_)
    | (refine set_at rfl ?_)
    | (refine map_atI (by omega) ?_)
    | (refine map_atI0 (by omega) ?_)
    | (refine set_atI rfl ?_)
    | (refine ⟨⟨by decide, rfl, by omega, by omega, by omega, by dsimp only; omega⟩, ?_⟩)
    | (refine arem (by omega) ?_)
    | (refine aquo (by omega) (by omega) ?_)
    | (refine au8 ?_)
    | (refine au64 (by omega) ?_)
    | (refine anat ?_)
    | (refine szOk rfl ?_)
    | (refine dvOk rfl (by omega) ?_)
    | (refine nzOk (by decide) ?_)
    | (refine lgOk (by kernel_rfl) ?_)
    | (refine kpOk (by kernel_rfl) ?_)
    | fail)
  all_goals conv => whnf
  have key := frzSl (X := List.replicate 7000 0) (Y := List.replicate 7000 0) (hK _ rfl)
  simp only [slM, rowB, List.map_replicate, List.length_replicate] at key
  exact key
theorem frzT {X Y : List Int} {b : Bool} {K : V → List Obj → List Obj → Prop} (k : K (.tup [slV X Y, bv b]) [] []) : ∃ v1 n1 n es, [rowB X, rowB Y] = n1 ++ [.arr true n es] ∧ LendR (1, n1.length) n es (.tup [slM X Y (1, 0) (1, 1), bv b]) v1 ∧ (∀ x ∈ [] ++ n1, (1, n1.length) ∉ x.ments) ∧
    ((∃ v2 n2 m fs, n1 = n2 ++ [.arr true m fs] ∧ LendR (1, n2.length) m fs v1 v2 ∧ (∀ x ∈ [] ++ n2, (1, n2.length) ∉ x.ments) ∧ K v2 [] n2) ∨ K v1 [] n1) :=
  ⟨.tup [.agg [.ls (1, 0) 1 0 X.length, .is 1 (Y.map encB)], bv b], [rowB X], 1, _, rfl, .tup (.agg (.cons (.same (by simp [V.ments])) (.cons (.all (by simp)) .nil)) (.cons (.same (by simp [V.ments])) .nil)), by simp [Obj.ments],
   .inl ⟨.tup [slV X Y, bv b], [], 1, _, rfl, .tup (.agg (.cons (.all (by simp)) (.cons (.same (by simp [V.ments])) .nil)) (.cons (.same (by simp [V.ments])) .nil)), by simp, k⟩⟩
/-- Writing into slots, all told as what nobody changes any more. -/
theorem putS.f (D E : List Int) (hd : Bytes D) (he : Bytes E) (ops : List OpR) (n : Int) (hi : ∀ o ∈ ops, o.ints) (ho : ops.length ≤ 10000000) {K : V → List Obj → List Obj → Prop}
    (hK1 : ∀ X Y, putR D E ops n = some (X, Y) → K (.tup [slV X Y, bv true]) [] []) (hK0 : putR D E ops n = none → K (.tup [.agg [nilS, nilS], bv false]) [] []) : AC Try.prog 33 [slV D E, .is 11 (ops.map encOp), iv n] [] K :=
  AC.frzO (AC.frzO (SlotsPutS.ac D E hd he ops n hi ho (fun X Y h => .inl (frzT (hK1 X Y h))) fun h => .inr (.inr (hK0 h))))
theorem putI.f (D E : List Int) (hd : Bytes D) (he : Bytes E) (ops : List OpR) (n : Int) (hi : ∀ o ∈ ops, o.ints) (ho : ops.length ≤ 10000000) {K : V → List Obj → List Obj → Prop}
    (hK1 : ∀ X Y, putR D E ops n = some (X, Y) → K (.tup [slV X Y, bv true]) [] []) (hK0 : putR D E ops n = none → K (.tup [.agg [nilS, nilS], bv false]) [] []) : AC Try.prog 34 [slV D E, .is 11 (ops.map encOp), iv n] [] K :=
  AC.frzO (AC.frzO (SlotsPutI.ac D E hd he ops n hi ho (fun X Y h => .inl (frzT (hK1 X Y h))) fun h => .inr (.inr (hK0 h))))
theorem few_ok {g : Int} {ops : List OpR} (h : ∀ o ∈ ops, o.good) (hl : ops.length ≤ 50) (hg : 0 ≤ g ∧ g ≤ 999999) : ImOk (g + 1) ops := ⟨⟨h, by omega⟩, ⟨by omega, by omega⟩, by have := logB_len (l := ops); omega⟩
theorem putS.s (D E : List Int) (hd : Bytes D) (he : Bytes E) (ops : List OpR) (n : Int) (hi : ∀ o ∈ ops, o.ints) (ho : ops.length ≤ 10000000) {X Y : List Int} (h : putR D E ops n = some (X, Y)) {K : V → List Obj → List Obj → Prop}
    (hK : K (.tup [slM X Y (1, 0) (1, 1), bv true]) [rowB D, rowB E] [rowB X, rowB Y]) : AC Try.prog 33 [slM D E (0, 0) (0, 1), .is 11 (ops.map encOp), iv n] [rowB D, rowB E] K :=
  AC.slots (by simp [V.ments]) (SlotsPutS.ac D E hd he ops n hi ho (fun X' Y' h' => by rw [h] at h'; cases h'; exact ⟨⟨rfl, rfl, noIsO_app (noIs_rowB X) (noIs_rowB Y)⟩, hK⟩) fun h' => by rw [h] at h'; cases h')
abbrev swSl (l s t : Nat) : Nat → Store → List (Key × Key) := fun n ob => bif Nat.beq n l then (match ob (s, 0) with
  | some _ => [((s, 0), (t, 0)), ((s, 1), (t, 1))]
  | none => []) else []
theorem frzSlG {X Y : List Int} {objs : List Obj} {i n : Nat} {K : V → List Obj → List Obj → Prop} (h : i + n ≤ X.length) (hm : ∀ x ∈ objs, ∀ j, (1, j) ∉ x.ments) (k : K (slV ((X.drop i).take n) Y) objs []) : ∃ v1 n1 m es, [rowB X, rowB Y] = n1 ++ [.arr true m es] ∧ LendR (1, n1.length) m es (.agg [.ls (1, 0) 1 i n, .ls (1, 1) 1 0 Y.length]) v1 ∧ (∀ x ∈ objs ++ n1, (1, n1.length) ∉ x.ments) ∧
    ∃ v2 n2 m' fs, n1 = n2 ++ [.arr true m' fs] ∧ LendR (1, n2.length) m' fs v1 v2 ∧ (∀ x ∈ objs ++ n2, (1, n2.length) ∉ x.ments) ∧ K v2 objs n2 :=
  ⟨.agg [.ls (1, 0) 1 i n, .is 1 (Y.map encB)], [rowB X], 1, _, rfl, .agg (.cons (.same (by simp [V.ments])) (.cons (.all (by simp)) .nil)), fun x hx => by
      rcases List.mem_append.1 hx with hx | hx
      · exact hm x hx _
      · rw [List.mem_singleton.1 hx]; simp [Obj.ments],
   slV ((X.drop i).take n) Y, [], 1, _, rfl, .agg (.cons (.ls (by rw [List.length_map]; exact h) (by rw [List.map_take, List.map_drop])) (.cons (.same (by simp [V.ments])) .nil)), fun x hx => hm x (by simpa using hx) _, k⟩
theorem cur_ments2 {D : List Int} {p s : Int} : ∀ x ∈ [cur D p s], ∀ j, (1, j) ∉ x.ments := fun x hx j => cur_ments x hx
theorem bytes_set {Y : List Int} {i : Nat} {x : Int} (h : Bytes Y) (hx : 0 ≤ x ∧ x ≤ 255) : Bytes (Y.set i x) := fun y hy => by
  rcases List.mem_or_eq_of_mem_set hy with h1 | rfl
  · exact h y h1
  · exact hx
theorem bytes_cut {X : List Int} (h : Bytes X) (i n : Nat) : Bytes ((X.drop i).take n) := bytes_take (bytes_drop h i) n
theorem slots.ac (D : List Int) (k p s : Int) (hc : CurI D k p s) (hk : k ≤ 600000) {K : V → List Obj → List Obj → Prop} (hK : ∀ X Y p' s', CurI D (k + 100) p' s' → Bytes X → Bytes Y → K (slV X Y) [cur D p' s'] []) : AC Try.prog 65 [.lp (0,0) 3 0 0] [cur D p s] K := by
  refine AC.frz (AC.frz ?_)
  refine ac_body { imm := immL [], keep := keepL [(3, [0, 2, 3, 4], [(0, 0), (4, 0), (5, 0), (7, 0), (7, 1)])], sw := swSl 3 20 7 } [((997, 0), true), ((0, 0), true), ((4, 0), true), ((5, 0), true), ((7, 0), false), ((7, 1), false), ((20, 0), false), ((20, 1), false), ((43, 0), false), ((46, 0), false)] hm htt Try.func65 rfl (by kernel_rfl) rfl rfl ?_
  repeat' ((conv => whnf); first
    | (refine SlotsNewS.ac fun Z hZ => ?_)
    | (refine cpick.ac D _ _ _ 5 ‹_› (by omega) fun r p' s' hc' h1 h2 => ?_)
    | (refine bF_dec (fun _ => ?_) (fun _ => ?_) <;> try (exfalso; omega))
    | (refine bF_eq (fun _ => ?_) (fun _ => ?_) <;> try (exfalso; omega))
    | (refine bF_ne (fun _ => ?_) (fun _ => ?_) <;> try (exfalso; omega))
    | (refine a64 (by omega) ?_)
    | (refine ix_at rfl (by omega) ?_)
    | (refine ⟨⟨rfl, by omega, by omega⟩, ?_⟩)
    | (refine map_at (by omega) ?_)
    | (refine alen ?_)
    | (refine amin ?_)
    | (refine amax ?_)
    | (refine ⟨⟨rfl, rfl, by simp [V.ments]⟩, ?_⟩)
    | (refine map_at0 (by omega) ?_)
    | (refine set_at rfl ?_)
    | (refine map_atI (by omega) ?_)
    | (refine map_atI0 (by omega) ?_)
    | (refine set_atI rfl ?_)
    | (refine ⟨⟨by decide, rfl, by omega, by omega, by omega, by dsimp only; omega⟩, ?_⟩)
    | (refine arem (by omega) ?_)
    | (refine aquo (by omega) (by omega) ?_)
    | (refine au8 ?_)
    | (refine au64 (by omega) ?_)
    | (refine anat ?_)
    | (refine szOk rfl ?_)
    | (refine dvOk rfl (by omega) ?_)
    | (refine nzOk (by decide) ?_)
    | (refine lgOk (by kernel_rfl) ?_)
    | (refine kpOk (by kernel_rfl) ?_)
    | fail)
  all_goals conv => whnf
  refine cwF_loop (fun m st => ∃ (z p s : Int) (X Y : List Int) (gen : Int) (last : List OpR) (gd ge : Int), (m = z.toNat ∧ 0 ≤ z ∧ gen + z ≤ 4 ∧ 0 ≤ gen ∧ CurI D (k + 1 + 15 * (4 - z)) p s ∧ SInv X Y gen last gd ge) ∧
    st = ⟨[.lp (0, 0) 3 0 0, .un, .lp (4, 0) 2 0 0, .lp (5, 0) 2 0 0, iv z] ++ List.replicate 42 .un, mkOb [((0, 0), some (cur D p s)), ((4, 0), some (.arr false 2 [.agg [nilS, nilS]])), ((5, 0), some (.arr false 2 [slM X Y (7, 0) (7, 1)])), ((7, 0), some (rowB X)), ((7, 1), some (rowB Y))]⟩) r.toNat (by kernel_rfl) ⟨_, _, _, Z, Z, 0, [], 0, 0, ⟨rfl, by omega, by omega, by omega, hc'.up (by omega), hZ ▸ SInv.zero⟩, rfl⟩ ?_
  rintro m st ⟨z, p, s, X, Y, gen, last, gd, ge, ⟨rfl, z0, hz, hg, hcz, hI⟩, rfl⟩
  repeat' ((conv => whnf); first
    | (refine few.ac D _ _ _ hcz (by omega) fun ops p' s' hc' h1 h2 => ?_)
    | (refine tear.ac D _ _ _ ‹_› (by omega) fun n p' s' hc' _ _ => ?_)
    | (refine bF_dec (fun _ => ?_) (fun _ => ?_) <;> try (exfalso; omega))
    | (refine bF_eq (fun _ => ?_) (fun _ => ?_) <;> try (exfalso; omega))
    | (refine bF_ne (fun _ => ?_) (fun _ => ?_) <;> try (exfalso; omega))
    | (refine a64 (by omega) ?_)
    | (refine ix_at rfl (by omega) ?_)
    | (refine ⟨⟨rfl, by omega, by omega⟩, ?_⟩)
    | (refine map_at (by omega) ?_)
    | (refine alen ?_)
    | (refine amin ?_)
    | (refine amax ?_)
    | (refine ⟨⟨rfl, rfl, by simp [V.ments]⟩, ?_⟩)
    | (refine map_at0 (by omega) ?_)
    | (refine set_at rfl ?_)
    | (refine map_atI (by omega) ?_)
    | (refine map_atI0 (by omega) ?_)
    | (refine set_atI rfl ?_)
    | (refine ⟨⟨by decide, rfl, by omega, by omega, by omega, by dsimp only; omega⟩, ?_⟩)
    | (refine arem (by omega) ?_)
    | (refine aquo (by omega) (by omega) ?_)
    | (refine au8 ?_)
    | (refine au64 (by omega) ?_)
    | (refine anat ?_)
    | (refine szOk rfl ?_)
    | (refine dvOk rfl (by omega) ?_)
    | (refine nzOk (by decide) ?_)
    | (refine lgOk (by kernel_rfl) ?_)
    | (refine kpOk (by kernel_rfl) ?_)
    | fail)
  all_goals conv => whnf
  · obtain ⟨X', Y', xd, xe, hp, hI'⟩ := hI.put (n := n) (few_ok h2 (by omega) (by omega)) (by omega)
    have hi : ∀ o ∈ ops, o.ints := fun o ho => (h2 o ho).2
    repeat' ((conv => whnf); first
      | (refine putS.s X Y hI.d.b hI.e.b ops n hi (by omega) hp ?_)
      | (refine bF_dec (fun _ => ?_) (fun _ => ?_) <;> try (exfalso; omega))
      | (refine bF_eq (fun _ => ?_) (fun _ => ?_) <;> try (exfalso; omega))
      | (refine bF_ne (fun _ => ?_) (fun _ => ?_) <;> try (exfalso; omega))
      | (refine a64 (by omega) ?_)
      | (refine ix_at rfl (by omega) ?_)
      | (refine ⟨⟨rfl, by omega, by omega⟩, ?_⟩)
      | (refine map_at (by omega) ?_)
      | (refine alen ?_)
      | (refine amin ?_)
      | (refine amax ?_)
      | (refine ⟨⟨rfl, rfl, by simp [V.ments]⟩, ?_⟩)
      | (refine map_at0 (by omega) ?_)
      | (refine set_at rfl ?_)
      | (refine map_atI (by omega) ?_)
      | (refine map_atI0 (by omega) ?_)
      | (refine set_atI rfl ?_)
      | (refine ⟨⟨by decide, rfl, by omega, by omega, by omega, by dsimp only; omega⟩, ?_⟩)
      | (refine arem (by omega) ?_)
      | (refine aquo (by omega) (by omega) ?_)
      | (refine au8 ?_)
      | (refine au64 (by omega) ?_)
      | (refine anat ?_)
      | (refine szOk rfl ?_)
      | (refine dvOk rfl (by omega) ?_)
      | (refine nzOk (by decide) ?_)
      | (refine lgOk (by kernel_rfl) ?_)
      | (refine kpOk (by kernel_rfl) ?_)
      | fail)
    all_goals conv => whnf
    exact ⟨(z - 1).toNat, by omega, _, _, _, X', Y', _, _, _, _, ⟨rfl, by omega, by split <;> omega, by split <;> omega, ‹CurI D (k + 1 + 15 * (4 - z) + 7 + 8) _ _›.up (by omega), hI'⟩, rfl⟩
  have lx := hI.d.len
  have ly := hI.e.len
  have lx2 : (X.map encB).length = 7000 := by rw [List.length_map]; exact lx
  repeat' ((conv => whnf); first
    | (refine cpick.ac D _ _ _ 12 ‹_› (by omega) fun r p' s' hc' h1 h2 => ?_)
    | (refine wide.ac D _ _ _ 7000 ‹_› (by omega) (by omega) fun i p' s' hc' h1 h2 => ?_)
    | (refine cpick.ac D _ _ _ 256 ‹_› (by omega) fun r p' s' hc' h1 h2 => ?_)
    | (refine andOk (by omega : (0 : Int) ≤ 1 ∧ 1 ≤ (X.length : Int)) ?_)
    | (refine appN ⟨by decide, rfl, rfl, by simp, ⟨by dsimp only; omega, by omega⟩, rfl, by simp [mentsOne]⟩ ?_)
    | (refine all_at ⟨rfl, rfl, by omega⟩ ?_)
    | (refine bF_dec (fun _ => ?_) (fun _ => ?_) <;> try (exfalso; omega))
    | (refine bF_eq (fun _ => ?_) (fun _ => ?_) <;> try (exfalso; omega))
    | (refine bF_ne (fun _ => ?_) (fun _ => ?_) <;> try (exfalso; omega))
    | (refine a64 (by omega) ?_)
    | (refine ix_at rfl (by omega) ?_)
    | (refine ⟨⟨rfl, by omega, by omega⟩, ?_⟩)
    | (refine map_at (by omega) ?_)
    | (refine alen ?_)
    | (refine amin ?_)
    | (refine amax ?_)
    | (refine ⟨⟨rfl, rfl, by simp [V.ments]⟩, ?_⟩)
    | (refine map_at0 (by omega) ?_)
    | (refine set_at rfl ?_)
    | (refine map_atI (by omega) ?_)
    | (refine map_atI0 (by omega) ?_)
    | (refine set_atI rfl ?_)
    | (refine ⟨⟨by decide, rfl, by omega, by omega, by omega, by dsimp only; omega⟩, ?_⟩)
    | (refine arem (by omega) ?_)
    | (refine aquo (by omega) (by omega) ?_)
    | (refine au8 ?_)
    | (refine au64 (by omega) ?_)
    | (refine anat ?_)
    | (refine szOk rfl ?_)
    | (refine dvOk rfl (by omega) ?_)
    | (refine nzOk (by decide) ?_)
    | (refine lgOk (by kernel_rfl) ?_)
    | (refine kpOk (by kernel_rfl) ?_)
    | fail)
  all_goals conv => whnf
  · exact frzSlG (i := 1) (n := X.length - 1) (by omega) cur_ments2 (hK _ _ _ _ ((by assumption : CurI D (k + 1 + 15 * (4 - z) + 1) _ _).up (by omega)) (bytes_cut hI.d.b _ _) hI.e.b)
  · have e := frzSlG (X := X) (Y := Y.set i.toNat (r % 256)) (i := 0) (n := X.length) (by omega) cur_ments2 (hK _ _ _ _ ((by assumption : CurI D (k + 1 + 15 * (4 - z) + 1 + 3 + 1) _ _).up (by omega)) (bytes_cut hI.d.b _ _) (bytes_set hI.e.b (by omega)))
    rw [List.length_set] at e
    exact e
  · exact frzSlG (Y := X) (i := 0) (n := X.length) (by omega) cur_ments2 (hK _ _ _ _ ((by assumption : CurI D (k + 1 + 15 * (4 - z) + 1) _ _).up (by omega)) (bytes_cut hI.d.b _ _) hI.d.b)
  · exact frzSlG (i := 0) (n := X.length) (by omega) cur_ments2 (hK _ _ _ _ ((by assumption : CurI D (k + 1 + 15 * (4 - z) + 1) _ _).up (by omega)) (bytes_cut hI.d.b _ _) hI.e.b)
theorem frzDr {S : V} {ops : List OpR} {n : Int} {K : V → List Obj → List Obj → Prop} (hS : ∀ k, k ∉ S.ments) (k : K (.tup [S, .is 11 (ops.map encOp), iv n]) [] []) : ∃ v1 n1 m es, [rowO ops] = n1 ++ [.arr true m es] ∧ LendR (1, n1.length) m es (.tup [S, .ls (1, 0) 11 0 ops.length, iv n]) v1 ∧ (∀ x ∈ [] ++ n1, (1, n1.length) ∉ x.ments) ∧ K v1 [] n1 :=
  ⟨_, [], 11, _, rfl, .tup (.cons (.same (hS _)) (.cons (.all (by simp)) (.cons (.same (by simp [V.ments])) .nil))), by simp, k⟩
theorem slV_ments {D E : List Int} : ∀ k, k ∉ (slV D E).ments := fun k => by simp [V.ments, mentsL]
theorem zero_ints {l : List OpR} (h : ∀ o ∈ l, o.ints) : ∀ o ∈ l ++ [OpR.zero], o.ints := fun o ho => by
  rcases List.mem_append.1 ho with ho | ho
  · exact h o ho
  · rw [List.mem_singleton.1 ho]
    intro x hx
    simp only [OpR.zero, OpR.fs, List.mem_cons, List.not_mem_nil, or_false] at hx
    unfold I64
    rcases hx with rfl | rfl | rfl | rfl | rfl | rfl | rfl | rfl | rfl | rfl | rfl <;> omega
/-- What may be drawn for a write. -/
theorem DrawSlotsPut.ac (D : List Int) (hd : Bytes D) (hl : D.length ≤ 1048576) {K : V → List Obj → List Obj → Prop} (hK : ∀ X Y (ops : List OpR) n, (∀ o ∈ ops, o.ints) → ops.length ≤ 4 → -9223372036854775808 ≤ n → n ≤ 9223372036854775807 → K (.tup [slV X Y, .is 11 (ops.map encOp), iv n]) [] []) : AC Try.prog 37 [.is 1 (D.map encB)] [] K := by
  refine AC.frz ?_
  refine ac_body (ann []) [((997, 0), true), ((4, 0), true), ((11, 0), true), ((8, 0), true), ((15, 0), false), ((20, 0), true), ((21, 0), false)] hm htt Try.func37 rfl (by kernel_rfl) rfl rfl ?_
  repeat' ((conv => whnf); first
    | (refine l01Open.ac D hd hl fun s hc => ?_)
    | (refine slots.ac D _ _ _ ‹_› (by omega) fun X Y p' s' hc' hX hY => ?_)
    | (refine fewL.ac D _ _ _ ‹_› (by omega) fun ops p' s' hc' h1 h2 => ?_)
    | (refine once.ac D _ _ _ 9 ‹_› (by omega) (by omega) fun b p' s' hc' => ?_; cases b)
    | (refine tear.ac D _ _ _ ‹_› (by omega) fun n p' s' hc' _ _ => ?_)
    | (refine app1 (f := encOp) (x := OpR.zero) ⟨by decide, rfl, rfl, by simp, ⟨by simp; omega, by simp; omega⟩, rfl, by simp [mentsOne]⟩ rfl ?_)
    | (refine bF_dec (fun _ => ?_) (fun _ => ?_) <;> try (exfalso; omega))
    | (refine bF_eq (fun _ => ?_) (fun _ => ?_) <;> try (exfalso; omega))
    | (refine bF_ne (fun _ => ?_) (fun _ => ?_) <;> try (exfalso; omega))
    | (refine a64 (by omega) ?_)
    | (refine ix_at rfl (by omega) ?_)
    | (refine ⟨⟨rfl, by omega, by omega⟩, ?_⟩)
    | (refine map_at (by omega) ?_)
    | (refine alen ?_)
    | (refine amin ?_)
    | (refine amax ?_)
    | (refine ⟨⟨rfl, rfl, by simp [V.ments]⟩, ?_⟩)
    | (refine map_at0 (by omega) ?_)
    | (refine set_at rfl ?_)
    | (refine map_atI (by omega) ?_)
    | (refine map_atI0 (by omega) ?_)
    | (refine set_atI rfl ?_)
    | (refine ⟨⟨by decide, rfl, by omega, by omega, by omega, by dsimp only; omega⟩, ?_⟩)
    | (refine arem (by omega) ?_)
    | (refine aquo (by omega) (by omega) ?_)
    | (refine au8 ?_)
    | (refine au64 (by omega) ?_)
    | (refine anat ?_)
    | (refine szOk rfl ?_)
    | (refine dvOk rfl (by omega) ?_)
    | (refine nzOk (by decide) ?_)
    | (refine lgOk (by kernel_rfl) ?_)
    | (refine kpOk (by kernel_rfl) ?_)
    | fail)
  all_goals conv => whnf
  · exact frzDr slV_ments (hK X Y ops _ (fun o ho => (h2 o ho).2) (by omega) (by assumption) (by assumption))
  · exact frzDr slV_ments (hK X Y (ops ++ [OpR.zero]) _ (zero_ints fun o ho => (h2 o ho).2) (by simp; omega) (by assumption) (by assumption))
end Go.Eng.T

namespace Go.Eng.T
open Go.Proofs Go.Eng Go.Eng.S
set_option maxRecDepth 100000
set_option maxHeartbeats 0

theorem big2 (D : List Int) : Two 10 [.is 1 (D.map encB)] ((D.length : Int) > 1048576) := fun hT hF => by
  refine ac_body (ann []) [((997, 0), true)] hm htt Try.func10 rfl (by kernel_rfl) rfl rfl ?_
  repeat' ((conv => whnf); first
    | (refine bF_dec (fun _ => ?_) (fun _ => ?_) <;> try (exfalso; omega))
    | (refine bF_eq (fun _ => ?_) (fun _ => ?_) <;> try (exfalso; omega))
    | (refine bF_ne (fun _ => ?_) (fun _ => ?_) <;> try (exfalso; omega))
    | (refine a64 (by omega) ?_)
    | (refine ix_at rfl (by omega) ?_)
    | (refine ⟨⟨rfl, by omega, by omega⟩, ?_⟩)
    | (refine map_at (by omega) ?_)
    | (refine alen ?_)
    | (refine amin ?_)
    | (refine amax ?_)
    | (refine ⟨⟨rfl, rfl, by simp [V.ments]⟩, ?_⟩)
    | (refine map_at0 (by omega) ?_)
    | (refine set_at rfl ?_)
    | (refine map_atI (by omega) ?_)
    | (refine map_atI0 (by omega) ?_)
    | (refine set_atI rfl ?_)
    | (refine ⟨⟨by decide, rfl, by omega, by omega, by omega, by dsimp only; omega⟩, ?_⟩)
    | (refine arem (by omega) ?_)
    | (refine aquo (by omega) (by omega) ?_)
    | (refine au8 ?_)
    | (refine au64 (by omega) ?_)
    | (refine anat ?_)
    | (refine szOk rfl ?_)
    | (refine dvOk rfl (by omega) ?_)
    | (refine nzOk (by decide) ?_)
    | (refine lgOk (by kernel_rfl) ?_)
    | (refine kpOk (by kernel_rfl) ?_)
    | fail)
  all_goals conv => whnf
  · exact hT ‹_›
  · exact hF ‹_›
theorem bestI.f (D E : List Int) (hd : Bytes D) (he : Bytes E) {K : V → List Obj → List Obj → Prop} (hK1 : ∀ f g (ops : List OpR), slotsOf D E = some (f, g, ops) → K (.tup [iv g, .is 11 (ops.map encOp), bv true]) [] [])
    (hK0 : slotsOf D E = none → K (.tup [iv 0, nilS, bv false]) [] []) : AC Try.prog 30 [slV D E] [] K :=
  AC.frzO (SlotsBestI.ac D E hd he (fun f g ops h => .inl ⟨_, [], 11, _, rfl, .tup (.cons (.same (by simp [V.ments])) (.cons (.all (by simp)) (.cons (.same (by simp [V.ments])) .nil))), by simp, hK1 f g ops h⟩) fun h => .inr (hK0 h))
theorem slotsOf_eq {D E : List Int} {gen gd ge : Int} {last : List OpR} (h : SInv D E gen last gd ge) : slotsOf D E = bestOf D E := if_pos ⟨h.d.len, h.e.len⟩
theorem bestI.g0 {D E : List Int} {last : List OpR} {gd ge : Int} (h : SInv D E 0 last gd ge) {K : V → List Obj → List Obj → Prop} (hK : K (.tup [iv 0, nilS, bv false]) [] []) : AC Try.prog 30 [slV D E] [] K := by
  have e := slotsOf_eq h
  rcases h.best with ⟨_, _, h1⟩ | ⟨h0, _⟩ | ⟨h0, _⟩
  · exact bestI.f D E h.d.b h.e.b (fun f g ops k => by rw [e, h1] at k; cases k) fun _ => hK
  · omega
  · omega
theorem bestI.g1 {D E : List Int} {gen gd ge : Int} {last : List OpR} (h : SInv D E gen last gd ge) (hg : 0 < gen) {K : V → List Obj → List Obj → Prop} (hK : K (.tup [iv gen, .is 11 (last.map encOp), bv true]) [] []) : AC Try.prog 30 [slV D E] [] K := by
  have e := slotsOf_eq h
  rcases h.best with ⟨h0, _⟩ | ⟨_, _, _, _, h1⟩ | ⟨_, _, _, _, h1⟩
  · omega
  · exact bestI.f D E h.d.b h.e.b (fun f g ops k => by rw [e, h1] at k; cases k; exact hK) fun k => by rw [e, h1] at k; cases k
  · exact bestI.f D E h.d.b h.e.b (fun f g ops k => by rw [e, h1] at k; cases k; exact hK) fun k => by rw [e, h1] at k; cases k
theorem SInv.last_len {D E : List Int} {gen gd ge : Int} {last : List OpR} (h : SInv D E gen last gd ge) : last.length ≤ 250 := by
  rcases h.c with ⟨_, _, _, rfl⟩ | ⟨_, _, h, _⟩ | ⟨_, _, h, _⟩
  · simp
  · exact (imgOf_some h).1.1.2
  · exact (imgOf_some h).1.1.2
theorem putI.y1 (D E : List Int) (hd : Bytes D) (he : Bytes E) (ops : List OpR) (n : Int) (hi : ∀ o ∈ ops, o.ints) (ho : ops.length ≤ 10000000) {X Y : List Int} (h : putR D E ops n = some (X, Y)) {K : V → List Obj → List Obj → Prop}
    (hK : K (.tup [slV X Y, bv true]) [] []) : AC Try.prog 34 [slV D E, .is 11 (ops.map encOp), iv n] [] K :=
  putI.f D E hd he ops n hi ho (fun X' Y' h' => by rw [h] at h'; cases h'; exact hK) fun h' => by rw [h] at h'; cases h'
theorem FnSlots.ac (D : List Int) (hd : Bytes D) {K : V → List Obj → List Obj → Prop} (hK : K (bv true) [] []) : AC Try.prog 8 [.is 1 (D.map encB)] [] K := by
  refine ac_body (ann [(23, [0, 3, 4, 5, 6, 15, 17], [(5, 0), (23, 0)]), (7, [0, 3, 4, 5, 6], [(5, 0), (23, 0)])]) [((997, 0), true), ((5, 0), true), ((23, 0), false), ((9, 0), true), ((41, 0), false), ((14, 0), true)] hm htt Try.func8 rfl (by kernel_rfl) rfl rfl ?_
  repeat' ((conv => whnf); first
    | (refine big2 D (fun _ => ?_) (fun _ => ?_))
    | (refine SlotsNewI.ac fun Z hZ => ?_)
    | (refine bF_dec (fun _ => ?_) (fun _ => ?_) <;> try (exfalso; omega))
    | (refine bF_eq (fun _ => ?_) (fun _ => ?_) <;> try (exfalso; omega))
    | (refine bF_ne (fun _ => ?_) (fun _ => ?_) <;> try (exfalso; omega))
    | (refine a64 (by omega) ?_)
    | (refine ix_at rfl (by omega) ?_)
    | (refine ⟨⟨rfl, by omega, by omega⟩, ?_⟩)
    | (refine map_at (by omega) ?_)
    | (refine alen ?_)
    | (refine amin ?_)
    | (refine amax ?_)
    | (refine ⟨⟨rfl, rfl, by simp [V.ments]⟩, ?_⟩)
    | (refine map_at0 (by omega) ?_)
    | (refine set_at rfl ?_)
    | (refine map_atI (by omega) ?_)
    | (refine map_atI0 (by omega) ?_)
    | (refine set_atI rfl ?_)
    | (refine ⟨⟨by decide, rfl, by omega, by omega, by omega, by dsimp only; omega⟩, ?_⟩)
    | (refine arem (by omega) ?_)
    | (refine aquo (by omega) (by omega) ?_)
    | (refine au8 ?_)
    | (refine au64 (by omega) ?_)
    | (refine anat ?_)
    | (refine szOk rfl ?_)
    | (refine dvOk rfl (by omega) ?_)
    | (refine nzOk (by decide) ?_)
    | (refine lgOk (by kernel_rfl) ?_)
    | (refine kpOk (by kernel_rfl) ?_)
    | fail)
  all_goals conv => whnf
  · exact hK
  have hD : D.length ≤ 1048576 := by omega
  have hmd : (D.map encB).length = D.length := List.length_map ..
  refine cwF_loop (fun m st => ∃ (i : Nat) (X Y : List Int) (gen : Int) (last : List OpR) (gd ge : Int) (v5 : V), (m = 12 - i ∧ i ≤ 12 ∧ 0 ≤ gen ∧ gen ≤ i ∧ SInv X Y gen last gd ge ∧ ((gen = 0 ∧ v5 = .ls (23, 0) 11 0 0 ∧ last = []) ∨ (0 < gen ∧ v5 = .is 11 (last.map encOp)))) ∧
    st = ⟨[.is 1 (D.map encB), .un, .un, .lp (5, 0) 2 0 0, iv gen, v5, iv i] ++ List.replicate 99 .un, mkOb [((5, 0), some (.arr false 2 [slV X Y])), ((23, 0), some (.arr true 11 []))]⟩) 12 (by kernel_rfl) ⟨0, Z, Z, 0, [], 0, 0, _, ⟨rfl, by omega, by omega, by omega, hZ ▸ SInv.zero, .inl ⟨rfl, rfl, rfl⟩⟩, rfl⟩ ?_
  rintro m st ⟨i, X, Y, gen, last, gd, ge, v5, ⟨rfl, i1, g0, g1, hI, hv⟩, rfl⟩
  refine cw_gen fun Q0 n0 x0 r0 => ?_
  rcases hv with ⟨rfl, rfl, rfl⟩ | ⟨gp, rfl⟩
  · repeat' ((conv => whnf); first
      | (refine cutN i (D.length - i) ⟨by omega, by omega⟩ (by omega) (by omega) ?_)
      | (refine DrawSlotsPut.ac _ (bytes_cut hd _ _) (by rw [List.length_take]; omega) fun _ _ ops n h1 h2 h3 h4 => ?_)
      | (refine bF_dec (fun _ => ?_) (fun _ => ?_) <;> try (exfalso; omega))
      | (refine bF_eq (fun _ => ?_) (fun _ => ?_) <;> try (exfalso; omega))
      | (refine bF_ne (fun _ => ?_) (fun _ => ?_) <;> try (exfalso; omega))
      | (refine a64 (by omega) ?_)
      | (refine ix_at rfl (by omega) ?_)
      | (refine ⟨⟨rfl, by omega, by omega⟩, ?_⟩)
      | (refine map_at (by omega) ?_)
      | (refine alen ?_)
      | (refine amin ?_)
      | (refine amax ?_)
      | (refine ⟨⟨rfl, rfl, by simp [V.ments]⟩, ?_⟩)
      | (refine map_at0 (by omega) ?_)
      | (refine set_at rfl ?_)
      | (refine map_atI (by omega) ?_)
      | (refine map_atI0 (by omega) ?_)
      | (refine set_atI rfl ?_)
      | (refine ⟨⟨by decide, rfl, by omega, by omega, by omega, by dsimp only; omega⟩, ?_⟩)
      | (refine arem (by omega) ?_)
      | (refine aquo (by omega) (by omega) ?_)
      | (refine au8 ?_)
      | (refine au64 (by omega) ?_)
      | (refine anat ?_)
      | (refine szOk rfl ?_)
      | (refine dvOk rfl (by omega) ?_)
      | (refine nzOk (by decide) ?_)
      | (refine lgOk (by kernel_rfl) ?_)
      | (refine kpOk (by kernel_rfl) ?_)
      | fail)
    all_goals conv => whnf
    rotate_left
    · refine x0 _ _ ?_
      repeat' ((conv => whnf); first
        | (refine SlotsOkI2 X Y (fun _ => ?_) (fun h => absurd ⟨hI.d.len, hI.e.len⟩ h))
        | (refine bF_dec (fun _ => ?_) (fun _ => ?_) <;> try (exfalso; omega))
        | (refine bF_eq (fun _ => ?_) (fun _ => ?_) <;> try (exfalso; omega))
        | (refine bF_ne (fun _ => ?_) (fun _ => ?_) <;> try (exfalso; omega))
        | (refine a64 (by omega) ?_)
        | (refine ix_at rfl (by omega) ?_)
        | (refine ⟨⟨rfl, by omega, by omega⟩, ?_⟩)
        | (refine map_at (by omega) ?_)
        | (refine alen ?_)
        | (refine amin ?_)
        | (refine amax ?_)
        | (refine ⟨⟨rfl, rfl, by simp [V.ments]⟩, ?_⟩)
        | (refine map_at0 (by omega) ?_)
        | (refine set_at rfl ?_)
        | (refine map_atI (by omega) ?_)
        | (refine map_atI0 (by omega) ?_)
        | (refine set_atI rfl ?_)
        | (refine ⟨⟨by decide, rfl, by omega, by omega, by omega, by dsimp only; omega⟩, ?_⟩)
        | (refine arem (by omega) ?_)
        | (refine aquo (by omega) (by omega) ?_)
        | (refine au8 ?_)
        | (refine au64 (by omega) ?_)
        | (refine anat ?_)
        | (refine szOk rfl ?_)
        | (refine dvOk rfl (by omega) ?_)
        | (refine nzOk (by decide) ?_)
        | (refine lgOk (by kernel_rfl) ?_)
        | (refine kpOk (by kernel_rfl) ?_)
        | fail)
      all_goals conv => whnf
      exact hK
    by_cases hk : ImOk (0 + 1) ops
    rotate_left
    · have hp := putR_none (n := n) hI hk
      repeat' ((conv => whnf); first
        | (refine LogOfS.ac ops h1 (by omega) (fun k1 k2 => absurd (few_ok (fun o ho => ⟨k1 o ho, h1 o ho⟩) (by omega) (by omega)) hk) (fun _ => ?_))
        | (refine putI.f X Y hI.d.b hI.e.b ops n h1 (by omega) (fun _ _ h => by rw [hp] at h; cases h) (fun _ => ?_))
        | (refine bestI.g0 hI ?_)
        | (refine SlotsOkS2 X Y (fun _ => ?_) (fun h => absurd ⟨hI.d.len, hI.e.len⟩ h))
        | (refine bF_ne (fun h => absurd rfl h) (fun _ => ?_))
        | (refine bF_dec (fun _ => ?_) (fun _ => ?_) <;> try (exfalso; omega))
        | (refine bF_eq (fun _ => ?_) (fun _ => ?_) <;> try (exfalso; omega))
        | (refine bF_ne (fun _ => ?_) (fun _ => ?_) <;> try (exfalso; omega))
        | (refine a64 (by omega) ?_)
        | (refine ix_at rfl (by omega) ?_)
        | (refine ⟨⟨rfl, by omega, by omega⟩, ?_⟩)
        | (refine map_at (by omega) ?_)
        | (refine alen ?_)
        | (refine amin ?_)
        | (refine amax ?_)
        | (refine ⟨⟨rfl, rfl, by simp [V.ments]⟩, ?_⟩)
        | (refine map_at0 (by omega) ?_)
        | (refine set_at rfl ?_)
        | (refine map_atI (by omega) ?_)
        | (refine map_atI0 (by omega) ?_)
        | (refine set_atI rfl ?_)
        | (refine ⟨⟨by decide, rfl, by omega, by omega, by omega, by dsimp only; omega⟩, ?_⟩)
        | (refine arem (by omega) ?_)
        | (refine aquo (by omega) (by omega) ?_)
        | (refine au8 ?_)
        | (refine au64 (by omega) ?_)
        | (refine anat ?_)
        | (refine szOk rfl ?_)
        | (refine dvOk rfl (by omega) ?_)
        | (refine nzOk (by decide) ?_)
        | (refine lgOk (by kernel_rfl) ?_)
        | (refine kpOk (by kernel_rfl) ?_)
        | fail)
      all_goals conv => whnf
      refine ⟨by kernel_rfl, 1, ?_⟩
      repeat' ((conv => whnf); first
        | (refine bF_dec (fun _ => ?_) (fun _ => ?_) <;> try (exfalso; omega))
        | (refine bF_eq (fun _ => ?_) (fun _ => ?_) <;> try (exfalso; omega))
        | (refine bF_ne (fun _ => ?_) (fun _ => ?_) <;> try (exfalso; omega))
        | (refine a64 (by omega) ?_)
        | (refine ix_at rfl (by omega) ?_)
        | (refine ⟨⟨rfl, by omega, by omega⟩, ?_⟩)
        | (refine map_at (by omega) ?_)
        | (refine alen ?_)
        | (refine amin ?_)
        | (refine amax ?_)
        | (refine ⟨⟨rfl, rfl, by simp [V.ments]⟩, ?_⟩)
        | (refine map_at0 (by omega) ?_)
        | (refine set_at rfl ?_)
        | (refine map_atI (by omega) ?_)
        | (refine map_atI0 (by omega) ?_)
        | (refine set_atI rfl ?_)
        | (refine ⟨⟨by decide, rfl, by omega, by omega, by omega, by dsimp only; omega⟩, ?_⟩)
        | (refine arem (by omega) ?_)
        | (refine aquo (by omega) (by omega) ?_)
        | (refine au8 ?_)
        | (refine au64 (by omega) ?_)
        | (refine anat ?_)
        | (refine szOk rfl ?_)
        | (refine dvOk rfl (by omega) ?_)
        | (refine nzOk (by decide) ?_)
        | (refine lgOk (by kernel_rfl) ?_)
        | (refine kpOk (by kernel_rfl) ?_)
        | fail)
      all_goals conv => whnf
      refine n0 _ ⟨by kernel_rfl, 12 - (i + 1), by omega, i + 1, X, Y, 0, [], _, _, _, ⟨rfl, by omega, by omega, by omega, hI, .inl ⟨rfl, rfl, rfl⟩⟩, rfl⟩
    obtain ⟨X', Y', xd, xe, hp, hI'⟩ := hI.put (n := n) hk (by omega)
    by_cases h7 : 7000 ≤ n
    · rw [if_pos h7, if_pos h7] at hI'
      have hJ := hI'
      repeat' ((conv => whnf); first
        | (refine LogOfS.ac ops h1 (by omega) (fun _ _ => ?_) (fun h => absurd ⟨fun o ho => (hk.1.1 o ho).1, hk.1.2⟩ h))
        | (refine putI.y1 X Y hI.d.b hI.e.b ops n h1 (by omega) hp ?_)
        | (refine bestI.g1 hJ (by omega) ?_)
        | (refine SlotsOkS2 X' Y' (fun _ => ?_) (fun h => absurd ⟨hJ.d.len, hJ.e.len⟩ h))
        | (refine bF_ne (fun h => absurd rfl h) (fun _ => ?_))
        | (refine bF_dec (fun _ => ?_) (fun _ => ?_) <;> try (exfalso; omega))
        | (refine bF_eq (fun _ => ?_) (fun _ => ?_) <;> try (exfalso; omega))
        | (refine bF_ne (fun _ => ?_) (fun _ => ?_) <;> try (exfalso; omega))
        | (refine a64 (by omega) ?_)
        | (refine ix_at rfl (by omega) ?_)
        | (refine ⟨⟨rfl, by omega, by omega⟩, ?_⟩)
        | (refine map_at (by omega) ?_)
        | (refine alen ?_)
        | (refine amin ?_)
        | (refine amax ?_)
        | (refine ⟨⟨rfl, rfl, by simp [V.ments]⟩, ?_⟩)
        | (refine map_at0 (by omega) ?_)
        | (refine set_at rfl ?_)
        | (refine map_atI (by omega) ?_)
        | (refine map_atI0 (by omega) ?_)
        | (refine set_atI rfl ?_)
        | (refine ⟨⟨by decide, rfl, by omega, by omega, by omega, by dsimp only; omega⟩, ?_⟩)
        | (refine arem (by omega) ?_)
        | (refine aquo (by omega) (by omega) ?_)
        | (refine au8 ?_)
        | (refine au64 (by omega) ?_)
        | (refine anat ?_)
        | (refine szOk rfl ?_)
        | (refine dvOk rfl (by omega) ?_)
        | (refine nzOk (by decide) ?_)
        | (refine lgOk (by kernel_rfl) ?_)
        | (refine kpOk (by kernel_rfl) ?_)
        | fail)
      all_goals conv => whnf
      have hll := hJ.last_len
      have hml : ((ops).map encOp).length = (ops).length := List.length_map ..
      refine cwF_loop (fun m st => ∃ j : Nat, (m = (ops).length - j ∧ j ≤ (ops).length) ∧
        st = ⟨[.is 1 (D.map encB), .un, .un, .lp (5, 0) 2 0 0, iv ((0 + 1)), .is 11 (ops.map encOp), iv i, .un, .un, .un, .un, .un, .un, .un, .un, .is 11 (ops.map encOp), .un, iv j] ++ List.replicate 88 .un, mkOb [((5, 0), some (.arr false 2 [slV X' Y'])), ((23, 0), some (.arr true 11 []))]⟩) (ops).length (by kernel_rfl) ⟨0, ⟨rfl, by omega⟩, rfl⟩ ?_
      rintro m st ⟨j, ⟨rfl, j1⟩, rfl⟩
      repeat' ((conv => whnf); first
        | (refine bF_dec (fun _ => ?_) (fun _ => ?_))
        | (refine bF_bool (fun h => absurd h (by simp)) (fun _ => ?_))
        | (refine bF_dec (fun _ => ?_) (fun _ => ?_) <;> try (exfalso; omega))
        | (refine bF_eq (fun _ => ?_) (fun _ => ?_) <;> try (exfalso; omega))
        | (refine bF_ne (fun _ => ?_) (fun _ => ?_) <;> try (exfalso; omega))
        | (refine a64 (by omega) ?_)
        | (refine ix_at rfl (by omega) ?_)
        | (refine ⟨⟨rfl, by omega, by omega⟩, ?_⟩)
        | (refine map_at (by omega) ?_)
        | (refine alen ?_)
        | (refine amin ?_)
        | (refine amax ?_)
        | (refine ⟨⟨rfl, rfl, by simp [V.ments]⟩, ?_⟩)
        | (refine map_at0 (by omega) ?_)
        | (refine set_at rfl ?_)
        | (refine map_atI (by omega) ?_)
        | (refine map_atI0 (by omega) ?_)
        | (refine set_atI rfl ?_)
        | (refine ⟨⟨by decide, rfl, by omega, by omega, by omega, by dsimp only; omega⟩, ?_⟩)
        | (refine arem (by omega) ?_)
        | (refine aquo (by omega) (by omega) ?_)
        | (refine au8 ?_)
        | (refine au64 (by omega) ?_)
        | (refine anat ?_)
        | (refine szOk rfl ?_)
        | (refine dvOk rfl (by omega) ?_)
        | (refine nzOk (by decide) ?_)
        | (refine lgOk (by kernel_rfl) ?_)
        | (refine kpOk (by kernel_rfl) ?_)
        | fail)
      all_goals conv => whnf
      · exact ⟨(ops).length - (j + 1), by omega, j + 1, ⟨rfl, by omega⟩, rfl⟩
      refine n0 _ ⟨by kernel_rfl, 12 - (i + 1), by omega, i + 1, X', Y', (0 + 1), ops, _, _, _, ⟨rfl, by omega, by omega, by omega, hJ, .inr ⟨by omega, rfl⟩⟩, rfl⟩
    · rw [if_neg h7, if_neg h7] at hI'
      have hJ := hI'
      repeat' ((conv => whnf); first
        | (refine LogOfS.ac ops h1 (by omega) (fun _ _ => ?_) (fun h => absurd ⟨fun o ho => (hk.1.1 o ho).1, hk.1.2⟩ h))
        | (refine putI.y1 X Y hI.d.b hI.e.b ops n h1 (by omega) hp ?_)
        | (refine bestI.g0 hJ ?_)
        | (refine SlotsOkS2 X' Y' (fun _ => ?_) (fun h => absurd ⟨hJ.d.len, hJ.e.len⟩ h))
        | (refine bF_ne (fun h => absurd rfl h) (fun _ => ?_))
        | (refine bF_dec (fun _ => ?_) (fun _ => ?_) <;> try (exfalso; omega))
        | (refine bF_eq (fun _ => ?_) (fun _ => ?_) <;> try (exfalso; omega))
        | (refine bF_ne (fun _ => ?_) (fun _ => ?_) <;> try (exfalso; omega))
        | (refine a64 (by omega) ?_)
        | (refine ix_at rfl (by omega) ?_)
        | (refine ⟨⟨rfl, by omega, by omega⟩, ?_⟩)
        | (refine map_at (by omega) ?_)
        | (refine alen ?_)
        | (refine amin ?_)
        | (refine amax ?_)
        | (refine ⟨⟨rfl, rfl, by simp [V.ments]⟩, ?_⟩)
        | (refine map_at0 (by omega) ?_)
        | (refine set_at rfl ?_)
        | (refine map_atI (by omega) ?_)
        | (refine map_atI0 (by omega) ?_)
        | (refine set_atI rfl ?_)
        | (refine ⟨⟨by decide, rfl, by omega, by omega, by omega, by dsimp only; omega⟩, ?_⟩)
        | (refine arem (by omega) ?_)
        | (refine aquo (by omega) (by omega) ?_)
        | (refine au8 ?_)
        | (refine au64 (by omega) ?_)
        | (refine anat ?_)
        | (refine szOk rfl ?_)
        | (refine dvOk rfl (by omega) ?_)
        | (refine nzOk (by decide) ?_)
        | (refine lgOk (by kernel_rfl) ?_)
        | (refine kpOk (by kernel_rfl) ?_)
        | fail)
      all_goals conv => whnf
      refine ⟨by kernel_rfl, 1, ?_⟩
      repeat' ((conv => whnf); first
        | (refine bF_dec (fun _ => ?_) (fun _ => ?_) <;> try (exfalso; omega))
        | (refine bF_eq (fun _ => ?_) (fun _ => ?_) <;> try (exfalso; omega))
        | (refine bF_ne (fun _ => ?_) (fun _ => ?_) <;> try (exfalso; omega))
        | (refine a64 (by omega) ?_)
        | (refine ix_at rfl (by omega) ?_)
        | (refine ⟨⟨rfl, by omega, by omega⟩, ?_⟩)
        | (refine map_at (by omega) ?_)
        | (refine alen ?_)
        | (refine amin ?_)
        | (refine amax ?_)
        | (refine ⟨⟨rfl, rfl, by simp [V.ments]⟩, ?_⟩)
        | (refine map_at0 (by omega) ?_)
        | (refine set_at rfl ?_)
        | (refine map_atI (by omega) ?_)
        | (refine map_atI0 (by omega) ?_)
        | (refine set_atI rfl ?_)
        | (refine ⟨⟨by decide, rfl, by omega, by omega, by omega, by dsimp only; omega⟩, ?_⟩)
        | (refine arem (by omega) ?_)
        | (refine aquo (by omega) (by omega) ?_)
        | (refine au8 ?_)
        | (refine au64 (by omega) ?_)
        | (refine anat ?_)
        | (refine szOk rfl ?_)
        | (refine dvOk rfl (by omega) ?_)
        | (refine nzOk (by decide) ?_)
        | (refine lgOk (by kernel_rfl) ?_)
        | (refine kpOk (by kernel_rfl) ?_)
        | fail)
      all_goals conv => whnf
      refine n0 _ ⟨by kernel_rfl, 12 - (i + 1), by omega, i + 1, X', Y', 0, [], _, _, _, ⟨rfl, by omega, by omega, by omega, hJ, .inl ⟨rfl, rfl, rfl⟩⟩, rfl⟩
  · repeat' ((conv => whnf); first
      | (refine cutN i (D.length - i) ⟨by omega, by omega⟩ (by omega) (by omega) ?_)
      | (refine DrawSlotsPut.ac _ (bytes_cut hd _ _) (by rw [List.length_take]; omega) fun _ _ ops n h1 h2 h3 h4 => ?_)
      | (refine bF_dec (fun _ => ?_) (fun _ => ?_) <;> try (exfalso; omega))
      | (refine bF_eq (fun _ => ?_) (fun _ => ?_) <;> try (exfalso; omega))
      | (refine bF_ne (fun _ => ?_) (fun _ => ?_) <;> try (exfalso; omega))
      | (refine a64 (by omega) ?_)
      | (refine ix_at rfl (by omega) ?_)
      | (refine ⟨⟨rfl, by omega, by omega⟩, ?_⟩)
      | (refine map_at (by omega) ?_)
      | (refine alen ?_)
      | (refine amin ?_)
      | (refine amax ?_)
      | (refine ⟨⟨rfl, rfl, by simp [V.ments]⟩, ?_⟩)
      | (refine map_at0 (by omega) ?_)
      | (refine set_at rfl ?_)
      | (refine map_atI (by omega) ?_)
      | (refine map_atI0 (by omega) ?_)
      | (refine set_atI rfl ?_)
      | (refine ⟨⟨by decide, rfl, by omega, by omega, by omega, by dsimp only; omega⟩, ?_⟩)
      | (refine arem (by omega) ?_)
      | (refine aquo (by omega) (by omega) ?_)
      | (refine au8 ?_)
      | (refine au64 (by omega) ?_)
      | (refine anat ?_)
      | (refine szOk rfl ?_)
      | (refine dvOk rfl (by omega) ?_)
      | (refine nzOk (by decide) ?_)
      | (refine lgOk (by kernel_rfl) ?_)
      | (refine kpOk (by kernel_rfl) ?_)
      | fail)
    all_goals conv => whnf
    rotate_left
    · refine x0 _ _ ?_
      repeat' ((conv => whnf); first
        | (refine SlotsOkI2 X Y (fun _ => ?_) (fun h => absurd ⟨hI.d.len, hI.e.len⟩ h))
        | (refine bF_dec (fun _ => ?_) (fun _ => ?_) <;> try (exfalso; omega))
        | (refine bF_eq (fun _ => ?_) (fun _ => ?_) <;> try (exfalso; omega))
        | (refine bF_ne (fun _ => ?_) (fun _ => ?_) <;> try (exfalso; omega))
        | (refine a64 (by omega) ?_)
        | (refine ix_at rfl (by omega) ?_)
        | (refine ⟨⟨rfl, by omega, by omega⟩, ?_⟩)
        | (refine map_at (by omega) ?_)
        | (refine alen ?_)
        | (refine amin ?_)
        | (refine amax ?_)
        | (refine ⟨⟨rfl, rfl, by simp [V.ments]⟩, ?_⟩)
        | (refine map_at0 (by omega) ?_)
        | (refine set_at rfl ?_)
        | (refine map_atI (by omega) ?_)
        | (refine map_atI0 (by omega) ?_)
        | (refine set_atI rfl ?_)
        | (refine ⟨⟨by decide, rfl, by omega, by omega, by omega, by dsimp only; omega⟩, ?_⟩)
        | (refine arem (by omega) ?_)
        | (refine aquo (by omega) (by omega) ?_)
        | (refine au8 ?_)
        | (refine au64 (by omega) ?_)
        | (refine anat ?_)
        | (refine szOk rfl ?_)
        | (refine dvOk rfl (by omega) ?_)
        | (refine nzOk (by decide) ?_)
        | (refine lgOk (by kernel_rfl) ?_)
        | (refine kpOk (by kernel_rfl) ?_)
        | fail)
      all_goals conv => whnf
      exact hK
    by_cases hk : ImOk (gen + 1) ops
    rotate_left
    · have hp := putR_none (n := n) hI hk
      repeat' ((conv => whnf); first
        | (refine LogOfS.ac ops h1 (by omega) (fun k1 k2 => absurd (few_ok (fun o ho => ⟨k1 o ho, h1 o ho⟩) (by omega) (by omega)) hk) (fun _ => ?_))
        | (refine putI.f X Y hI.d.b hI.e.b ops n h1 (by omega) (fun _ _ h => by rw [hp] at h; cases h) (fun _ => ?_))
        | (refine bestI.g1 hI (by omega) ?_)
        | (refine SlotsOkS2 X Y (fun _ => ?_) (fun h => absurd ⟨hI.d.len, hI.e.len⟩ h))
        | (refine bF_ne (fun h => absurd rfl h) (fun _ => ?_))
        | (refine bF_dec (fun _ => ?_) (fun _ => ?_) <;> try (exfalso; omega))
        | (refine bF_eq (fun _ => ?_) (fun _ => ?_) <;> try (exfalso; omega))
        | (refine bF_ne (fun _ => ?_) (fun _ => ?_) <;> try (exfalso; omega))
        | (refine a64 (by omega) ?_)
        | (refine ix_at rfl (by omega) ?_)
        | (refine ⟨⟨rfl, by omega, by omega⟩, ?_⟩)
        | (refine map_at (by omega) ?_)
        | (refine alen ?_)
        | (refine amin ?_)
        | (refine amax ?_)
        | (refine ⟨⟨rfl, rfl, by simp [V.ments]⟩, ?_⟩)
        | (refine map_at0 (by omega) ?_)
        | (refine set_at rfl ?_)
        | (refine map_atI (by omega) ?_)
        | (refine map_atI0 (by omega) ?_)
        | (refine set_atI rfl ?_)
        | (refine ⟨⟨by decide, rfl, by omega, by omega, by omega, by dsimp only; omega⟩, ?_⟩)
        | (refine arem (by omega) ?_)
        | (refine aquo (by omega) (by omega) ?_)
        | (refine au8 ?_)
        | (refine au64 (by omega) ?_)
        | (refine anat ?_)
        | (refine szOk rfl ?_)
        | (refine dvOk rfl (by omega) ?_)
        | (refine nzOk (by decide) ?_)
        | (refine lgOk (by kernel_rfl) ?_)
        | (refine kpOk (by kernel_rfl) ?_)
        | fail)
      all_goals conv => whnf
      have hll := hI.last_len
      have hml : ((last).map encOp).length = (last).length := List.length_map ..
      refine cwF_loop (fun m st => ∃ j : Nat, (m = (last).length - j ∧ j ≤ (last).length) ∧
        st = ⟨[.is 1 (D.map encB), .un, .un, .lp (5, 0) 2 0 0, iv (gen), .is 11 (last.map encOp), iv i, .un, .un, .un, .un, .un, .un, .un, .un, .is 11 (last.map encOp), .un, iv j] ++ List.replicate 88 .un, mkOb [((5, 0), some (.arr false 2 [slV X Y])), ((23, 0), some (.arr true 11 []))]⟩) (last).length (by kernel_rfl) ⟨0, ⟨rfl, by omega⟩, rfl⟩ ?_
      rintro m st ⟨j, ⟨rfl, j1⟩, rfl⟩
      repeat' ((conv => whnf); first
        | (refine bF_dec (fun _ => ?_) (fun _ => ?_))
        | (refine bF_bool (fun h => absurd h (by simp)) (fun _ => ?_))
        | (refine bF_dec (fun _ => ?_) (fun _ => ?_) <;> try (exfalso; omega))
        | (refine bF_eq (fun _ => ?_) (fun _ => ?_) <;> try (exfalso; omega))
        | (refine bF_ne (fun _ => ?_) (fun _ => ?_) <;> try (exfalso; omega))
        | (refine a64 (by omega) ?_)
        | (refine ix_at rfl (by omega) ?_)
        | (refine ⟨⟨rfl, by omega, by omega⟩, ?_⟩)
        | (refine map_at (by omega) ?_)
        | (refine alen ?_)
        | (refine amin ?_)
        | (refine amax ?_)
        | (refine ⟨⟨rfl, rfl, by simp [V.ments]⟩, ?_⟩)
        | (refine map_at0 (by omega) ?_)
        | (refine set_at rfl ?_)
        | (refine map_atI (by omega) ?_)
        | (refine map_atI0 (by omega) ?_)
        | (refine set_atI rfl ?_)
        | (refine ⟨⟨by decide, rfl, by omega, by omega, by omega, by dsimp only; omega⟩, ?_⟩)
        | (refine arem (by omega) ?_)
        | (refine aquo (by omega) (by omega) ?_)
        | (refine au8 ?_)
        | (refine au64 (by omega) ?_)
        | (refine anat ?_)
        | (refine szOk rfl ?_)
        | (refine dvOk rfl (by omega) ?_)
        | (refine nzOk (by decide) ?_)
        | (refine lgOk (by kernel_rfl) ?_)
        | (refine kpOk (by kernel_rfl) ?_)
        | fail)
      all_goals conv => whnf
      · exact ⟨(last).length - (j + 1), by omega, j + 1, ⟨rfl, by omega⟩, rfl⟩
      refine n0 _ ⟨by kernel_rfl, 12 - (i + 1), by omega, i + 1, X, Y, gen, last, _, _, _, ⟨rfl, by omega, by omega, by omega, hI, .inr ⟨by omega, rfl⟩⟩, rfl⟩
    obtain ⟨X', Y', xd, xe, hp, hI'⟩ := hI.put (n := n) hk (by omega)
    by_cases h7 : 7000 ≤ n
    · rw [if_pos h7, if_pos h7] at hI'
      have hJ := hI'
      repeat' ((conv => whnf); first
        | (refine LogOfS.ac ops h1 (by omega) (fun _ _ => ?_) (fun h => absurd ⟨fun o ho => (hk.1.1 o ho).1, hk.1.2⟩ h))
        | (refine putI.y1 X Y hI.d.b hI.e.b ops n h1 (by omega) hp ?_)
        | (refine bestI.g1 hJ (by omega) ?_)
        | (refine SlotsOkS2 X' Y' (fun _ => ?_) (fun h => absurd ⟨hJ.d.len, hJ.e.len⟩ h))
        | (refine bF_ne (fun h => absurd rfl h) (fun _ => ?_))
        | (refine bF_dec (fun _ => ?_) (fun _ => ?_) <;> try (exfalso; omega))
        | (refine bF_eq (fun _ => ?_) (fun _ => ?_) <;> try (exfalso; omega))
        | (refine bF_ne (fun _ => ?_) (fun _ => ?_) <;> try (exfalso; omega))
        | (refine a64 (by omega) ?_)
        | (refine ix_at rfl (by omega) ?_)
        | (refine ⟨⟨rfl, by omega, by omega⟩, ?_⟩)
        | (refine map_at (by omega) ?_)
        | (refine alen ?_)
        | (refine amin ?_)
        | (refine amax ?_)
        | (refine ⟨⟨rfl, rfl, by simp [V.ments]⟩, ?_⟩)
        | (refine map_at0 (by omega) ?_)
        | (refine set_at rfl ?_)
        | (refine map_atI (by omega) ?_)
        | (refine map_atI0 (by omega) ?_)
        | (refine set_atI rfl ?_)
        | (refine ⟨⟨by decide, rfl, by omega, by omega, by omega, by dsimp only; omega⟩, ?_⟩)
        | (refine arem (by omega) ?_)
        | (refine aquo (by omega) (by omega) ?_)
        | (refine au8 ?_)
        | (refine au64 (by omega) ?_)
        | (refine anat ?_)
        | (refine szOk rfl ?_)
        | (refine dvOk rfl (by omega) ?_)
        | (refine nzOk (by decide) ?_)
        | (refine lgOk (by kernel_rfl) ?_)
        | (refine kpOk (by kernel_rfl) ?_)
        | fail)
      all_goals conv => whnf
      have hll := hJ.last_len
      have hml : ((ops).map encOp).length = (ops).length := List.length_map ..
      refine cwF_loop (fun m st => ∃ j : Nat, (m = (ops).length - j ∧ j ≤ (ops).length) ∧
        st = ⟨[.is 1 (D.map encB), .un, .un, .lp (5, 0) 2 0 0, iv ((gen + 1)), .is 11 (ops.map encOp), iv i, .un, .un, .un, .un, .un, .un, .un, .un, .is 11 (ops.map encOp), .un, iv j] ++ List.replicate 88 .un, mkOb [((5, 0), some (.arr false 2 [slV X' Y'])), ((23, 0), some (.arr true 11 []))]⟩) (ops).length (by kernel_rfl) ⟨0, ⟨rfl, by omega⟩, rfl⟩ ?_
      rintro m st ⟨j, ⟨rfl, j1⟩, rfl⟩
      repeat' ((conv => whnf); first
        | (refine bF_dec (fun _ => ?_) (fun _ => ?_))
        | (refine bF_bool (fun h => absurd h (by simp)) (fun _ => ?_))
        | (refine bF_dec (fun _ => ?_) (fun _ => ?_) <;> try (exfalso; omega))
        | (refine bF_eq (fun _ => ?_) (fun _ => ?_) <;> try (exfalso; omega))
        | (refine bF_ne (fun _ => ?_) (fun _ => ?_) <;> try (exfalso; omega))
        | (refine a64 (by omega) ?_)
        | (refine ix_at rfl (by omega) ?_)
        | (refine ⟨⟨rfl, by omega, by omega⟩, ?_⟩)
        | (refine map_at (by omega) ?_)
        | (refine alen ?_)
        | (refine amin ?_)
        | (refine amax ?_)
        | (refine ⟨⟨rfl, rfl, by simp [V.ments]⟩, ?_⟩)
        | (refine map_at0 (by omega) ?_)
        | (refine set_at rfl ?_)
        | (refine map_atI (by omega) ?_)
        | (refine map_atI0 (by omega) ?_)
        | (refine set_atI rfl ?_)
        | (refine ⟨⟨by decide, rfl, by omega, by omega, by omega, by dsimp only; omega⟩, ?_⟩)
        | (refine arem (by omega) ?_)
        | (refine aquo (by omega) (by omega) ?_)
        | (refine au8 ?_)
        | (refine au64 (by omega) ?_)
        | (refine anat ?_)
        | (refine szOk rfl ?_)
        | (refine dvOk rfl (by omega) ?_)
        | (refine nzOk (by decide) ?_)
        | (refine lgOk (by kernel_rfl) ?_)
        | (refine kpOk (by kernel_rfl) ?_)
        | fail)
      all_goals conv => whnf
      · exact ⟨(ops).length - (j + 1), by omega, j + 1, ⟨rfl, by omega⟩, rfl⟩
      refine n0 _ ⟨by kernel_rfl, 12 - (i + 1), by omega, i + 1, X', Y', (gen + 1), ops, _, _, _, ⟨rfl, by omega, by omega, by omega, hJ, .inr ⟨by omega, rfl⟩⟩, rfl⟩
    · rw [if_neg h7, if_neg h7] at hI'
      have hJ := hI'
      repeat' ((conv => whnf); first
        | (refine LogOfS.ac ops h1 (by omega) (fun _ _ => ?_) (fun h => absurd ⟨fun o ho => (hk.1.1 o ho).1, hk.1.2⟩ h))
        | (refine putI.y1 X Y hI.d.b hI.e.b ops n h1 (by omega) hp ?_)
        | (refine bestI.g1 hJ (by omega) ?_)
        | (refine SlotsOkS2 X' Y' (fun _ => ?_) (fun h => absurd ⟨hJ.d.len, hJ.e.len⟩ h))
        | (refine bF_ne (fun h => absurd rfl h) (fun _ => ?_))
        | (refine bF_dec (fun _ => ?_) (fun _ => ?_) <;> try (exfalso; omega))
        | (refine bF_eq (fun _ => ?_) (fun _ => ?_) <;> try (exfalso; omega))
        | (refine bF_ne (fun _ => ?_) (fun _ => ?_) <;> try (exfalso; omega))
        | (refine a64 (by omega) ?_)
        | (refine ix_at rfl (by omega) ?_)
        | (refine ⟨⟨rfl, by omega, by omega⟩, ?_⟩)
        | (refine map_at (by omega) ?_)
        | (refine alen ?_)
        | (refine amin ?_)
        | (refine amax ?_)
        | (refine ⟨⟨rfl, rfl, by simp [V.ments]⟩, ?_⟩)
        | (refine map_at0 (by omega) ?_)
        | (refine set_at rfl ?_)
        | (refine map_atI (by omega) ?_)
        | (refine map_atI0 (by omega) ?_)
        | (refine set_atI rfl ?_)
        | (refine ⟨⟨by decide, rfl, by omega, by omega, by omega, by dsimp only; omega⟩, ?_⟩)
        | (refine arem (by omega) ?_)
        | (refine aquo (by omega) (by omega) ?_)
        | (refine au8 ?_)
        | (refine au64 (by omega) ?_)
        | (refine anat ?_)
        | (refine szOk rfl ?_)
        | (refine dvOk rfl (by omega) ?_)
        | (refine nzOk (by decide) ?_)
        | (refine lgOk (by kernel_rfl) ?_)
        | (refine kpOk (by kernel_rfl) ?_)
        | fail)
      all_goals conv => whnf
      have hll := hJ.last_len
      have hml : ((last).map encOp).length = (last).length := List.length_map ..
      refine cwF_loop (fun m st => ∃ j : Nat, (m = (last).length - j ∧ j ≤ (last).length) ∧
        st = ⟨[.is 1 (D.map encB), .un, .un, .lp (5, 0) 2 0 0, iv (gen), .is 11 (last.map encOp), iv i, .un, .un, .un, .un, .un, .un, .un, .un, .is 11 (last.map encOp), .un, iv j] ++ List.replicate 88 .un, mkOb [((5, 0), some (.arr false 2 [slV X' Y'])), ((23, 0), some (.arr true 11 []))]⟩) (last).length (by kernel_rfl) ⟨0, ⟨rfl, by omega⟩, rfl⟩ ?_
      rintro m st ⟨j, ⟨rfl, j1⟩, rfl⟩
      repeat' ((conv => whnf); first
        | (refine bF_dec (fun _ => ?_) (fun _ => ?_))
        | (refine bF_bool (fun h => absurd h (by simp)) (fun _ => ?_))
        | (refine bF_dec (fun _ => ?_) (fun _ => ?_) <;> try (exfalso; omega))
        | (refine bF_eq (fun _ => ?_) (fun _ => ?_) <;> try (exfalso; omega))
        | (refine bF_ne (fun _ => ?_) (fun _ => ?_) <;> try (exfalso; omega))
        | (refine a64 (by omega) ?_)
        | (refine ix_at rfl (by omega) ?_)
        | (refine ⟨⟨rfl, by omega, by omega⟩, ?_⟩)
        | (refine map_at (by omega) ?_)
        | (refine alen ?_)
        | (refine amin ?_)
        | (refine amax ?_)
        | (refine ⟨⟨rfl, rfl, by simp [V.ments]⟩, ?_⟩)
        | (refine map_at0 (by omega) ?_)
        | (refine set_at rfl ?_)
        | (refine map_atI (by omega) ?_)
        | (refine map_atI0 (by omega) ?_)
        | (refine set_atI rfl ?_)
        | (refine ⟨⟨by decide, rfl, by omega, by omega, by omega, by dsimp only; omega⟩, ?_⟩)
        | (refine arem (by omega) ?_)
        | (refine aquo (by omega) (by omega) ?_)
        | (refine au8 ?_)
        | (refine au64 (by omega) ?_)
        | (refine anat ?_)
        | (refine szOk rfl ?_)
        | (refine dvOk rfl (by omega) ?_)
        | (refine nzOk (by decide) ?_)
        | (refine lgOk (by kernel_rfl) ?_)
        | (refine kpOk (by kernel_rfl) ?_)
        | fail)
      all_goals conv => whnf
      · exact ⟨(last).length - (j + 1), by omega, j + 1, ⟨rfl, by omega⟩, rfl⟩
      refine n0 _ ⟨by kernel_rfl, 12 - (i + 1), by omega, i + 1, X', Y', gen, last, _, _, _, ⟨rfl, by omega, by omega, by omega, hJ, .inr ⟨by omega, rfl⟩⟩, rfl⟩
end Go.Eng.T

namespace Go.Eng.S
open Go.Eng
set_option maxRecDepth 100000

/-- Two rows that differ at one place at most. -/
def Near (S T : List Int) : Prop := S.length = T.length ∧ ∃ p : Nat, ∀ i : Nat, i ≠ p → S[i]? = T[i]?
theorem Near.drop {S T : List Int} (h : Near S T) (k : Nat) : Near (S.drop k) (T.drop k) := by
  obtain ⟨hl, p, hp⟩ := h
  refine ⟨by simp [hl], p - k, fun i hi => ?_⟩
  rw [List.getElem?_drop, List.getElem?_drop]
  by_cases h1 : k + i = p
  · exact absurd (by omega) hi
  · exact hp _ h1
theorem pre_get {S d : List Int} (h : S.take d.length = d) {i : Nat} (hi : i < d.length) : S[i]? = d[i]? := by
  have : (S.take d.length)[i]? = S[i]? := by rw [List.getElem?_take, if_pos hi]
  rw [← this, h]
theorem catB_pre : ∀ {l m : List Int} {T : List Int}, l.length = m.length → (∀ x ∈ l, I64 x) → (∀ x ∈ m, I64 x) → T.take (catB l).length = catB l → T.take (catB m).length = catB m → l = m
  | [], [], _, _, _, _, _, _ => rfl
  | [], _ :: _, _, h, _, _, _, _ => by simp at h
  | _ :: _, [], _, h, _, _, _, _ => by simp at h
  | x :: l, y :: m, T, h, h1, h2, e1, e2 => by
    have pre : ∀ {z : Int} {r : List Int}, T.take (catB (z :: r)).length = catB (z :: r) → T.take (numB z).length = numB z ∧ (T.drop (numB z).length).take (catB r).length = catB r := by
      intro z r e
      simp only [catB, List.length_append, List.take_add] at e
      exact List.append_inj e (by
        have := congrArg List.length e
        simp only [List.length_append, List.length_take, List.length_drop] at this ⊢
        omega)
    obtain ⟨a1, b1⟩ := pre e1
    obtain ⟨a2, b2⟩ := pre e2
    have u1 : At T 0 x := ⟨h1 x List.mem_cons_self, by rw [List.drop_zero]; exact a1⟩
    have u2 : At T 0 y := ⟨h2 y List.mem_cons_self, by rw [List.drop_zero]; exact a2⟩
    obtain rfl := at_unique u1 u2
    rw [catB_pre (by simpa using h) (fun z hz => h1 z (List.mem_cons_of_mem _ hz)) (fun z hz => h2 z (List.mem_cons_of_mem _ hz)) b1 b2]
theorem sumB_set : ∀ {d : List Int} {i : Nat} {x : Int} (h : i < d.length), sumB (d.set i x) = sumB d - d[i] + x
  | a :: d, 0, x, _ => by simp only [List.set_cons_zero, sumB, List.getElem_cons_zero]; omega
  | a :: d, i + 1, x, h => by
    have h' : i < d.length := by simpa using h
    simp only [List.set_cons_succ, sumB, List.getElem_cons_succ, sumB_set h']; omega
/-- Records that differ at one place at most begin with the same operation. -/
theorem rec_near {S T : List Int} {o p : OpR} (ho : o.good) (hp : p.good) (hn : Near S T) (h1 : S.take (recB (opB o)).length = recB (opB o)) (h2 : T.take (recB (opB p)).length = recB (opB p)) : o = p := by
  obtain ⟨hl, q, hq⟩ := hn
  have l1 := recB_len (d := opB o)
  have l2 := recB_len (d := opB p)
  have g1 : ∀ i, i < (recB (opB o)).length → S[i]? = (recB (opB o))[i]? := fun i hi => pre_get h1 hi
  have g2 : ∀ i, i < (recB (opB p)).length → T[i]? = (recB (opB p))[i]? := fun i hi => pre_get h2 hi
  by_cases hd : (opB o).length = (opB p).length
  · refine opB_inj ho.2 hp.2 (List.ext_getElem? fun i => ?_)
    by_cases hi : i < (opB o).length
    · by_cases hiq : i + 1 = q
      · -- the sums tell
        have b1 : ∀ x ∈ opB o, 0 ≤ x ∧ x ≤ 255 := catB_bytes ho.2
        have b2 : ∀ x ∈ opB p, 0 ≤ x ∧ x ≤ 255 := catB_bytes hp.2
        have r1 := sumB_range b1
        have r2 := sumB_range b2
        have n1 := opB_len (o := o)
        have n2 := opB_len (o := p)
        have hset : opB p = (opB o).set i ((opB p)[i]'(by omega)) := by
          refine List.ext_getElem? fun j => ?_
          by_cases hj : j = i
          · subst hj
            rw [List.getElem?_set_self hi, List.getElem?_eq_getElem (by omega : j < (opB p).length)]
          · rw [List.getElem?_set_ne (Ne.symm hj)]
            by_cases hjl : j < (opB o).length
            · have e1 := g1 (j + 1) (by omega)
              have e2 := g2 (j + 1) (by omega)
              rw [hq (j + 1) (by omega), e2] at e1
              simp only [recB, List.cons_append, List.getElem?_cons_succ] at e1
              rw [List.getElem?_append_left (by omega), List.getElem?_append_left (by omega)] at e1
              exact e1
            · rw [List.getElem?_eq_none (by omega), List.getElem?_eq_none (by omega)]
        have s0 : sumB (opB p) = sumB (opB o) - (opB o)[i] + (opB p)[i]'(by omega) := by
          conv => lhs; rw [hset]
          exact sumB_set hi
        have t1 : ∀ k, k < 2 → ((recB (opB o))[(opB o).length + 1 + k]?) = ((recB (opB p))[(opB p).length + 1 + k]?) := fun k hk => by
          rw [← g1 _ (by omega), ← g2 _ (by omega), ← hd]
          exact hq _ (by omega)
        have rt : ∀ (d : List Int) k, (recB d)[d.length + 1 + k]? = [sumB d / 256 % 256, sumB d % 256][k]? := fun d k => by
          simp only [recB, List.cons_append]
          rw [show d.length + 1 + k = (d.length + k) + 1 by omega, List.getElem?_cons_succ, List.getElem?_append_right (by omega), Nat.add_sub_cancel_left]
        have u0 := t1 0 (by omega)
        have u1 := t1 1 (by omega)
        rw [rt, rt] at u0 u1
        simp only [List.getElem?_cons_zero, List.getElem?_cons_succ, Option.some.injEq] at u0 u1
        rw [List.getElem?_eq_getElem hi, List.getElem?_eq_getElem (by omega : i < (opB p).length)]
        congr 1
        omega
      · have e1 := g1 (i + 1) (by omega)
        have e2 := g2 (i + 1) (by omega)
        rw [hq (i + 1) hiq, e2] at e1
        simp only [recB, List.cons_append, List.getElem?_cons_succ] at e1
        rw [List.getElem?_append_left (by omega), List.getElem?_append_left (by omega)] at e1
        exact e1.symm
    · rw [List.getElem?_eq_none (by omega), List.getElem?_eq_none (by omega)]
  · have q0 : q = 0 := by
      by_cases h : q = 0
      · exact h
      · have e1 := g1 0 (by omega)
        have e2 := g2 0 (by omega)
        rw [hq 0 (Ne.symm h), e2] at e1
        simp only [recB, List.cons_append, List.getElem?_cons_zero, Option.some.injEq] at e1
        omega
    subst q0
    have ht : S.drop 1 = T.drop 1 := List.ext_getElem? fun i => by
      rw [List.getElem?_drop, List.getElem?_drop]; exact hq _ (by omega)
    have pre : ∀ {R : List Int} {d : List Int}, R.take (recB d).length = recB d → (R.drop 1).take d.length = d := by
      intro R d e
      have e2 := congrArg (fun l => (l.drop 1).take d.length) e
      simp only [recB_len] at e2
      rw [List.drop_take, List.take_take] at e2
      rw [show min d.length (d.length + 3 - 1) = d.length by omega] at e2
      rw [e2]
      simp only [recB, List.cons_append, List.drop_succ_cons, List.drop_zero]
      exact List.take_left' rfl
    have p1 := pre h1
    have p2 := pre h2
    rw [ht] at p1
    have := catB_pre (l := o.fs) (m := p.fs) rfl ho.2 hp.2 p1 p2
    exact absurd (by unfold opB; rw [this]) hd
theorem log_near : ∀ {a b : List OpR} {S T : List Int}, a.length = b.length → (∀ o ∈ a, o.good) → (∀ o ∈ b, o.good) → Near S T → S.take (logB a).length = logB a → T.take (logB b).length = logB b → a = b
  | [], [], _, _, _, _, _, _, _, _ => rfl
  | [], _ :: _, _, _, h, _, _, _, _, _ => by simp at h
  | _ :: _, [], _, _, h, _, _, _, _, _ => by simp at h
  | o :: a, p :: b, S, T, h, ha, hb, hn, e1, e2 => by
    have pre : ∀ {R : List Int} {z : OpR} {r : List OpR}, R.take (logB (z :: r)).length = logB (z :: r) → R.take (recB (opB z)).length = recB (opB z) ∧ (R.drop (recB (opB z)).length).take (logB r).length = logB r := by
      intro R z r e
      simp only [logB, List.length_append, List.take_add] at e
      exact List.append_inj e (by
        have := congrArg List.length e
        simp only [List.length_append, List.length_take, List.length_drop] at this ⊢
        omega)
    obtain ⟨a1, b1⟩ := pre e1
    obtain ⟨a2, b2⟩ := pre e2
    obtain rfl := rec_near (ha o List.mem_cons_self) (hb p List.mem_cons_self) hn a1 a2
    rw [log_near (by simpa using h) (fun z hz => ha z (List.mem_cons_of_mem _ hz)) (fun z hz => hb z (List.mem_cons_of_mem _ hz)) (hn.drop _) b1 b2]
end Go.Eng.S

namespace Go.Eng.T
open Go.Proofs Go.Eng Go.Eng.S
set_option maxRecDepth 100000

theorem near_set {D : List Int} {p : Nat} {x : Int} : Near D (D.set p x) := ⟨by simp, p, fun i hi => by rw [List.getElem?_set_ne (Ne.symm hi)]⟩
theorem Near.take {S T : List Int} (h : Near S T) (k : Nat) : Near (S.take k) (T.take k) := by
  obtain ⟨hl, p, hp⟩ := h
  refine ⟨by simp [hl], p, fun i hi => ?_⟩
  rw [List.getElem?_take, List.getElem?_take]
  split
  · exact hp i hi
  · rfl
theorem four_inj {a b : Int} (ha : 0 ≤ a ∧ a ≤ 1000000) (hb : 0 ≤ b ∧ b ≤ 1000000) (h : ∀ i, i < 4 → (four a).getD i default = (four b).getD i default) : a = b := by
  have h0 := h 0 (by omega)
  have h1 := h 1 (by omega)
  have h2 := h 2 (by omega)
  have h3 := h 3 (by omega)
  simp only [four, List.getD_cons_zero, List.getD_cons_succ] at h0 h1 h2 h3
  omega
/-- An image with one changed byte is not one of as many operations. -/
theorem img_changed {g g' : Int} {ops ops' : List OpR} (h : ImOk g ops) (h' : ImOk g' ops') {p : Nat} {x : Int} (hp : p < 7000) (hx : (imB g ops).getD p default ≠ x) (e : imB g' ops' = (imB g ops).set p x) (hl : ops'.length = ops.length) : False := by
  have L := imB_len h
  have gp : ∀ i, i ≠ p → (imB g' ops').getD i default = (imB g ops).getD i default := fun i hi => by
    rw [e, List.getD_eq_getElem?_getD, List.getElem?_set_ne (Ne.symm hi), ← List.getD_eq_getElem?_getD]
  have gpp : (imB g' ops').getD p default = x := by
    rw [e, List.getD_eq_getElem?_getD, List.getElem?_set_self (by omega)]; rfl
  have hg := h.2.1
  have hg' := h'.2.1
  have eg : g' = g := by
    refine four_inj (by omega) (by omega) fun i hi => ?_
    by_cases hq : p < 4
    · rw [← im_tail h hi, ← im_tail h' hi]
      exact gp _ (by omega)
    · rw [← im_head h hi, ← im_head h' hi]
      exact gp _ (by omega)
  have hn : Near (imB g ops) (imB g' ops') := e ▸ near_set
  have i1 := img_of h
  have i2 := img_of h'
  have l1 := i1.log
  have l2 := i2.log
  have hops : ops = ops' := log_near hl.symm h.1.1 h'.1.1 (hn.drop 6) l1 l2
  subst hops; subst eg
  exact hx gpp
end Go.Eng.T

namespace Go.Eng.T
open Go.Proofs Go.Eng Go.Eng.S
set_option maxRecDepth 100000
set_option maxHeartbeats 0

theorem lpick.ac (D : List Int) (hd : Bytes D) (hl : D.length ≤ 1048576) (a n : Int) (ha : 0 ≤ a ∧ a ≤ 1000000) {K : V → List Obj → List Obj → Prop} (hK : ∀ r, 0 ≤ r → (r < n ∨ r = 0) → K (iv r) [] []) : AC Try.prog 16 [.is 1 (D.map encB), iv a, iv n] [] K := by
  have hb := fun i => hd.get i
  refine ac_body (ann [(5, [0, 1, 2, 7, 8], [])]) [((997, 0), true)] hm htt Try.func16 rfl (by kernel_rfl) rfl rfl ?_
  repeat' ((conv => whnf); first
    | (refine bF_dec (fun _ => ?_) (fun _ => ?_) <;> try (exfalso; omega))
    | (refine bF_eq (fun _ => ?_) (fun _ => ?_) <;> try (exfalso; omega))
    | (refine bF_ne (fun _ => ?_) (fun _ => ?_) <;> try (exfalso; omega))
    | (refine a64 (by omega) ?_)
    | (refine ix_at rfl (by omega) ?_)
    | (refine ⟨⟨rfl, by omega, by omega⟩, ?_⟩)
    | (refine map_at (by omega) ?_)
    | (refine alen ?_)
    | (refine amin ?_)
    | (refine amax ?_)
    | (refine ⟨⟨rfl, rfl, by simp [V.ments]⟩, ?_⟩)
    | (refine map_at0 (by omega) ?_)
    | (refine set_at rfl ?_)
    | (refine map_atI (by omega) ?_)
    | (refine map_atI0 (by omega) ?_)
    | (refine set_atI rfl ?_)
    | (refine ⟨⟨by decide, rfl, by omega, by omega, by omega, by dsimp only; omega⟩, ?_⟩)
    | (refine arem (by omega) ?_)
    | (refine aquo (by omega) (by omega) ?_)
    | (refine au8 ?_)
    | (refine au64 (by omega) ?_)
    | (refine anat ?_)
    | (refine szOk rfl ?_)
    | (refine dvOk rfl (by omega) ?_)
    | (refine nzOk (by decide) ?_)
    | (refine lgOk (by kernel_rfl) ?_)
    | (refine kpOk (by kernel_rfl) ?_)
    | fail)
  all_goals conv => whnf
  · exact hK 0 (by omega) (.inr rfl)
  · exact hK 0 (by omega) (.inr rfl)
  refine cwF_loop (fun m st => ∃ (i : Nat) (x : Int), (m = 3 - i ∧ i ≤ 3 ∧ 0 ≤ x ∧ (i = 0 → x = 0) ∧ (i = 1 → x ≤ 255) ∧ (i = 2 → x ≤ 8160) ∧ (i = 3 → x ≤ 253215)) ∧
    st = ⟨[.is 1 (D.map encB), iv a, iv n, .un, .un, .un, .un, iv x, iv i] ++ List.replicate 29 .un, mkOb []⟩) 3 (by kernel_rfl) ⟨0, 0, ⟨rfl, by omega, by omega, by omega, by omega, by omega, by omega⟩, rfl⟩ ?_
  rintro m st ⟨i, x, ⟨rfl, i1, x0, xa, xb, xc, xd⟩, rfl⟩
  repeat' ((conv => whnf); first
    | (refine aremB (by omega) (by omega) fun r _ _ => ?_)
    | (refine map_atI (by omega) ?_; have hbr := hb r.toNat; generalize D.getD r.toNat default = b at hbr ⊢)
    | (refine bF_dec (fun _ => ?_) (fun _ => ?_) <;> try (exfalso; omega))
    | (refine bF_eq (fun _ => ?_) (fun _ => ?_) <;> try (exfalso; omega))
    | (refine bF_ne (fun _ => ?_) (fun _ => ?_) <;> try (exfalso; omega))
    | (refine a64 (by omega) ?_)
    | (refine ix_at rfl (by omega) ?_)
    | (refine ⟨⟨rfl, by omega, by omega⟩, ?_⟩)
    | (refine map_at (by omega) ?_)
    | (refine alen ?_)
    | (refine amin ?_)
    | (refine amax ?_)
    | (refine ⟨⟨rfl, rfl, by simp [V.ments]⟩, ?_⟩)
    | (refine map_at0 (by omega) ?_)
    | (refine set_at rfl ?_)
    | (refine map_atI (by omega) ?_)
    | (refine map_atI0 (by omega) ?_)
    | (refine set_atI rfl ?_)
    | (refine ⟨⟨by decide, rfl, by omega, by omega, by omega, by dsimp only; omega⟩, ?_⟩)
    | (refine arem (by omega) ?_)
    | (refine aquo (by omega) (by omega) ?_)
    | (refine au8 ?_)
    | (refine au64 (by omega) ?_)
    | (refine anat ?_)
    | (refine szOk rfl ?_)
    | (refine dvOk rfl (by omega) ?_)
    | (refine nzOk (by decide) ?_)
    | (refine lgOk (by kernel_rfl) ?_)
    | (refine kpOk (by kernel_rfl) ?_)
    | fail)
  all_goals conv => whnf
  · exact ⟨3 - (i + 1), by omega, i + 1, _, ⟨rfl, by omega, by omega, by omega, by omega, by omega, by omega⟩, rfl⟩
  · exact hK _ (by omega) (.inl (by omega))
theorem bytesOf.ac (D : List Int) (hD : D.length ≤ 10000000) {K : V → List Obj → List Obj → Prop} (hK : K (.ls (1, 0) 1 0 D.length) [] [rowB D]) : AC Try.prog 15 [.is 1 (D.map encB)] [] K := by
  have hml : (D.map encB).length = D.length := List.length_map ..
  refine ac_body (ann []) [((997, 0), true), ((5, 0), false), ((7, 0), false)] hm htt Try.func15 rfl (by kernel_rfl) rfl rfl ?_
  repeat' ((conv => whnf); first
    | (refine appN ⟨by decide, rfl, rfl, by simp, ⟨by dsimp only; omega, by omega⟩, rfl, by simp [mentsOne]⟩ ?_)
    | (refine bF_dec (fun _ => ?_) (fun _ => ?_) <;> try (exfalso; omega))
    | (refine bF_eq (fun _ => ?_) (fun _ => ?_) <;> try (exfalso; omega))
    | (refine bF_ne (fun _ => ?_) (fun _ => ?_) <;> try (exfalso; omega))
    | (refine a64 (by omega) ?_)
    | (refine ix_at rfl (by omega) ?_)
    | (refine ⟨⟨rfl, by omega, by omega⟩, ?_⟩)
    | (refine map_at (by omega) ?_)
    | (refine alen ?_)
    | (refine amin ?_)
    | (refine amax ?_)
    | (refine ⟨⟨rfl, rfl, by simp [V.ments]⟩, ?_⟩)
    | (refine map_at0 (by omega) ?_)
    | (refine set_at rfl ?_)
    | (refine map_atI (by omega) ?_)
    | (refine map_atI0 (by omega) ?_)
    | (refine set_atI rfl ?_)
    | (refine ⟨⟨by decide, rfl, by omega, by omega, by omega, by dsimp only; omega⟩, ?_⟩)
    | (refine arem (by omega) ?_)
    | (refine aquo (by omega) (by omega) ?_)
    | (refine au8 ?_)
    | (refine au64 (by omega) ?_)
    | (refine anat ?_)
    | (refine szOk rfl ?_)
    | (refine dvOk rfl (by omega) ?_)
    | (refine nzOk (by decide) ?_)
    | (refine lgOk (by kernel_rfl) ?_)
    | (refine kpOk (by kernel_rfl) ?_)
    | fail)
  all_goals conv => whnf
  exact hK
theorem bytesOf.r (D : List Int) (hD : D.length ≤ 10000000) {K : V → List Obj → List Obj → Prop} (hK : K (.ls (1, 0) 1 0 D.length) [rowB D] [rowB D]) : AC Try.prog 15 [.ls (0, 0) 1 0 D.length] [rowB D] K :=
  AC.row no_xs (bytesOf.ac D hD ⟨⟨rfl, rfl, noIs_rowB _⟩, hK⟩)
def opBig : OpR := ⟨1, 0, 0, -9223372036854775807, 1000, 0, 0, 0, 0, 0, 0⟩
theorem opBig_ints {l : List OpR} (h : ∀ o ∈ l, o.ints) : ∀ o ∈ l ++ [opBig], o.ints := fun o ho => by
  rcases List.mem_append.1 ho with ho | ho
  · exact h o ho
  · rw [List.mem_singleton.1 ho]
    intro x hx
    simp only [opBig, OpR.fs, List.mem_cons, List.not_mem_nil, or_false] at hx
    unfold I64
    rcases hx with rfl | rfl | rfl | rfl | rfl | rfl | rfl | rfl | rfl | rfl | rfl <;> omega
theorem frzG {ops : List OpR} {n : Int} {K : V → List Obj → List Obj → Prop} (k : K (.tup [iv n, .is 11 (ops.map encOp)]) [] []) : ∃ v1 n1 m es, [rowO ops] = n1 ++ [.arr true m es] ∧ LendR (1, n1.length) m es (.tup [iv n, .ls (1, 0) 11 0 ops.length]) v1 ∧ (∀ x ∈ [] ++ n1, (1, n1.length) ∉ x.ments) ∧ K v1 [] n1 :=
  ⟨_, [], 11, _, rfl, .tup (.cons (.same (by simp [V.ments])) (.cons (.all (by simp)) .nil)), by simp, k⟩
theorem DrawImageOf.ac (D : List Int) (hd : Bytes D) (hl : D.length ≤ 1048576) {K : V → List Obj → List Obj → Prop} (hK : ∀ n (ops : List OpR), (∀ o ∈ ops, o.ints) → ops.length ≤ 300 → -9223372036854775808 ≤ n → n ≤ 9223372036854775807 → K (.tup [iv n, .is 11 (ops.map encOp)]) [] []) : AC Try.prog 11 [.is 1 (D.map encB)] [] K := by
  refine AC.frz ?_
  refine ac_body (annW [] [(8, [4, 5, 6], [(10, 0), (30, 1)])] [(8, (30, 1), [30, 21])]) [((997, 0), true), ((10, 0), true), ((12, 0), false), ((17, 0), true), ((18, 0), false), ((21, 0), false), ((29, 0), true), ((30, 0), false), ((30, 1), false), ((36, 0), false)] hm htt Try.func11 rfl (by kernel_rfl) rfl rfl ?_
  repeat' ((conv => whnf); first
    | (refine l01Open.ac D hd hl fun s hc => ?_)
    | (refine fewL.ac D _ _ _ ‹_› (by omega) fun ops p' s' hc' h1 h2 => ?_)
    | (refine once.ac D _ _ _ 9 ‹_› (by omega) (by omega) fun b p' s' hc' => ?_; cases b)
    | (refine once.ac D _ _ _ 20 ‹_› (by omega) (by omega) fun b p' s' hc' => ?_; cases b)
    | (refine app1 (f := encOp) (x := OpR.zero) ⟨by decide, rfl, rfl, by simp, ⟨by simp; omega, by simp; omega⟩, rfl, by simp [mentsOne]⟩ rfl ?_)
    | (refine cpick.ac D _ _ _ 400 ‹_› (by omega) fun r p' s' hc' _ _ => ?_)
    | (refine raw.ac D _ _ _ ‹_› (by omega) fun n p' s' hc' _ _ => ?_)
    | (refine cpick.ac D _ _ _ 4 ‹_› (by omega) fun r p' s' hc' _ _ => ?_)
    | (refine bF_dec (fun _ => ?_) (fun _ => ?_) <;> try (exfalso; omega))
    | (refine bF_eq (fun _ => ?_) (fun _ => ?_) <;> try (exfalso; omega))
    | (refine bF_ne (fun _ => ?_) (fun _ => ?_) <;> try (exfalso; omega))
    | (refine a64 (by omega) ?_)
    | (refine ix_at rfl (by omega) ?_)
    | (refine ⟨⟨rfl, by omega, by omega⟩, ?_⟩)
    | (refine map_at (by omega) ?_)
    | (refine alen ?_)
    | (refine amin ?_)
    | (refine amax ?_)
    | (refine ⟨⟨rfl, rfl, by simp [V.ments]⟩, ?_⟩)
    | (refine map_at0 (by omega) ?_)
    | (refine set_at rfl ?_)
    | (refine map_atI (by omega) ?_)
    | (refine map_atI0 (by omega) ?_)
    | (refine set_atI rfl ?_)
    | (refine ⟨⟨by decide, rfl, by omega, by omega, by omega, by dsimp only; omega⟩, ?_⟩)
    | (refine arem (by omega) ?_)
    | (refine aquo (by omega) (by omega) ?_)
    | (refine au8 ?_)
    | (refine au64 (by omega) ?_)
    | (refine anat ?_)
    | (refine szOk rfl ?_)
    | (refine dvOk rfl (by omega) ?_)
    | (refine nzOk (by decide) ?_)
    | (refine lgOk (by kernel_rfl) ?_)
    | (refine kpOk (by kernel_rfl) ?_)
    | fail)
  all_goals conv => whnf
  · have h5 : r = 0 ∨ r = 1 ∨ r = 2 ∨ r = 3 := by omega
    rcases h5 with rfl | rfl | rfl | rfl
    all_goals
      refine ⟨_, rfl, ?_⟩
      conv => whnf
      exact frzG (hK _ ops (fun o ho => (h2 o ho).2) (by first | omega | (simp; omega)) (by omega) (by omega))
  · refine cwF_loop (fun m st => ∃ (i : Nat) (l : List OpR), (m = 250 - i ∧ i ≤ 250 ∧ l.length = i ∧ ∀ o ∈ l, o.ints) ∧
      st = ⟨[.un, .un, .un, .un, .lp (10, 0) 3 0 0, .ls (30, 1) 11 0 l.length, iv i] ++ List.replicate 33 .un, mkOb [((10, 0), some (cur D p' s')), ((30, 1), some (rowO l))]⟩) 250 (by kernel_rfl) ⟨0, [], ⟨rfl, by omega, rfl, fun _ h => nomatch h⟩, rfl⟩ ?_
    rintro m st ⟨i, l, ⟨rfl, i1, l1, hl2⟩, rfl⟩
    repeat' ((conv => whnf); first
      | (refine app1 (f := encOp) (x := opBig) ⟨by decide, rfl, rfl, by simp, ⟨by simp; omega, by simp; omega⟩, rfl, by simp [mentsOne]⟩ rfl ?_)
      | (refine cpick.ac D _ _ _ 400 ‹_› (by omega) fun r p' s' hc' _ _ => ?_)
      | (refine raw.ac D _ _ _ ‹_› (by omega) fun n p' s' hc' _ _ => ?_)
      | (refine cpick.ac D _ _ _ 4 ‹_› (by omega) fun r p' s' hc' _ _ => ?_)
      | (refine bF_dec (fun _ => ?_) (fun _ => ?_) <;> try (exfalso; omega))
      | (refine bF_eq (fun _ => ?_) (fun _ => ?_) <;> try (exfalso; omega))
      | (refine bF_ne (fun _ => ?_) (fun _ => ?_) <;> try (exfalso; omega))
      | (refine a64 (by omega) ?_)
      | (refine ix_at rfl (by omega) ?_)
      | (refine ⟨⟨rfl, by omega, by omega⟩, ?_⟩)
      | (refine map_at (by omega) ?_)
      | (refine alen ?_)
      | (refine amin ?_)
      | (refine amax ?_)
      | (refine ⟨⟨rfl, rfl, by simp [V.ments]⟩, ?_⟩)
      | (refine map_at0 (by omega) ?_)
      | (refine set_at rfl ?_)
      | (refine map_atI (by omega) ?_)
      | (refine map_atI0 (by omega) ?_)
      | (refine set_atI rfl ?_)
      | (refine ⟨⟨by decide, rfl, by omega, by omega, by omega, by dsimp only; omega⟩, ?_⟩)
      | (refine arem (by omega) ?_)
      | (refine aquo (by omega) (by omega) ?_)
      | (refine au8 ?_)
      | (refine au64 (by omega) ?_)
      | (refine anat ?_)
      | (refine szOk rfl ?_)
      | (refine dvOk rfl (by omega) ?_)
      | (refine nzOk (by decide) ?_)
      | (refine lgOk (by kernel_rfl) ?_)
      | (refine kpOk (by kernel_rfl) ?_)
      | fail)
    all_goals conv => whnf
    · exact ⟨250 - (i + 1), by omega, i + 1, l ++ [opBig], ⟨rfl, by omega, by simp [l1], opBig_ints hl2⟩, rfl⟩
    have h5 : r = 0 ∨ r = 1 ∨ r = 2 ∨ r = 3 := by omega
    rcases h5 with rfl | rfl | rfl | rfl
    all_goals
      refine ⟨_, rfl, ?_⟩
      conv => whnf
      exact frzG (hK _ l hl2 (by first | omega | (simp; omega)) (by omega) (by omega))
  · have h5 : r = 0 ∨ r = 1 ∨ r = 2 ∨ r = 3 := by omega
    rcases h5 with rfl | rfl | rfl | rfl
    all_goals
      refine ⟨_, rfl, ?_⟩
      conv => whnf
      exact frzG (hK _ (ops ++ [OpR.zero]) (zero_ints fun o ho => (h2 o ho).2) (by first | omega | (simp; omega)) (by omega) (by omega))
  · refine cwF_loop (fun m st => ∃ (i : Nat) (l : List OpR), (m = 250 - i ∧ i ≤ 250 ∧ l.length = i ∧ ∀ o ∈ l, o.ints) ∧
      st = ⟨[.un, .un, .un, .un, .lp (10, 0) 3 0 0, .ls (30, 1) 11 0 l.length, iv i] ++ List.replicate 33 .un, mkOb [((10, 0), some (cur D p' s')), ((30, 1), some (rowO l))]⟩) 250 (by kernel_rfl) ⟨0, [], ⟨rfl, by omega, rfl, fun _ h => nomatch h⟩, rfl⟩ ?_
    rintro m st ⟨i, l, ⟨rfl, i1, l1, hl2⟩, rfl⟩
    repeat' ((conv => whnf); first
      | (refine app1 (f := encOp) (x := opBig) ⟨by decide, rfl, rfl, by simp, ⟨by simp; omega, by simp; omega⟩, rfl, by simp [mentsOne]⟩ rfl ?_)
      | (refine cpick.ac D _ _ _ 400 ‹_› (by omega) fun r p' s' hc' _ _ => ?_)
      | (refine raw.ac D _ _ _ ‹_› (by omega) fun n p' s' hc' _ _ => ?_)
      | (refine cpick.ac D _ _ _ 4 ‹_› (by omega) fun r p' s' hc' _ _ => ?_)
      | (refine bF_dec (fun _ => ?_) (fun _ => ?_) <;> try (exfalso; omega))
      | (refine bF_eq (fun _ => ?_) (fun _ => ?_) <;> try (exfalso; omega))
      | (refine bF_ne (fun _ => ?_) (fun _ => ?_) <;> try (exfalso; omega))
      | (refine a64 (by omega) ?_)
      | (refine ix_at rfl (by omega) ?_)
      | (refine ⟨⟨rfl, by omega, by omega⟩, ?_⟩)
      | (refine map_at (by omega) ?_)
      | (refine alen ?_)
      | (refine amin ?_)
      | (refine amax ?_)
      | (refine ⟨⟨rfl, rfl, by simp [V.ments]⟩, ?_⟩)
      | (refine map_at0 (by omega) ?_)
      | (refine set_at rfl ?_)
      | (refine map_atI (by omega) ?_)
      | (refine map_atI0 (by omega) ?_)
      | (refine set_atI rfl ?_)
      | (refine ⟨⟨by decide, rfl, by omega, by omega, by omega, by dsimp only; omega⟩, ?_⟩)
      | (refine arem (by omega) ?_)
      | (refine aquo (by omega) (by omega) ?_)
      | (refine au8 ?_)
      | (refine au64 (by omega) ?_)
      | (refine anat ?_)
      | (refine szOk rfl ?_)
      | (refine dvOk rfl (by omega) ?_)
      | (refine nzOk (by decide) ?_)
      | (refine lgOk (by kernel_rfl) ?_)
      | (refine kpOk (by kernel_rfl) ?_)
      | fail)
    all_goals conv => whnf
    · exact ⟨250 - (i + 1), by omega, i + 1, l ++ [opBig], ⟨rfl, by omega, by simp [l1], opBig_ints hl2⟩, rfl⟩
    have h5 : r = 0 ∨ r = 1 ∨ r = 2 ∨ r = 3 := by omega
    rcases h5 with rfl | rfl | rfl | rfl
    all_goals
      refine ⟨_, rfl, ?_⟩
      conv => whnf
      exact frzG (hK _ l hl2 (by first | omega | (simp; omega)) (by omega) (by omega))
theorem fnImg_end (ops : List OpR) {g : Int} (hk : ImOk g ops) {p : Nat} (hp : p < 7000) {x : Int} (hx : (imB g ops).getD p default ≠ x) (hx2 : 0 ≤ x ∧ x ≤ 255) {K : V → List Obj → List Obj → Prop}
    (hK1 : ∀ g' (os : List OpR), os.length ≠ ops.length → K (.tup [iv g', .ls (1, 0) 11 0 os.length, bv true]) [rowB ((imB g ops).set p x)] [rowO os]) (hK0 : K (.tup [iv 0, nilS, bv false]) [rowB ((imB g ops).set p x)] []) : AC Try.prog 14 [.ls (0, 0) 1 0 (imB g ops).length] [rowB ((imB g ops).set p x)] K := by
  have L := imB_len hk
  have hb : Bytes ((imB g ops).set p x) := bytes_set (img_bytes hk) hx2
  have hl : ((imB g ops).set p x).length = 7000 := by rw [List.length_set, L]
  have key := AC.row (P := Try.prog) (f := 14) (d := (imB g ops).set p x) no_xs (ImageReadI.ac _ hb (by omega) (K := fun v o n => (v.noIs = true ∧ noIsO o = true ∧ noIsO n = true) ∧ K v (o ++ [rowB ((imB g ops).set p x)]) n)
    (fun g' os k1 k2 => ⟨⟨rfl, rfl, noIs_rowO _⟩, hK1 g' os fun e => img_changed hk k1 hp hx k2 e⟩) fun _ => ⟨⟨rfl, rfl, rfl⟩, hK0⟩)
  rwa [List.length_set] at key
theorem byte_change {a r : Int} (_ : 0 ≤ a ∧ a ≤ 255) (hr : 0 ≤ r ∧ r < 255) : a ≠ (a + (1 + r) % 256) % 256 := by omega
theorem FnImage.ac (D : List Int) (hd : Bytes D) {K : V → List Obj → List Obj → Prop} (hK : K (bv true) [] []) : AC Try.prog 3 [.is 1 (D.map encB)] [] K := by
  refine ac_body (ann [(12, [0, 4, 7, 10, 12], [(35, 0), (51, 0)])]) [((997, 0), true), ((29, 0), false), ((35, 0), false), ((50, 0), false), ((51, 0), false), ((112, 0), false)] hm htt Try.func3 rfl (by kernel_rfl) rfl rfl ?_
  repeat' ((conv => whnf); first
    | (refine big2 D (fun _ => ?_) (fun _ => ?_))
    | (refine DrawImageOf.ac D hd (by omega) fun g ops h1 h2 h3 h4 => ?_)
    | (refine bF_dec (fun _ => ?_) (fun _ => ?_) <;> try (exfalso; omega))
    | (refine bF_eq (fun _ => ?_) (fun _ => ?_) <;> try (exfalso; omega))
    | (refine bF_ne (fun _ => ?_) (fun _ => ?_) <;> try (exfalso; omega))
    | (refine a64 (by omega) ?_)
    | (refine ix_at rfl (by omega) ?_)
    | (refine ⟨⟨rfl, by omega, by omega⟩, ?_⟩)
    | (refine map_at (by omega) ?_)
    | (refine alen ?_)
    | (refine amin ?_)
    | (refine amax ?_)
    | (refine ⟨⟨rfl, rfl, by simp [V.ments]⟩, ?_⟩)
    | (refine map_at0 (by omega) ?_)
    | (refine set_at rfl ?_)
    | (refine map_atI (by omega) ?_)
    | (refine map_atI0 (by omega) ?_)
    | (refine set_atI rfl ?_)
    | (refine ⟨⟨by decide, rfl, by omega, by omega, by omega, by dsimp only; omega⟩, ?_⟩)
    | (refine arem (by omega) ?_)
    | (refine aquo (by omega) (by omega) ?_)
    | (refine au8 ?_)
    | (refine au64 (by omega) ?_)
    | (refine anat ?_)
    | (refine szOk rfl ?_)
    | (refine dvOk rfl (by omega) ?_)
    | (refine nzOk (by decide) ?_)
    | (refine lgOk (by kernel_rfl) ?_)
    | (refine kpOk (by kernel_rfl) ?_)
    | fail)
  all_goals conv => whnf
  · exact hK
  by_cases hk : ImOk g ops
  rotate_left
  · repeat' ((conv => whnf); first
      | (refine ImageOfS.ac g ops h1 (by omega) (fun h => absurd h hk) (fun _ => ?_))
      | (refine ImageOfI.ac g ops h1 (by omega) (fun h => absurd h hk) (fun _ => ?_))
      | (refine bF_ne (fun h => absurd rfl h) (fun _ => ?_))
      | (refine bF_eq (fun _ => ?_) (fun h => absurd rfl h))
      | (refine bF_dec (fun _ => ?_) (fun _ => ?_) <;> try (exfalso; omega))
      | (refine bF_eq (fun _ => ?_) (fun _ => ?_) <;> try (exfalso; omega))
      | (refine bF_ne (fun _ => ?_) (fun _ => ?_) <;> try (exfalso; omega))
      | (refine a64 (by omega) ?_)
      | (refine ix_at rfl (by omega) ?_)
      | (refine ⟨⟨rfl, by omega, by omega⟩, ?_⟩)
      | (refine map_at (by omega) ?_)
      | (refine alen ?_)
      | (refine amin ?_)
      | (refine amax ?_)
      | (refine ⟨⟨rfl, rfl, by simp [V.ments]⟩, ?_⟩)
      | (refine map_at0 (by omega) ?_)
      | (refine set_at rfl ?_)
      | (refine map_atI (by omega) ?_)
      | (refine map_atI0 (by omega) ?_)
      | (refine set_atI rfl ?_)
      | (refine ⟨⟨by decide, rfl, by omega, by omega, by omega, by dsimp only; omega⟩, ?_⟩)
      | (refine arem (by omega) ?_)
      | (refine aquo (by omega) (by omega) ?_)
      | (refine au8 ?_)
      | (refine au64 (by omega) ?_)
      | (refine anat ?_)
      | (refine szOk rfl ?_)
      | (refine dvOk rfl (by omega) ?_)
      | (refine nzOk (by decide) ?_)
      | (refine lgOk (by kernel_rfl) ?_)
      | (refine kpOk (by kernel_rfl) ?_)
      | fail)
    all_goals conv => whnf
    exact hK
  have L := imB_len hk
  have hml : (ops.map encOp).length = ops.length := List.length_map ..
  repeat' ((conv => whnf); first
    | (refine ImageOfS.ac g ops h1 (by omega) (fun _ => ?_) (fun h => absurd hk h))
    | (refine ImageOfI.ac g ops h1 (by omega) (fun _ => ?_) (fun h => absurd hk h))
    | (refine bytesOf.r (imB g ops) (by omega) ?_)
    | (refine ImageReadI.y hk rfl ?_)
    | (refine bF_ne (fun h => absurd rfl h) (fun _ => ?_))
    | (refine bF_dec (fun _ => ?_) (fun _ => ?_) <;> try (exfalso; omega))
    | (refine bF_eq (fun _ => ?_) (fun _ => ?_) <;> try (exfalso; omega))
    | (refine bF_ne (fun _ => ?_) (fun _ => ?_) <;> try (exfalso; omega))
    | (refine a64 (by omega) ?_)
    | (refine ix_at rfl (by omega) ?_)
    | (refine ⟨⟨rfl, by omega, by omega⟩, ?_⟩)
    | (refine map_at (by omega) ?_)
    | (refine alen ?_)
    | (refine amin ?_)
    | (refine amax ?_)
    | (refine ⟨⟨rfl, rfl, by simp [V.ments]⟩, ?_⟩)
    | (refine map_at0 (by omega) ?_)
    | (refine set_at rfl ?_)
    | (refine map_atI (by omega) ?_)
    | (refine map_atI0 (by omega) ?_)
    | (refine set_atI rfl ?_)
    | (refine ⟨⟨by decide, rfl, by omega, by omega, by omega, by dsimp only; omega⟩, ?_⟩)
    | (refine arem (by omega) ?_)
    | (refine aquo (by omega) (by omega) ?_)
    | (refine au8 ?_)
    | (refine au64 (by omega) ?_)
    | (refine anat ?_)
    | (refine szOk rfl ?_)
    | (refine dvOk rfl (by omega) ?_)
    | (refine nzOk (by decide) ?_)
    | (refine lgOk (by kernel_rfl) ?_)
    | (refine kpOk (by kernel_rfl) ?_)
    | fail)
  all_goals conv => whnf
  refine cwF_loop (fun m st => ∃ (i : Nat), (m = ops.length - i ∧ i ≤ ops.length) ∧
    st = ⟨[.is 1 (D.map encB), .un, .un, .un, .is 11 (ops.map encOp), .un, .un, .ls (35, 0) 1 0 (imB g ops).length, .un, .un, .ls (51, 0) 11 0 ops.length, .un, iv i] ++ List.replicate 110 .un, mkOb [((35, 0), some (rowB (imB g ops))), ((51, 0), some (rowO ops))]⟩) ops.length (by kernel_rfl) ⟨0, ⟨rfl, by omega⟩, rfl⟩ ?_
  rintro m st ⟨i, ⟨rfl, i1⟩, rfl⟩
  repeat' ((conv => whnf); first
    | (refine bF_dec (fun _ => ?_) (fun _ => ?_))
    | (refine bF_bool (fun h => absurd h (by simp)) (fun _ => ?_))
    | (refine lpick.ac D hd (by omega) _ _ (by omega) fun r _ _ => ?_)
    | (refine bF_dec (fun _ => ?_) (fun _ => ?_) <;> try (exfalso; omega))
    | (refine bF_eq (fun _ => ?_) (fun _ => ?_) <;> try (exfalso; omega))
    | (refine bF_ne (fun _ => ?_) (fun _ => ?_) <;> try (exfalso; omega))
    | (refine a64 (by omega) ?_)
    | (refine ix_at rfl (by omega) ?_)
    | (refine ⟨⟨rfl, by omega, by omega⟩, ?_⟩)
    | (refine map_at (by omega) ?_)
    | (refine alen ?_)
    | (refine amin ?_)
    | (refine amax ?_)
    | (refine ⟨⟨rfl, rfl, by simp [V.ments]⟩, ?_⟩)
    | (refine map_at0 (by omega) ?_)
    | (refine set_at rfl ?_)
    | (refine map_atI (by omega) ?_)
    | (refine map_atI0 (by omega) ?_)
    | (refine set_atI rfl ?_)
    | (refine ⟨⟨by decide, rfl, by omega, by omega, by omega, by dsimp only; omega⟩, ?_⟩)
    | (refine arem (by omega) ?_)
    | (refine aquo (by omega) (by omega) ?_)
    | (refine au8 ?_)
    | (refine au64 (by omega) ?_)
    | (refine anat ?_)
    | (refine szOk rfl ?_)
    | (refine dvOk rfl (by omega) ?_)
    | (refine nzOk (by decide) ?_)
    | (refine lgOk (by kernel_rfl) ?_)
    | (refine kpOk (by kernel_rfl) ?_)
    | fail)
  all_goals conv => whnf
  · exact ⟨ops.length - (i + 1), by omega, i + 1, ⟨rfl, by omega⟩, rfl⟩
  all_goals
    refine fnImg_end ops hk (by show Int.toNat _ < 7000; omega) (by show (imB g ops).getD (Int.toNat _) default ≠ _; rw [Nat.zero_add]; exact byte_change ((img_bytes hk).get _) (by omega)) (by omega) (fun g' os hne => ?_) ?_
    · repeat' ((conv => whnf); first
        | (refine bF_ne (fun _ => ?_) (fun h => absurd h (by omega)))
        | (refine bF_dec (fun _ => ?_) (fun _ => ?_) <;> try (exfalso; omega))
        | (refine bF_eq (fun _ => ?_) (fun _ => ?_) <;> try (exfalso; omega))
        | (refine bF_ne (fun _ => ?_) (fun _ => ?_) <;> try (exfalso; omega))
        | (refine a64 (by omega) ?_)
        | (refine ix_at rfl (by omega) ?_)
        | (refine ⟨⟨rfl, by omega, by omega⟩, ?_⟩)
        | (refine map_at (by omega) ?_)
        | (refine alen ?_)
        | (refine amin ?_)
        | (refine amax ?_)
        | (refine ⟨⟨rfl, rfl, by simp [V.ments]⟩, ?_⟩)
        | (refine map_at0 (by omega) ?_)
        | (refine set_at rfl ?_)
        | (refine map_atI (by omega) ?_)
        | (refine map_atI0 (by omega) ?_)
        | (refine set_atI rfl ?_)
        | (refine ⟨⟨by decide, rfl, by omega, by omega, by omega, by dsimp only; omega⟩, ?_⟩)
        | (refine arem (by omega) ?_)
        | (refine aquo (by omega) (by omega) ?_)
        | (refine au8 ?_)
        | (refine au64 (by omega) ?_)
        | (refine anat ?_)
        | (refine szOk rfl ?_)
        | (refine dvOk rfl (by omega) ?_)
        | (refine nzOk (by decide) ?_)
        | (refine lgOk (by kernel_rfl) ?_)
        | (refine kpOk (by kernel_rfl) ?_)
        | fail)
      all_goals conv => whnf
      exact hK
    · repeat' ((conv => whnf); first
        | (refine bF_dec (fun _ => ?_) (fun _ => ?_) <;> try (exfalso; omega))
        | (refine bF_eq (fun _ => ?_) (fun _ => ?_) <;> try (exfalso; omega))
        | (refine bF_ne (fun _ => ?_) (fun _ => ?_) <;> try (exfalso; omega))
        | (refine a64 (by omega) ?_)
        | (refine ix_at rfl (by omega) ?_)
        | (refine ⟨⟨rfl, by omega, by omega⟩, ?_⟩)
        | (refine map_at (by omega) ?_)
        | (refine alen ?_)
        | (refine amin ?_)
        | (refine amax ?_)
        | (refine ⟨⟨rfl, rfl, by simp [V.ments]⟩, ?_⟩)
        | (refine map_at0 (by omega) ?_)
        | (refine set_at rfl ?_)
        | (refine map_atI (by omega) ?_)
        | (refine map_atI0 (by omega) ?_)
        | (refine set_atI rfl ?_)
        | (refine ⟨⟨by decide, rfl, by omega, by omega, by omega, by dsimp only; omega⟩, ?_⟩)
        | (refine arem (by omega) ?_)
        | (refine aquo (by omega) (by omega) ?_)
        | (refine au8 ?_)
        | (refine au64 (by omega) ?_)
        | (refine anat ?_)
        | (refine szOk rfl ?_)
        | (refine dvOk rfl (by omega) ?_)
        | (refine nzOk (by decide) ?_)
        | (refine lgOk (by kernel_rfl) ?_)
        | (refine kpOk (by kernel_rfl) ?_)
        | fail)
      all_goals conv => whnf
      exact hK
end Go.Eng.T
