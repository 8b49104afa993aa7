import Derived.Test.YtpfmaiiolifblaaXBxP3
import Derived.Test.YtpfmaiiolifblaaXBxS6
namespace Go.Eng.T
open Go.Proofs Go.Eng
set_option maxRecDepth 100000
set_option maxHeartbeats 0

theorem putsB_at {r : Int} {b : Bx} {l : List Pn} {i : Nat} (h : i < l.length) {c : Bx} (hc : putsB r b (l.take i) = some c) : putsB r b (l.take (i + 1)) = if PnOk (l.getD i default) ∧ RuleI r ∧ inB (putB c (l.getD i default) r) then some (putB c (l.getD i default) r) else none := by
  rw [← take_succD h, putsB_snoc, hc]
  show putsB r c [l.getD i default] = _
  simp only [putsB]
theorem putsB_none {r : Int} {b : Bx} {l : List Pn} {i : Nat} (h : i ≤ l.length) (hc : putsB r b (l.take i) = none) : putsB r b l = none := by
  have : ∀ (m : List Pn) (a : List Pn), putsB r b a = none → putsB r b (a ++ m) = none := by
    intro m
    induction m with
    | nil => intro a ha; rw [List.append_nil]; exact ha
    | cons x m ih =>
      intro a ha
      have := ih (a ++ [x]) (by rw [putsB_snoc, ha]; rfl)
      rwa [List.append_assoc] at this
  have := this (l.drop i) _ hc
  rwa [List.take_append_drop] at this
theorem drawPuts8 (D : List Int) (hd : Bytes D) (hl : D.length ≤ 1048576) {K : V → List Obj → List Obj → Prop} (hK : ∀ b (l : List Pn) r, BxI b → (∀ p ∈ l, PnI p) → l.length ≤ 10 → I64 r → K (.tup [encBx b, .is 8 (l.map encPn), iv r]) [] []) : AC Try.prog 23 [.is 1 (D.map encB)] [] K := by
  refine AC.frz ?_
  have fin : ∀ b (l : List Pn) r, BxI b → (∀ p ∈ l, PnI p) → l.length ≤ 10 → I64 r → ∃ v' news' n es, [Obj.arr true 8 (l.map encPn)] = news' ++ [.arr true n es] ∧ LendR (1, news'.length) n es (.tup [encBx b, .ls (1, 0) 8 0 l.length, iv r]) v' ∧ (∀ x ∈ ([] : List Obj) ++ news', (1, news'.length) ∉ x.ments) ∧ K v' [] news' := fun b l r h1 h2 h3 h4 =>
    ⟨_, [], 8, _, rfl, .tup (.cons (.same (by simp [V.ments, mentsL])) (.cons (.all (by simp)) (.cons (.same (by simp [V.ments])) .nil))), by simp, hK b l r h1 h2 h3 h4⟩
  refine ac_body (annM [] [(5, [2, 5, 6, 7, 8], [(4, 0), (12, 0), (8, 0), (15, 1)])] [(5, [((15, 1), [15, 26])])]) [((997, 0), true), ((4, 0), true), ((12, 0), true), ((8, 0), true), ((15, 0), false), ((15, 1), false), ((25, 0), true), ((26, 0), false), ((32, 0), true), ((33, 0), false)] hm htt Try.func23 rfl (by kernel_rfl) rfl rfl ?_
  repeat' ((conv => whnf); first
    | (refine l01Open.ac D hd hl fun s hc => ?_)
    | (refine badBox.ac D _ _ _ ‹_› (by omega) fun b p' s' hc' hb => ?_)
    | (refine cpick.ac D _ _ _ _ ‹_› (by omega) fun r p' s' hc' _ _ => ?_)
    | (refine once.ac D _ _ _ _ ‹_› (by omega) (by omega) fun b p' s' hc' => ?_; cases b)
    | (refine raw.ac D _ _ _ ‹_› (by omega) fun r p' s' hc' _ _ => ?_)
    | (refine pickI2 rfl (by omega) fun x _ => ?_)
    | (refine pickI3 rfl (by omega) fun x _ => ?_)
    | (refine pickI4 rfl (by omega) fun x _ => ?_)
    | (refine pickI5 rfl (by omega) fun x _ => ?_)
    | (refine bF_dec (fun _ => ?_) (fun _ => ?_) <;> try (exfalso; omega))
    | (refine bF_eq (fun _ => ?_) (fun _ => ?_) <;> try (exfalso; omega))
    | (refine bF_ne (fun _ => ?_) (fun _ => ?_) <;> try (exfalso; omega))
    | (refine a64 (by omega) ?_)
    | (refine ix_at rfl (by omega) ?_)
    | (refine ⟨⟨rfl, by omega, by omega⟩, ?_⟩)
    | (refine map_at (by omega) ?_)
    | (refine alen ?_)
    | (refine amin ?_)
    | (refine amax ?_)
    | (refine ⟨⟨rfl, rfl, by simp [V.ments, mentsL]⟩, ?_⟩)
    | (refine map_at0 (by omega) ?_)
    | (refine set_at rfl ?_)
    | (refine map_atI (by omega) ?_)
    | (refine map_atI0 (by omega) ?_)
    | (refine set_atI rfl ?_)
    | (refine ⟨⟨by decide, rfl, by omega, by omega, by omega, by dsimp only; omega⟩, ?_⟩)
    | (refine arem (by omega) ?_)
    | (refine aquo (by omega) (by omega) ?_)
    | (refine au8 ?_)
    | (refine au64 (by omega) ?_)
    | (refine anat ?_)
    | (refine szOk rfl ?_)
    | (refine dvOk rfl (by omega) ?_)
    | (refine nzOk (by decide) ?_)
    | (refine lgOk (by kernel_rfl) ?_)
    | (refine kpOk (by kernel_rfl) ?_)
    | fail)
  all_goals conv => whnf
  refine cwF_loop (fun m st => ∃ (z p s : Int) (l : List Pn), (m = z.toNat ∧ 0 ≤ z ∧ (l.length : Int) + z ≤ 5 ∧ CurI D (6001 + 310 * l.length) p s ∧ ∀ p ∈ l, PnI p) ∧
    st = ⟨[.un, .un, .lp (4, 0) 6 0 0, .un, .un, .lp (12, 0) 3 0 0, .lp (8, 0) 6 0 0, .ls (15, 1) 8 0 l.length, iv z] ++ List.replicate 28 .un, mkOb [((4, 0), some (.arr false 6 [bx0])), ((12, 0), some (cur D p s)), ((8, 0), some (.arr false 6 [encBx b])), ((15, 1), some (.arr true 8 (l.map encPn)))]⟩) r.toNat (by kernel_rfl) ⟨r, _, _, [], ⟨rfl, by omega, by simp; omega, hc'.up (by simp), fun _ h => nomatch h⟩, rfl⟩ ?_
  rintro m st ⟨z, p, s, l, ⟨rfl, z0, z1, hcz, hl'⟩, rfl⟩
  have snoc : ∀ {y : Pn}, PnI y → ∀ p ∈ l ++ [y], PnI p := fun hy p hp => by
    rcases List.mem_append.1 hp with hp | hp
    · exact hl' p hp
    · rw [List.mem_singleton.1 hp]; exact hy
  repeat' ((conv => whnf); first
    | (refine fullPane.ac D _ _ _ ‹_› (by omega) fun y p' s' hc' hy hyo => ?_)
    | (refine pane.ac D _ _ _ ‹_› (by omega) fun y p' s' hc' hy => ?_)
    | (refine app1 (f := encPn) (x := y) ⟨by decide, rfl, rfl, by simp, ⟨by simp; omega, by simp; omega⟩, rfl, by simp [mentsOne]⟩ rfl ?_)
    | (refine cpick.ac D _ _ _ _ ‹_› (by omega) fun r p' s' hc' _ _ => ?_)
    | (refine once.ac D _ _ _ _ ‹_› (by omega) (by omega) fun b p' s' hc' => ?_; cases b)
    | (refine raw.ac D _ _ _ ‹_› (by omega) fun r p' s' hc' _ _ => ?_)
    | (refine pickI2 rfl (by omega) fun x _ => ?_)
    | (refine pickI3 rfl (by omega) fun x _ => ?_)
    | (refine pickI4 rfl (by omega) fun x _ => ?_)
    | (refine pickI5 rfl (by omega) fun x _ => ?_)
    | (refine bF_dec (fun _ => ?_) (fun _ => ?_) <;> try (exfalso; omega))
    | (refine bF_eq (fun _ => ?_) (fun _ => ?_) <;> try (exfalso; omega))
    | (refine bF_ne (fun _ => ?_) (fun _ => ?_) <;> try (exfalso; omega))
    | (refine a64 (by omega) ?_)
    | (refine ix_at rfl (by omega) ?_)
    | (refine ⟨⟨rfl, by omega, by omega⟩, ?_⟩)
    | (refine map_at (by omega) ?_)
    | (refine alen ?_)
    | (refine amin ?_)
    | (refine amax ?_)
    | (refine ⟨⟨rfl, rfl, by simp [V.ments, mentsL]⟩, ?_⟩)
    | (refine map_at0 (by omega) ?_)
    | (refine set_at rfl ?_)
    | (refine map_atI (by omega) ?_)
    | (refine map_atI0 (by omega) ?_)
    | (refine set_atI rfl ?_)
    | (refine ⟨⟨by decide, rfl, by omega, by omega, by omega, by dsimp only; omega⟩, ?_⟩)
    | (refine arem (by omega) ?_)
    | (refine aquo (by omega) (by omega) ?_)
    | (refine au8 ?_)
    | (refine au64 (by omega) ?_)
    | (refine anat ?_)
    | (refine szOk rfl ?_)
    | (refine dvOk rfl (by omega) ?_)
    | (refine nzOk (by decide) ?_)
    | (refine lgOk (by kernel_rfl) ?_)
    | (refine kpOk (by kernel_rfl) ?_)
    | fail)
  all_goals conv => whnf
  all_goals first
    | exact ⟨(z - 1).toNat, by omega, _, _, _, _, ⟨rfl, by omega, by simp; omega, hc'.up (by simp; omega), snoc hy⟩, rfl⟩
    | exact fin b l _ hb hl' (by omega) (by unfold I64; omega)
    | exact fin b _ _ hb (snoc hy) (by simp; omega) (by unfold I64; omega)
    | trace_state
theorem PutsS.new (b : Bx) (l : List Pn) (r : Int) (hb : BxF b) (hl : ∀ p ∈ l, p.v.length ≤ 100000) (hll : l.length ≤ 1000) (hr : I64 r) {K : V → List Obj → List Obj → Prop}
    (h1 : ∀ c, BxOk b → putsB r b l = some c → K (.tup [bxL c, bv true]) [] [rowIt c.its, rowRc c.rcs])
    (h0 : ¬ BxOk b ∨ putsB r b l = none → K (.tup [bx0, bv false]) [] []) : AC Try.prog 24 [encBx b, .is 8 (l.map encPn), iv r] [] K := by
  refine ac_body { imm := immL [(80, [0])], keep := keepL [(5, [1, 2, 6, 8, 9], [(8, 0), (10, 0), (19, 0), (19, 1)])], sw := fun n ob => bif Nat.beq n 5 then swPr ob 19 [33] else [] } [((997, 0), true), ((5, 0), true), ((8, 0), true), ((19, 0), false), ((19, 1), false), ((10, 0), true), ((33, 0), false), ((33, 1), false), ((12, 0), true)] hm htt Try.func24 rfl (by kernel_rfl) rfl rfl ?_
  repeat' ((conv => whnf); first
    | (refine BoxOkS2 b hb (fun hok => ?_) (fun _ => ?_))
    | (refine copyBxS.new b hb ?_)
    | (refine bF_dec (fun _ => ?_) (fun _ => ?_) <;> try (exfalso; omega))
    | (refine bF_eq (fun _ => ?_) (fun _ => ?_) <;> try (exfalso; omega))
    | (refine bF_ne (fun _ => ?_) (fun _ => ?_) <;> try (exfalso; omega))
    | (refine a64 (by omega) ?_)
    | (refine ix_at rfl (by omega) ?_)
    | (refine ⟨⟨rfl, by omega, by omega⟩, ?_⟩)
    | (refine map_at (by omega) ?_)
    | (refine alen ?_)
    | (refine amin ?_)
    | (refine amax ?_)
    | (refine ⟨⟨rfl, rfl, by simp [V.ments, mentsL]⟩, ?_⟩)
    | (refine map_at0 (by omega) ?_)
    | (refine set_at rfl ?_)
    | (refine map_atI (by omega) ?_)
    | (refine map_atI0 (by omega) ?_)
    | (refine set_atI rfl ?_)
    | (refine ⟨⟨by decide, rfl, by omega, by omega, by omega, by dsimp only; omega⟩, ?_⟩)
    | (refine arem (by omega) ?_)
    | (refine aquo (by omega) (by omega) ?_)
    | (refine au8 ?_)
    | (refine au64 (by omega) ?_)
    | (refine anat ?_)
    | (refine szOk rfl ?_)
    | (refine dvOk rfl (by omega) ?_)
    | (refine nzOk (by decide) ?_)
    | (refine lgOk (by kernel_rfl) ?_)
    | (refine kpOk (by kernel_rfl) ?_)
    | fail)
  all_goals conv => whnf
  · have hok' := hok
    refine cwF_loop (fun m st => ∃ (i : Nat) (c : Bx), (m = l.length - i ∧ i ≤ l.length ∧ BxF c ∧ putsB r b (l.take i) = some c) ∧
      st = ⟨[.un, .is 8 (l.map encPn), iv r, .un, .un, .un, .lp (8, 0) 6 0 0, .un, .lp (10, 0) 6 0 0, iv i] ++ List.replicate 29 .un, mkOb [((8, 0), some (.arr false 6 [bx0])), ((10, 0), some (.arr false 6 [.agg [iv c.cap, iv c.aud, iv c.nx, iv c.gp, .ls (19, 0) 10 0 c.its.length, .ls (19, 1) 3 0 c.rcs.length]])), ((19, 0), some (rowIt c.its)), ((19, 1), some (rowRc c.rcs))]⟩) l.length (by kernel_rfl) ⟨0, b, ⟨rfl, by omega, hb, rfl⟩, rfl⟩ ?_
    rintro m st ⟨i, c, ⟨rfl, hi, hcF, hp⟩, rfl⟩
    have hgl : (l.getD i default).v.length ≤ 100000 := by
      by_cases h : i < l.length
      · rw [List.getD_eq_getElem?_getD, List.getElem?_eq_getElem h]; exact hl _ (List.getElem_mem h)
      · rw [List.getD_eq_getElem?_getD, List.getElem?_eq_none (by omega)]; exact Nat.zero_le _
    repeat' ((conv => whnf); first
      | (refine all_at (f := encIt) (l := c.its) ⟨rfl, by simp⟩ ?_)
      | (refine all_at (f := encRc) (l := c.rcs) ⟨rfl, by simp⟩ ?_)
      | (refine BoxPutS.new c (l.getD i default) r hcF hgl hr (fun hco hpo hro hin => ?_) (fun hno => ?_))
      | (refine bF_dec (fun _ => ?_) (fun _ => ?_) <;> try (exfalso; omega))
      | (refine bF_eq (fun _ => ?_) (fun _ => ?_) <;> try (exfalso; omega))
      | (refine bF_ne (fun _ => ?_) (fun _ => ?_) <;> try (exfalso; omega))
      | (refine a64 (by omega) ?_)
      | (refine ix_at rfl (by omega) ?_)
      | (refine ⟨⟨rfl, by omega, by omega⟩, ?_⟩)
      | (refine map_at (by omega) ?_)
      | (refine alen ?_)
      | (refine amin ?_)
      | (refine amax ?_)
      | (refine ⟨⟨rfl, rfl, by simp [V.ments, mentsL]⟩, ?_⟩)
      | (refine map_at0 (by omega) ?_)
      | (refine set_at rfl ?_)
      | (refine map_atI (by omega) ?_)
      | (refine map_atI0 (by omega) ?_)
      | (refine set_atI rfl ?_)
      | (refine ⟨⟨by decide, rfl, by omega, by omega, by omega, by dsimp only; omega⟩, ?_⟩)
      | (refine arem (by omega) ?_)
      | (refine aquo (by omega) (by omega) ?_)
      | (refine au8 ?_)
      | (refine au64 (by omega) ?_)
      | (refine anat ?_)
      | (refine szOk rfl ?_)
      | (refine dvOk rfl (by omega) ?_)
      | (refine nzOk (by decide) ?_)
      | (refine lgOk (by kernel_rfl) ?_)
      | (refine kpOk (by kernel_rfl) ?_)
      | fail)
    all_goals conv => whnf
    · exact ⟨l.length - (i + 1), by omega, i + 1, putB c (l.getD i default) r, ⟨rfl, by omega, BxOk.F (putB_ok hco hpo hro hin), by rw [putsB_at (by omega) hp, if_pos ⟨hpo, hro, hin⟩]⟩, rfl⟩
    · refine h0 (.inr (putsB_none (i := i + 1) (by omega) ?_))
      rw [putsB_at (by omega) hp, if_neg fun h => hno ⟨putsB_ok (l.take i) b c hok hp, h.1, h.2.1, h.2.2⟩]
    · rw [List.take_of_length_le (by omega)] at hp
      exact h1 c hok hp
  · exact h0 (.inl (by assumption))
end Go.Eng.T
