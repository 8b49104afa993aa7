import Derived.Test.YtpfmaiiolifblaaXBxQ2
namespace Go.Eng.T
open Go.Proofs Go.Eng
set_option maxRecDepth 100000
set_option maxHeartbeats 0

theorem PutsI.new (b : Bx) (l : List Pn) (r : Int) (hb : BxF b) (hl : ∀ p ∈ l, p.v.length ≤ 100000) (hll : l.length ≤ 1000) {K : V → List Obj → List Obj → Prop}
    (hN : ∀ c, BxOk b → putsB r b l = some c → c.rcs = [] → K (.tup [bxN c, bv true]) [] [rowIt c.its])
    (h1 : ∀ c, BxOk b → putsB r b l = some c → K (.tup [bxL c, bv true]) [] [rowIt c.its, rowRc c.rcs])
    (h0 : ¬ BxOk b ∨ putsB r b l = none → K (.tup [bx0, bv false]) [] []) : AC Try.prog 25 [encBx b, .is 8 (l.map encPn), iv r] [] K := by
  have none_of : ∀ (i : Nat) (c : Bx), BxOk b → i < l.length → putsB r b (l.take i) = some c → ¬ (PnOk (l.getD i default) ∧ RuleI r ∧ inB (putB c (l.getD i default) r)) → ¬ BxOk b ∨ putsB r b l = none := fun i c hok hi hp hno => .inr (putsB_none (i := i + 1) (by omega) (by rw [putsB_at hi hp, if_neg hno]))
  have some_of : ∀ (i : Nat) (c d : Bx), i < l.length → putsB r b (l.take i) = some c → PnOk (l.getD i default) → RuleI r → d = putB c (l.getD i default) r → inB d → putsB r b (l.take (i + 1)) = some d := fun i c d hi hp h2 h3 hd h4 => by
    subst hd
    rw [putsB_at hi hp, if_pos ⟨h2, h3, h4⟩]
  refine ac_body { imm := immL [], keep := keepL [(5, [2, 6, 8, 17, 18, 19], [(8, 0), (10, 0), (18, 0), (18, 1)])], sw := fun n ob => bif Nat.beq n 5 then swPr ob 18 [36] else [] } [((997, 0), true), ((5, 0), true), ((8, 0), true), ((18, 0), false), ((18, 1), false), ((10, 0), true), ((12, 0), true), ((36, 0), false), ((36, 1), false)] hm htt Try.func25 rfl (by kernel_rfl) rfl rfl ?_
  repeat' ((conv => whnf); first
    | (refine isBox2 b hb (fun hok => ?_) (fun _ => ?_))
    | (refine copyBxI.new b hb (fun hn => ?_) ?_)
    | (refine bF_dec (fun _ => ?_) (fun _ => ?_) <;> try (exfalso; omega))
    | (refine bF_eq (fun _ => ?_) (fun _ => ?_) <;> try (exfalso; omega))
    | (refine bF_ne (fun _ => ?_) (fun _ => ?_) <;> try (exfalso; omega))
    | (refine a64 (by omega) ?_)
    | (refine ix_at rfl (by omega) ?_)
    | (refine ⟨⟨rfl, by omega, by omega⟩, ?_⟩)
    | (refine map_at (by omega) ?_)
    | (refine alen ?_)
    | (refine amin ?_)
    | (refine amax ?_)
    | (refine ⟨⟨rfl, rfl, by simp [V.ments, mentsL]⟩, ?_⟩)
    | (refine map_at0 (by omega) ?_)
    | (refine set_at rfl ?_)
    | (refine map_atI (by omega) ?_)
    | (refine map_atI0 (by omega) ?_)
    | (refine set_atI rfl ?_)
    | (refine ⟨⟨by decide, rfl, by omega, by omega, by omega, by dsimp only; omega⟩, ?_⟩)
    | (refine arem (by omega) ?_)
    | (refine aquo (by omega) (by omega) ?_)
    | (refine au8 ?_)
    | (refine au64 (by omega) ?_)
    | (refine anat ?_)
    | (refine szOk rfl ?_)
    | (refine dvOk rfl (by omega) ?_)
    | (refine nzOk (by decide) ?_)
    | (refine lgOk (by kernel_rfl) ?_)
    | (refine kpOk (by kernel_rfl) ?_)
    | fail)
  all_goals conv => whnf
  · refine cwF_loop (fun m st => ∃ (i : Nat) (c : Bx), (m = l.length - i ∧ i ≤ l.length ∧ BxOk c ∧ putsB r b (l.take i) = some c) ∧
      ((c.rcs = [] ∧ st = ⟨[.un, .un, iv r, .un, .un, .un, .lp (8, 0) 6 0 0, .un, .lp (10, 0) 6 0 0, .un, .un, .un, .un, .un, .un, .un, .un, .is 8 (l.map encPn), iv l.length, iv i] ++ List.replicate 20 .un, mkOb [((8, 0), some (.arr false 6 [bx0])), ((10, 0), some (.arr false 6 [.agg [iv c.cap, iv c.aud, iv c.nx, iv c.gp, .ls (18, 0) 10 0 c.its.length, nilS]])), ((18, 0), some (rowIt c.its)), ((18, 1), none)]⟩) ∨ st = ⟨[.un, .un, iv r, .un, .un, .un, .lp (8, 0) 6 0 0, .un, .lp (10, 0) 6 0 0, .un, .un, .un, .un, .un, .un, .un, .un, .is 8 (l.map encPn), iv l.length, iv i] ++ List.replicate 20 .un, mkOb [((8, 0), some (.arr false 6 [bx0])), ((10, 0), some (.arr false 6 [.agg [iv c.cap, iv c.aud, iv c.nx, iv c.gp, .ls (18, 0) 10 0 c.its.length, .ls (18, 1) 3 0 c.rcs.length]])), ((18, 0), some (rowIt c.its)), ((18, 1), some (rowRc c.rcs))]⟩)) l.length (by kernel_rfl) ⟨0, b, ⟨rfl, by omega, hok, rfl⟩, .inl ⟨hn, rfl⟩⟩ ?_
    rintro m st ⟨i, c, ⟨rfl, hi, hco, hp⟩, ⟨hn, rfl⟩ | rfl⟩
    all_goals
      have hgl : (l.getD i default).v.length ≤ 100000 := by
        by_cases h : i < l.length
        · rw [List.getD_eq_getElem?_getD, List.getElem?_eq_getElem h]; exact hl _ (List.getElem_mem h)
        · rw [List.getD_eq_getElem?_getD, List.getElem?_eq_none (by omega)]; exact Nat.zero_le _
    · repeat' ((conv => whnf); first
        | (refine isPane2 (l.getD i default) (fun hpo => ?_) (fun hpo => ?_))
        | (refine isRule2 r (fun hro => ?_) (fun hro => ?_))
        | (refine putN.ac c (l.getD i default) r hco.hd hn hgl (fun d hd hF => ⟨?_, ?_⟩) (fun d hd hin hrn => ?_) (fun d hd hin => ?_))
        | (refine bF_dec (fun _ => ?_) (fun _ => ?_) <;> try (exfalso; omega))
        | (refine bF_eq (fun _ => ?_) (fun _ => ?_) <;> try (exfalso; omega))
        | (refine bF_ne (fun _ => ?_) (fun _ => ?_) <;> try (exfalso; omega))
        | (refine a64 (by omega) ?_)
        | (refine ix_at rfl (by omega) ?_)
        | (refine ⟨⟨rfl, by omega, by omega⟩, ?_⟩)
        | (refine map_at (by omega) ?_)
        | (refine alen ?_)
        | (refine amin ?_)
        | (refine amax ?_)
        | (refine ⟨⟨rfl, rfl, by simp [V.ments, mentsL]⟩, ?_⟩)
        | (refine map_at0 (by omega) ?_)
        | (refine set_at rfl ?_)
        | (refine map_atI (by omega) ?_)
        | (refine map_atI0 (by omega) ?_)
        | (refine set_atI rfl ?_)
        | (refine ⟨⟨by decide, rfl, by omega, by omega, by omega, by dsimp only; omega⟩, ?_⟩)
        | (refine arem (by omega) ?_)
        | (refine aquo (by omega) (by omega) ?_)
        | (refine au8 ?_)
        | (refine au64 (by omega) ?_)
        | (refine anat ?_)
        | (refine szOk rfl ?_)
        | (refine dvOk rfl (by omega) ?_)
        | (refine nzOk (by decide) ?_)
        | (refine lgOk (by kernel_rfl) ?_)
        | (refine kpOk (by kernel_rfl) ?_)
        | fail)
      all_goals conv => whnf
      all_goals first
        | exact h0 (none_of i c hok (by omega) hp (fun h => absurd h.1 (by assumption)))
        | exact h0 (none_of i c hok (by omega) hp (fun h => absurd h.2.1 (by assumption)))
        | exact h0 (none_of i c hok (by omega) hp (fun h => hF (by rw [hd]; exact h.2.2)))
        | (rw [List.take_of_length_le (by omega)] at hp; exact hN c hok hp hn)
        | exact ⟨l.length - (i + 1), by omega, i + 1, d, ⟨rfl, by omega, hd ▸ putB_ok hco hpo hro (hd ▸ hin), some_of i c d (by omega) hp hpo hro hd hin⟩, .inl ⟨hrn, rfl⟩⟩
        | exact ⟨l.length - (i + 1), by omega, i + 1, d, ⟨rfl, by omega, hd ▸ putB_ok hco hpo hro (hd ▸ hin), some_of i c d (by omega) hp hpo hro hd hin⟩, .inr rfl⟩
        | trace_state
    · repeat' ((conv => whnf); first
        | (refine isPane2 (l.getD i default) (fun hpo => ?_) (fun hpo => ?_))
        | (refine isRule2 r (fun hro => ?_) (fun hro => ?_))
        | (refine putR.ac c (l.getD i default) r hco.hd hgl (fun d hd hF => ⟨?_, ?_⟩) (fun d hd hin => ?_) (fun d hd hin => ?_))
        | (refine bF_dec (fun _ => ?_) (fun _ => ?_) <;> try (exfalso; omega))
        | (refine bF_eq (fun _ => ?_) (fun _ => ?_) <;> try (exfalso; omega))
        | (refine bF_ne (fun _ => ?_) (fun _ => ?_) <;> try (exfalso; omega))
        | (refine a64 (by omega) ?_)
        | (refine ix_at rfl (by omega) ?_)
        | (refine ⟨⟨rfl, by omega, by omega⟩, ?_⟩)
        | (refine map_at (by omega) ?_)
        | (refine alen ?_)
        | (refine amin ?_)
        | (refine amax ?_)
        | (refine ⟨⟨rfl, rfl, by simp [V.ments, mentsL]⟩, ?_⟩)
        | (refine map_at0 (by omega) ?_)
        | (refine set_at rfl ?_)
        | (refine map_atI (by omega) ?_)
        | (refine map_atI0 (by omega) ?_)
        | (refine set_atI rfl ?_)
        | (refine ⟨⟨by decide, rfl, by omega, by omega, by omega, by dsimp only; omega⟩, ?_⟩)
        | (refine arem (by omega) ?_)
        | (refine aquo (by omega) (by omega) ?_)
        | (refine au8 ?_)
        | (refine au64 (by omega) ?_)
        | (refine anat ?_)
        | (refine szOk rfl ?_)
        | (refine dvOk rfl (by omega) ?_)
        | (refine nzOk (by decide) ?_)
        | (refine lgOk (by kernel_rfl) ?_)
        | (refine kpOk (by kernel_rfl) ?_)
        | fail)
      all_goals conv => whnf
      all_goals first
        | exact h0 (none_of i c hok (by omega) hp (fun h => absurd h.1 (by assumption)))
        | exact h0 (none_of i c hok (by omega) hp (fun h => absurd h.2.1 (by assumption)))
        | exact h0 (none_of i c hok (by omega) hp (fun h => hF (by rw [hd]; exact h.2.2)))
        | (rw [List.take_of_length_le (by omega)] at hp; exact h1 c hok hp)
        | exact ⟨l.length - (i + 1), by omega, i + 1, d, ⟨rfl, by omega, hd ▸ putB_ok hco hpo hro (hd ▸ hin), some_of i c d (by omega) hp hpo hro hd hin⟩, .inr rfl⟩
        | trace_state
  · refine cwF_loop (fun m st => ∃ (i : Nat) (c : Bx), (m = l.length - i ∧ i ≤ l.length ∧ BxOk c ∧ putsB r b (l.take i) = some c) ∧
      ((c.rcs = [] ∧ st = ⟨[.un, .un, iv r, .un, .un, .un, .lp (8, 0) 6 0 0, .un, .lp (10, 0) 6 0 0, .un, .un, .un, .un, .un, .un, .un, .un, .is 8 (l.map encPn), iv l.length, iv i] ++ List.replicate 20 .un, mkOb [((8, 0), some (.arr false 6 [bx0])), ((10, 0), some (.arr false 6 [.agg [iv c.cap, iv c.aud, iv c.nx, iv c.gp, .ls (18, 0) 10 0 c.its.length, nilS]])), ((18, 0), some (rowIt c.its)), ((18, 1), none)]⟩) ∨ st = ⟨[.un, .un, iv r, .un, .un, .un, .lp (8, 0) 6 0 0, .un, .lp (10, 0) 6 0 0, .un, .un, .un, .un, .un, .un, .un, .un, .is 8 (l.map encPn), iv l.length, iv i] ++ List.replicate 20 .un, mkOb [((8, 0), some (.arr false 6 [bx0])), ((10, 0), some (.arr false 6 [.agg [iv c.cap, iv c.aud, iv c.nx, iv c.gp, .ls (18, 0) 10 0 c.its.length, .ls (18, 1) 3 0 c.rcs.length]])), ((18, 0), some (rowIt c.its)), ((18, 1), some (rowRc c.rcs))]⟩)) l.length (by kernel_rfl) ⟨0, b, ⟨rfl, by omega, hok, rfl⟩, .inr rfl⟩ ?_
    rintro m st ⟨i, c, ⟨rfl, hi, hco, hp⟩, ⟨hn, rfl⟩ | rfl⟩
    all_goals
      have hgl : (l.getD i default).v.length ≤ 100000 := by
        by_cases h : i < l.length
        · rw [List.getD_eq_getElem?_getD, List.getElem?_eq_getElem h]; exact hl _ (List.getElem_mem h)
        · rw [List.getD_eq_getElem?_getD, List.getElem?_eq_none (by omega)]; exact Nat.zero_le _
    · repeat' ((conv => whnf); first
        | (refine isPane2 (l.getD i default) (fun hpo => ?_) (fun hpo => ?_))
        | (refine isRule2 r (fun hro => ?_) (fun hro => ?_))
        | (refine putN.ac c (l.getD i default) r hco.hd hn hgl (fun d hd hF => ⟨?_, ?_⟩) (fun d hd hin hrn => ?_) (fun d hd hin => ?_))
        | (refine bF_dec (fun _ => ?_) (fun _ => ?_) <;> try (exfalso; omega))
        | (refine bF_eq (fun _ => ?_) (fun _ => ?_) <;> try (exfalso; omega))
        | (refine bF_ne (fun _ => ?_) (fun _ => ?_) <;> try (exfalso; omega))
        | (refine a64 (by omega) ?_)
        | (refine ix_at rfl (by omega) ?_)
        | (refine ⟨⟨rfl, by omega, by omega⟩, ?_⟩)
        | (refine map_at (by omega) ?_)
        | (refine alen ?_)
        | (refine amin ?_)
        | (refine amax ?_)
        | (refine ⟨⟨rfl, rfl, by simp [V.ments, mentsL]⟩, ?_⟩)
        | (refine map_at0 (by omega) ?_)
        | (refine set_at rfl ?_)
        | (refine map_atI (by omega) ?_)
        | (refine map_atI0 (by omega) ?_)
        | (refine set_atI rfl ?_)
        | (refine ⟨⟨by decide, rfl, by omega, by omega, by omega, by dsimp only; omega⟩, ?_⟩)
        | (refine arem (by omega) ?_)
        | (refine aquo (by omega) (by omega) ?_)
        | (refine au8 ?_)
        | (refine au64 (by omega) ?_)
        | (refine anat ?_)
        | (refine szOk rfl ?_)
        | (refine dvOk rfl (by omega) ?_)
        | (refine nzOk (by decide) ?_)
        | (refine lgOk (by kernel_rfl) ?_)
        | (refine kpOk (by kernel_rfl) ?_)
        | fail)
      all_goals conv => whnf
      all_goals first
        | exact h0 (none_of i c hok (by omega) hp (fun h => absurd h.1 (by assumption)))
        | exact h0 (none_of i c hok (by omega) hp (fun h => absurd h.2.1 (by assumption)))
        | exact h0 (none_of i c hok (by omega) hp (fun h => hF (by rw [hd]; exact h.2.2)))
        | (rw [List.take_of_length_le (by omega)] at hp; exact hN c hok hp hn)
        | exact ⟨l.length - (i + 1), by omega, i + 1, d, ⟨rfl, by omega, hd ▸ putB_ok hco hpo hro (hd ▸ hin), some_of i c d (by omega) hp hpo hro hd hin⟩, .inl ⟨hrn, rfl⟩⟩
        | exact ⟨l.length - (i + 1), by omega, i + 1, d, ⟨rfl, by omega, hd ▸ putB_ok hco hpo hro (hd ▸ hin), some_of i c d (by omega) hp hpo hro hd hin⟩, .inr rfl⟩
        | trace_state
    · repeat' ((conv => whnf); first
        | (refine isPane2 (l.getD i default) (fun hpo => ?_) (fun hpo => ?_))
        | (refine isRule2 r (fun hro => ?_) (fun hro => ?_))
        | (refine putR.ac c (l.getD i default) r hco.hd hgl (fun d hd hF => ⟨?_, ?_⟩) (fun d hd hin => ?_) (fun d hd hin => ?_))
        | (refine bF_dec (fun _ => ?_) (fun _ => ?_) <;> try (exfalso; omega))
        | (refine bF_eq (fun _ => ?_) (fun _ => ?_) <;> try (exfalso; omega))
        | (refine bF_ne (fun _ => ?_) (fun _ => ?_) <;> try (exfalso; omega))
        | (refine a64 (by omega) ?_)
        | (refine ix_at rfl (by omega) ?_)
        | (refine ⟨⟨rfl, by omega, by omega⟩, ?_⟩)
        | (refine map_at (by omega) ?_)
        | (refine alen ?_)
        | (refine amin ?_)
        | (refine amax ?_)
        | (refine ⟨⟨rfl, rfl, by simp [V.ments, mentsL]⟩, ?_⟩)
        | (refine map_at0 (by omega) ?_)
        | (refine set_at rfl ?_)
        | (refine map_atI (by omega) ?_)
        | (refine map_atI0 (by omega) ?_)
        | (refine set_atI rfl ?_)
        | (refine ⟨⟨by decide, rfl, by omega, by omega, by omega, by dsimp only; omega⟩, ?_⟩)
        | (refine arem (by omega) ?_)
        | (refine aquo (by omega) (by omega) ?_)
        | (refine au8 ?_)
        | (refine au64 (by omega) ?_)
        | (refine anat ?_)
        | (refine szOk rfl ?_)
        | (refine dvOk rfl (by omega) ?_)
        | (refine nzOk (by decide) ?_)
        | (refine lgOk (by kernel_rfl) ?_)
        | (refine kpOk (by kernel_rfl) ?_)
        | fail)
      all_goals conv => whnf
      all_goals first
        | exact h0 (none_of i c hok (by omega) hp (fun h => absurd h.1 (by assumption)))
        | exact h0 (none_of i c hok (by omega) hp (fun h => absurd h.2.1 (by assumption)))
        | exact h0 (none_of i c hok (by omega) hp (fun h => hF (by rw [hd]; exact h.2.2)))
        | (rw [List.take_of_length_le (by omega)] at hp; exact h1 c hok hp)
        | exact ⟨l.length - (i + 1), by omega, i + 1, d, ⟨rfl, by omega, hd ▸ putB_ok hco hpo hro (hd ▸ hin), some_of i c d (by omega) hp hpo hro hd hin⟩, .inr rfl⟩
        | trace_state
  · exact h0 (.inl (by assumption))
end Go.Eng.T
