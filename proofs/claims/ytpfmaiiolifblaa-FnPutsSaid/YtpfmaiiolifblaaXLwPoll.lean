import Derived.Test.YtpfmaiiolifblaaXBxS6
import Derived.Test.YtpfmaiiolifblaaXBxP4
namespace Go.Eng.T
open Go.Proofs Go.Eng
set_option maxRecDepth 100000
set_option maxHeartbeats 0

theorem BxI.F {b : Bx} (h : BxI b) : BxF b := ⟨h.i, Nat.le_trans h.li (by decide), Nat.le_trans h.lr (by decide), fun t ht => Nat.le_trans (h.t t ht).2.2.len (by decide)⟩
theorem DrawBoxPoll.ac (D : List Int) (hd : Bytes D) (hl : D.length ≤ 1048576) {K : V → List Obj → List Obj → Prop} (hK : ∀ b f, BxI b → I64 f → K (.tup [encBx b, iv f]) [] []) : AC Try.prog 21 [.is 1 (D.map encB)] [] K := by
  refine ac_body (ann []) [((997, 0), true), ((4, 0), true), ((9, 0), true), ((7, 0), true), ((22, 0), false)] hm htt Try.func21 rfl (by kernel_rfl) rfl rfl ?_
  repeat' ((conv => whnf); first
    | (refine l01Open.ac D hd hl fun s hc => ?_)
    | (refine badBox.ac D _ _ _ ‹_› (by omega) fun b p' s' hc' hb => ?_)
    | (refine cpick.ac D _ _ _ _ ‹_› (by omega) fun r p' s' hc' _ _ => ?_)
    | (refine once.ac D _ _ _ _ ‹_› (by omega) (by omega) fun b p' s' hc' => ?_; cases b)
    | (refine raw.ac D _ _ _ ‹_› (by omega) fun r p' s' hc' _ _ => ?_)
    | (refine pickI2 rfl (by omega) fun x _ => ?_)
    | (refine pickI3 rfl (by omega) fun x _ => ?_)
    | (refine pickI4 rfl (by omega) fun x _ => ?_)
    | (refine pickI5 rfl (by omega) fun x _ => ?_)
    | (refine bF_dec (fun _ => ?_) (fun _ => ?_) <;> try (exfalso; omega))
    | (refine bF_eq (fun _ => ?_) (fun _ => ?_) <;> try (exfalso; omega))
    | (refine bF_ne (fun _ => ?_) (fun _ => ?_) <;> try (exfalso; omega))
    | (refine a64 (by omega) ?_)
    | (refine ix_at rfl (by omega) ?_)
    | (refine ⟨⟨rfl, by omega, by omega⟩, ?_⟩)
    | (refine map_at (by omega) ?_)
    | (refine alen ?_)
    | (refine amin ?_)
    | (refine amax ?_)
    | (refine ⟨⟨rfl, rfl, by simp [V.ments, mentsL]⟩, ?_⟩)
    | (refine map_at0 (by omega) ?_)
    | (refine set_at rfl ?_)
    | (refine map_atI (by omega) ?_)
    | (refine map_atI0 (by omega) ?_)
    | (refine set_atI rfl ?_)
    | (refine ⟨⟨by decide, rfl, by omega, by omega, by omega, by dsimp only; omega⟩, ?_⟩)
    | (refine arem (by omega) ?_)
    | (refine aquo (by omega) (by omega) ?_)
    | (refine au8 ?_)
    | (refine au64 (by omega) ?_)
    | (refine anat ?_)
    | (refine szOk rfl ?_)
    | (refine dvOk rfl (by omega) ?_)
    | (refine nzOk (by decide) ?_)
    | (refine lgOk (by kernel_rfl) ?_)
    | (refine kpOk (by kernel_rfl) ?_)
    | fail)
  all_goals conv => whnf
  all_goals exact hK b _ hb (by unfold I64; omega)
theorem pollR_inj {b : Bx} {f : Int} {P Q : List It} (h1 : pollR b f P) (h2 : pollR b f Q) : P = Q := by
  by_cases h : BxOk b
  · rw [h1.1 h, h2.1 h]
  · rw [h1.2 h, h2.2 h]
theorem pollR_drop {b : Bx} {f : Int} {A G : List It} (h1 : pollR b (-1) A) (h2 : pollR b f G) : ∃ j, j ≤ A.length ∧ G = A.drop j ∧ (0 < j → (A.getD (j - 1) default).s < f) := by
  by_cases h : BxOk b
  · obtain ⟨j, hj, e, hlt⟩ := poll_drop (nx := b.nx - b.its.length) b.its f (fun i hi => (h.its i hi).1)
    have hA : A = b.its := by
      rw [h1.1 h]
      unfold pollB
      rw [List.filter_eq_self]
      intro t ht
      obtain ⟨i, hi, rfl⟩ := List.mem_iff_getElem.1 ht
      have := (h.its i hi).2.1
      rw [List.getD_eq_getElem?_getD, List.getElem?_eq_getElem hi] at this
      rw [decide_eq_true_iff]
      exact Int.le_trans (by decide) this
    exact ⟨j, by rw [hA]; exact hj, by rw [h2.1 h, hA, e], fun h0 => by rw [hA]; exact hlt h0⟩
  · exact ⟨0, Nat.zero_le _, by rw [h1.2 h, h2.2 h]; rfl, fun h0 => absurd h0 (by omega)⟩
theorem pollR_ge {b : Bx} {f : Int} {G : List It} (h : pollR b f G) (i : Nat) (hi : i < G.length) : f ≤ (G.getD i default).s := by
  by_cases hb : BxOk b
  · rw [h.1 hb] at hi ⊢
    rw [List.getD_eq_getElem?_getD, List.getElem?_eq_getElem hi]
    have := (List.mem_filter.1 (List.getElem_mem hi)).2
    exact of_decide_eq_true this
  · rw [h.2 hb] at hi; simp at hi
theorem pollR_len {b : Bx} {f : Int} {G : List It} (h : pollR b f G) (hb : BxI b) : G.length ≤ 50 ∧ ∀ t ∈ G, t.p.v.length ≤ 100000 := by
  by_cases h0 : BxOk b
  · rw [h.1 h0]
    exact ⟨Nat.le_trans (poll_len _ _) hb.li, fun t ht => (BxI.F hb).2.2.2 t (List.mem_filter.1 ht).1⟩
  · rw [h.2 h0]; exact ⟨Nat.zero_le _, fun _ h => nomatch h⟩
/-- A cut that is known by another name. -/
theorem cutG {α : Type} {f : α → V} {l G : List α} {A : Prop} {x y : Nat} {K : List V → Prop} (a z : Nat) (hG : (l.drop a).take z = G) (h : A) (hx : x = a) (hy : y = z) (k : K (G.map f)) : A ∧ ∀ es', es' = ((l.map f).drop x).take y → K es' := by
  subst hG
  exact cutN a z h hx hy k
theorem FnPoll.ac (D : List Int) (hd : Bytes D) {K : V → List Obj → List Obj → Prop} (hK : K (bv true) [] []) : AC Try.prog 4 [.is 1 (D.map encB)] [] K := by
  refine ac_body (ann [(9, [4, 5, 6, 7], [])]) [((997, 0), true), ((5, 0), true)] hm htt Try.func4 rfl (by kernel_rfl) rfl rfl ?_
  repeat' ((conv => whnf); first
    | (refine big2 D (fun _ => ?_) (fun _ => ?_))
    | (refine DrawBoxPoll.ac D hd (by omega) fun b f hb hf => ?_)
    | (refine BoxPollI.ac b f (BxI.F hb) fun G hG => ?_)
    | (refine BoxPollI.ac b (-1) (BxI.F hb) fun A hA => ?_)
    | (refine BoxPollS.ac b f (BxI.F hb) fun S hS => ?_; obtain rfl := pollR_inj hG hS)
    | (refine sameItemsT _ (Nat.le_trans (pollR_len hG hb).1 (by decide)) (pollR_len hG hb).2 ?_)
    | (refine bF_dec (fun _ => ?_) (fun _ => ?_) <;> try (exfalso; omega))
    | (refine bF_eq (fun _ => ?_) (fun _ => ?_) <;> try (exfalso; omega))
    | (refine bF_ne (fun _ => ?_) (fun _ => ?_) <;> try (exfalso; omega))
    | (refine a64 (by omega) ?_)
    | (refine ix_at rfl (by omega) ?_)
    | (refine ⟨⟨rfl, by omega, by omega⟩, ?_⟩)
    | (refine map_at (by omega) ?_)
    | (refine alen ?_)
    | (refine amin ?_)
    | (refine amax ?_)
    | (refine ⟨⟨rfl, rfl, by simp [V.ments, mentsL]⟩, ?_⟩)
    | (refine map_at0 (by omega) ?_)
    | (refine set_at rfl ?_)
    | (refine map_atI (by omega) ?_)
    | (refine map_atI0 (by omega) ?_)
    | (refine set_atI rfl ?_)
    | (refine ⟨⟨by decide, rfl, by omega, by omega, by omega, by dsimp only; omega⟩, ?_⟩)
    | (refine arem (by omega) ?_)
    | (refine aquo (by omega) (by omega) ?_)
    | (refine au8 ?_)
    | (refine au64 (by omega) ?_)
    | (refine anat ?_)
    | (refine szOk rfl ?_)
    | (refine dvOk rfl (by omega) ?_)
    | (refine nzOk (by decide) ?_)
    | (refine lgOk (by kernel_rfl) ?_)
    | (refine kpOk (by kernel_rfl) ?_)
    | fail)
  all_goals conv => whnf
  · exact hK
  · rename_i hgt
    obtain ⟨j, hj, e, _⟩ := pollR_drop hA hG
    rw [e, List.length_drop] at hgt
    exfalso; omega
  obtain ⟨j, hj, e, hlt⟩ := pollR_drop hA hG
  have hge := pollR_ge hG
  have hGl : G.length = A.length - j := by rw [e, List.length_drop]
  have hAl := (pollR_len hA hb).1
  have hlA : (A.map encIt).length = A.length := List.length_map ..
  have hcut : (A.drop j).take (A.length - j) = G := by rw [e]; exact List.take_of_length_le (by rw [List.length_drop]; omega)
  refine cwF_loop (fun m st => ∃ (i : Nat), (m = G.length - i ∧ i ≤ G.length) ∧
    st = ⟨[.un, .un, .un, .un, iv f, .is 10 (G.map encIt), .is 10 (A.map encIt), iv i] ++ List.replicate 68 .un, mkOb []⟩) G.length (by kernel_rfl) ⟨0, ⟨rfl, by omega⟩, rfl⟩ ?_
  rintro m st ⟨i, ⟨rfl, hi⟩, rfl⟩
  have hgi := hge i
  repeat' ((conv => whnf); first
    | (refine cutG j (A.length - j) hcut (by omega) (by omega) (by omega) ?_)
    | (refine sameItemsT G (Nat.le_trans (pollR_len hG hb).1 (by decide)) (pollR_len hG hb).2 ?_)
    | (refine bF_dec (fun _ => ?_) (fun _ => ?_) <;> try (exfalso; omega))
    | (refine bF_eq (fun _ => ?_) (fun _ => ?_) <;> try (exfalso; omega))
    | (refine bF_ne (fun _ => ?_) (fun _ => ?_) <;> try (exfalso; omega))
    | (refine a64 (by omega) ?_)
    | (refine ix_at rfl (by omega) ?_)
    | (refine ⟨⟨rfl, by omega, by omega⟩, ?_⟩)
    | (refine map_at (by omega) ?_)
    | (refine alen ?_)
    | (refine amin ?_)
    | (refine amax ?_)
    | (refine ⟨⟨rfl, rfl, by simp [V.ments, mentsL]⟩, ?_⟩)
    | (refine map_at0 (by omega) ?_)
    | (refine set_at rfl ?_)
    | (refine map_atI (by omega) ?_)
    | (refine map_atI0 (by omega) ?_)
    | (refine set_atI rfl ?_)
    | (refine ⟨⟨by decide, rfl, by omega, by omega, by omega, by dsimp only; omega⟩, ?_⟩)
    | (refine arem (by omega) ?_)
    | (refine aquo (by omega) (by omega) ?_)
    | (refine au8 ?_)
    | (refine au64 (by omega) ?_)
    | (refine anat ?_)
    | (refine szOk rfl ?_)
    | (refine dvOk rfl (by omega) ?_)
    | (refine nzOk (by decide) ?_)
    | (refine lgOk (by kernel_rfl) ?_)
    | (refine kpOk (by kernel_rfl) ?_)
    | fail)
  all_goals conv => whnf
  · exact ⟨G.length - (i + 1), by omega, i + 1, ⟨rfl, by omega⟩, rfl⟩
  · exact hK
  · exact hK
  · rename_i c1 c2 c3
    have ej : ((A.length : Int) - G.length - 1).toNat = j - 1 := by omega
    rw [ej] at c3
    exact absurd (hlt (by omega)) c3
end Go.Eng.T
