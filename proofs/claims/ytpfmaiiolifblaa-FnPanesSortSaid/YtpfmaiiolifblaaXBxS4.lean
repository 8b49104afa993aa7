import Derived.Test.YtpfmaiiolifblaaXBxS3
namespace Go.Eng.T
open Go.Proofs Go.Eng
set_option maxRecDepth 100000
set_option maxHeartbeats 0

theorem itemsS.one (l : List It) (i : Nat) (hi : i < l.length) (hv : ∀ t ∈ l, t.p.v.length ≤ 100000) {K : V → List Obj → List Obj → Prop} (hK : K (.ls (1, 0) 10 0 1) [] [rowIt [l.getD i default]]) : AC Try.prog 75 [.is 10 (((l.drop i).take 1).map encIt)] [] K := by
  have e : (l.drop i).take 1 = [l.getD i default] := by rw [List.drop_eq_getElem_cons hi, List.getD_eq_getElem?_getD, List.getElem?_eq_getElem hi]; rfl
  rw [e]
  refine itemsS.new [l.getD i default] (by simp) (fun t ht => ?_) hK
  rw [List.mem_singleton.1 ht, List.getD_eq_getElem?_getD, List.getElem?_eq_getElem hi]
  exact hv _ (List.getElem_mem hi)
theorem poll_snoc {l : List It} {i : Nat} (h : i < l.length) (f : Int) : pollB (l.take (i + 1)) f = pollB (l.take i) f ++ (if f ≤ (l.getD i default).s then [l.getD i default] else []) := by
  unfold pollB
  rw [← take_succD h, List.filter_append]
  congr 1
  by_cases c : f ≤ (l.getD i default).s
  · rw [if_pos c, List.filter_cons, if_pos (by simpa using c)]; rfl
  · rw [if_neg c, List.filter_cons, if_neg (by simpa using c)]; rfl
theorem poll_len (l : List It) (f : Int) : (pollB l f).length ≤ l.length := List.length_filter_le _ _
theorem BoxAckS.new (b : Bx) (q : Int) (hb : BxOk b) {K : V → List Obj → List Obj → Prop} (hK : K (.tup [bxL { b with its := pollB b.its (q + 1) }, bv true]) [] [rowIt (pollB b.its (q + 1)), rowRc b.rcs]) : AC Try.prog 216 [encBx b, iv q] [] K := by
  have hK' : ∀ o, o = pollB b.its (q + 1) → K (.tup [bxL { b with its := o }, bv true]) [] [rowIt o, rowRc b.rcs] := by rintro _ rfl; exact hK
  have h2 := BxOk.F hb
  have h3 := hb.hd
  unfold BxHd at h3
  refine ac_body (annM [] [(6, [1, 2, 4, 6, 7], [(4, 0), (6, 0), (8, 0), (16, 1), (15, 1)])] [(6, [((16, 1), [16, 45])])]) [((997, 0), true), ((4, 0), true), ((6, 0), true), ((15, 0), false), ((15, 1), false), ((8, 0), true), ((16, 0), false), ((16, 1), false), ((41, 0), true), ((44, 0), true), ((45, 0), false)] hm htt Try.func216 rfl (by kernel_rfl) rfl rfl ?_
  repeat' ((conv => whnf); first
    | (refine BoxOkS2 b h2 (fun _ => ?_) (fun h => absurd hb h))
    | (refine copyBxS.new b h2 ?_)
    | (refine bF_dec (fun _ => ?_) (fun _ => ?_) <;> try (exfalso; omega))
    | (refine bF_eq (fun _ => ?_) (fun _ => ?_) <;> try (exfalso; omega))
    | (refine bF_ne (fun _ => ?_) (fun _ => ?_) <;> try (exfalso; omega))
    | (refine a64 (by omega) ?_)
    | (refine ix_at rfl (by omega) ?_)
    | (refine ⟨⟨rfl, by omega, by omega⟩, ?_⟩)
    | (refine map_at (by omega) ?_)
    | (refine alen ?_)
    | (refine amin ?_)
    | (refine amax ?_)
    | (refine ⟨⟨rfl, rfl, by simp [V.ments, mentsL]⟩, ?_⟩)
    | (refine map_at0 (by omega) ?_)
    | (refine set_at rfl ?_)
    | (refine map_atI (by omega) ?_)
    | (refine map_atI0 (by omega) ?_)
    | (refine set_atI rfl ?_)
    | (refine ⟨⟨by decide, rfl, by omega, by omega, by omega, by dsimp only; omega⟩, ?_⟩)
    | (refine arem (by omega) ?_)
    | (refine aquo (by omega) (by omega) ?_)
    | (refine au8 ?_)
    | (refine au64 (by omega) ?_)
    | (refine anat ?_)
    | (refine szOk rfl ?_)
    | (refine dvOk rfl (by omega) ?_)
    | (refine nzOk (by decide) ?_)
    | (refine lgOk (by kernel_rfl) ?_)
    | (refine kpOk (by kernel_rfl) ?_)
    | fail)
  all_goals conv => whnf
  refine cwF_loop (fun m st => ∃ (i : Nat) (o : List It), (m = b.its.length - i ∧ i ≤ b.its.length ∧ o = pollB (b.its.take i) (q + 1)) ∧
    st = ⟨[.un, iv q, .lp (4, 0) 6 0 0, .un, .lp (6, 0) 6 0 0, .un, .lp (8, 0) 6 0 0, iv i] ++ List.replicate 38 .un, mkOb [((4, 0), some (.arr false 6 [encBx b])), ((6, 0), some (.arr false 6 [bx0])), ((8, 0), some (.arr false 6 [.agg [iv b.cap, iv b.aud, iv b.nx, iv b.gp, .ls (16, 1) 10 0 o.length, .ls (15, 1) 3 0 b.rcs.length]])), ((16, 1), some (rowIt o)), ((15, 1), some (rowRc b.rcs))]⟩) b.its.length (by kernel_rfl) ⟨0, [], ⟨rfl, by omega, rfl⟩, rfl⟩ ?_
  rintro m st ⟨i, o, ⟨rfl, hi, ho⟩, rfl⟩
  have hol : o.length ≤ b.its.length := by rw [ho]; exact Nat.le_trans (poll_len _ _) (by rw [List.length_take]; omega)
  have hli : (b.its.map encIt).length = b.its.length := List.length_map ..
  repeat' ((conv => whnf); first
    | (refine cutN i 1 (by simp only [List.length_map]; omega) (by omega) (by omega) ?_)
    | (refine itemsS.one b.its i (by omega) h2.2.2.2 ?_)
    | (refine app1 (f := encIt) (x := b.its.getD i default) ⟨by decide, rfl, rfl, by simp, ⟨by simp; omega, by simp; omega⟩, rfl, by simp [mentsOne]⟩ rfl ?_)
    | (refine bF_dec (fun _ => ?_) (fun _ => ?_) <;> try (exfalso; omega))
    | (refine bF_eq (fun _ => ?_) (fun _ => ?_) <;> try (exfalso; omega))
    | (refine bF_ne (fun _ => ?_) (fun _ => ?_) <;> try (exfalso; omega))
    | (refine a64 (by omega) ?_)
    | (refine ix_at rfl (by omega) ?_)
    | (refine ⟨⟨rfl, by omega, by omega⟩, ?_⟩)
    | (refine map_at (by omega) ?_)
    | (refine alen ?_)
    | (refine amin ?_)
    | (refine amax ?_)
    | (refine ⟨⟨rfl, rfl, by simp [V.ments, mentsL]⟩, ?_⟩)
    | (refine map_at0 (by omega) ?_)
    | (refine set_at rfl ?_)
    | (refine map_atI (by omega) ?_)
    | (refine map_atI0 (by omega) ?_)
    | (refine set_atI rfl ?_)
    | (refine ⟨⟨by decide, rfl, by omega, by omega, by omega, by dsimp only; omega⟩, ?_⟩)
    | (refine arem (by omega) ?_)
    | (refine aquo (by omega) (by omega) ?_)
    | (refine au8 ?_)
    | (refine au64 (by omega) ?_)
    | (refine anat ?_)
    | (refine szOk rfl ?_)
    | (refine dvOk rfl (by omega) ?_)
    | (refine nzOk (by decide) ?_)
    | (refine lgOk (by kernel_rfl) ?_)
    | (refine kpOk (by kernel_rfl) ?_)
    | fail)
  all_goals conv => whnf
  · exact ⟨b.its.length - (i + 1), by omega, i + 1, _, ⟨rfl, by omega, by rw [poll_snoc (by omega), ← ho, if_pos (by omega)]⟩, rfl⟩
  · exact ⟨b.its.length - (i + 1), by omega, i + 1, _, ⟨rfl, by omega, by rw [poll_snoc (by omega), ← ho, if_neg (by omega), List.append_nil]⟩, rfl⟩
  · exact hK' o (by rw [ho, List.take_of_length_le (by omega)])
theorem BoxAuditS.new (b : Bx) (n : Int) (hb : BxOk b) (hn : 0 ≤ n ∧ n ≤ 1000000) {K : V → List Obj → List Obj → Prop} (hK : ∀ o p, o = b.rcs.drop (min n b.rcs.length).toNat → p = b.rcs.take (min n b.rcs.length).toNat → K (.tup [bxL { b with rcs := o }, .ls (1, 2) 3 0 p.length, bv true]) [] [rowIt b.its, rowRc o, rowRc p]) : AC Try.prog 217 [encBx b, iv n] [] K := by
  have h2 := BxOk.F hb
  have h3 := hb.hd
  unfold BxHd at h3
  have hlr : (b.rcs.map encRc).length = b.rcs.length := List.length_map ..
  refine ac_body (ann []) [((997, 0), true), ((4, 0), true), ((6, 0), true), ((20, 0), false), ((20, 1), false), ((9, 0), true), ((26, 0), false), ((31, 0), false), ((34, 0), false), ((39, 0), false)] hm htt Try.func217 rfl (by kernel_rfl) rfl rfl ?_
  repeat' ((conv => whnf); first
    | (refine BoxOkS2 b h2 (fun _ => ?_) (fun h => absurd hb h))
    | (refine copyBxS.new b h2 ?_)
    | (refine appN (f := encRc) ⟨by decide, rfl, rfl, by simp, ⟨by simp; omega, by simp; omega⟩, rfl, by simp [mentsOne]⟩ ?_)
    | (refine cutN (f := encRc) (l := b.rcs) (min n b.rcs.length).toNat (b.rcs.length - (min n b.rcs.length).toNat) (by omega) (by omega) (by omega) ?_)
    | (refine cutN (f := encRc) (l := b.rcs) 0 (min n b.rcs.length).toNat (by simp only [List.length_map]; omega) (by omega) (by omega) ?_)
    | (refine bF_dec (fun _ => ?_) (fun _ => ?_) <;> try (exfalso; omega))
    | (refine bF_eq (fun _ => ?_) (fun _ => ?_) <;> try (exfalso; omega))
    | (refine bF_ne (fun _ => ?_) (fun _ => ?_) <;> try (exfalso; omega))
    | (refine a64 (by omega) ?_)
    | (refine ix_at rfl (by omega) ?_)
    | (refine ⟨⟨rfl, by omega, by omega⟩, ?_⟩)
    | (refine map_at (by omega) ?_)
    | (refine alen ?_)
    | (refine amin ?_)
    | (refine amax ?_)
    | (refine ⟨⟨rfl, rfl, by simp [V.ments, mentsL]⟩, ?_⟩)
    | (refine map_at0 (by omega) ?_)
    | (refine set_at rfl ?_)
    | (refine map_atI (by omega) ?_)
    | (refine map_atI0 (by omega) ?_)
    | (refine set_atI rfl ?_)
    | (refine ⟨⟨by decide, rfl, by omega, by omega, by omega, by dsimp only; omega⟩, ?_⟩)
    | (refine arem (by omega) ?_)
    | (refine aquo (by omega) (by omega) ?_)
    | (refine au8 ?_)
    | (refine au64 (by omega) ?_)
    | (refine anat ?_)
    | (refine szOk rfl ?_)
    | (refine dvOk rfl (by omega) ?_)
    | (refine nzOk (by decide) ?_)
    | (refine lgOk (by kernel_rfl) ?_)
    | (refine kpOk (by kernel_rfl) ?_)
    | fail)
  all_goals conv => whnf
  refine hK ((b.rcs.drop (min n b.rcs.length).toNat).take (b.rcs.length - (min n b.rcs.length).toNat)) ((b.rcs.drop 0).take (min n b.rcs.length).toNat) ?_ (by rw [List.drop_zero])
  refine List.take_of_length_le ?_
  rw [List.length_drop]; omega
end Go.Eng.T
