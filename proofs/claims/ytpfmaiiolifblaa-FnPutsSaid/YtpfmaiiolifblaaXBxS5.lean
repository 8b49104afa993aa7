import Derived.Test.YtpfmaiiolifblaaXBxS4
import Derived.Test.YtpfmaiiolifblaaXPnS3
namespace Go.Eng.T
open Go.Proofs Go.Eng
set_option maxRecDepth 100000
set_option maxHeartbeats 0

/-- What a drawn box is. -/
structure BxI (b : Bx) : Prop where
  i : I64 b.cap ∧ I64 b.aud ∧ I64 b.nx ∧ I64 b.gp
  li : b.its.length ≤ 50
  lr : b.rcs.length ≤ 50
  t : ∀ t ∈ b.its, I64 t.s ∧ I64 t.r ∧ PnI t.p
  r : ∀ r ∈ b.rcs, I64 r.s ∧ I64 r.r ∧ I64 r.l
def ItsI (l : List It) : Prop := ∀ t ∈ l, I64 t.s ∧ I64 t.r ∧ PnI t.p
def RcsI (l : List Rc) : Prop := ∀ r ∈ l, I64 r.s ∧ I64 r.r ∧ I64 r.l
theorem putB_its {b : Bx} {p : Pn} {r : Int} (h : ItsI b.its) (hp : PnI p) (hr : I64 r) (hn : I64 b.nx) : ItsI (putB b p r).its := by
  unfold putB
  split
  · intro t ht
    rcases List.mem_append.1 ht with ht | ht
    · exact h t ht
    · rw [List.mem_singleton.1 ht]; exact ⟨hn, hr, hp⟩
  · exact h
theorem ok_rcs {b : Bx} (h : BxOk b) : RcsI b.rcs := fun r hr => by
  obtain ⟨i, hi, rfl⟩ := List.mem_iff_getElem.1 hr
  have h1 := h.rcs i hi
  have h2 := h.hd
  rw [List.getD_eq_getElem?_getD, List.getElem?_eq_getElem hi] at h1
  unfold RcAt RuleI at h1
  unfold BxHd at h2
  simp only [Option.getD_some] at h1
  unfold I64
  omega
theorem ack_drop {b : Bx} (h : BxOk b) (f : Int) : ∃ j, pollB b.its f = b.its.drop j := by
  obtain ⟨j, _, e, _⟩ := poll_drop (nx := b.nx - b.its.length) b.its f (fun i hi => (h.its i hi).1)
  exact ⟨j, e⟩
/-- Two rows that come from one of a few calls go over to their standing numbers. -/
def swPr (ob : Store) (t : Nat) : List Nat → List (Key × Key)
  | [] => []
  | s :: r => match ob (s, 0) with
    | some _ => [((s, 0), (t, 0)), ((s, 1), (t, 1))]
    | none => swPr ob t r
theorem ok_new {a c : Int} (ha : 1 ≤ a ∧ a ≤ 50) (hc : 1 ≤ c ∧ c ≤ 50) : BxOk ⟨a, c, 0, 0, [], []⟩ := ⟨by unfold BxHd; dsimp only; simp; omega, fun i h => absurd h (by simp), fun i h => absurd h (by simp), fun i k h => absurd h (by simp)⟩
theorem ack_ok {b : Bx} (h : BxOk b) (f : Int) : BxOk { b with its := pollB b.its f } := by
  obtain ⟨j, e⟩ := ack_drop h f
  rw [e]; exact BxOk.dropI h j
theorem ack_its {b : Bx} (h : ItsI b.its) (f : Int) : ItsI (pollB b.its f) := fun t ht => h t (List.mem_filter.1 ht).1
theorem putB_in {b : Bx} {p : Pn} {r : Int} {n : Int} (h1 : b.nx ≤ n) (h2 : b.gp ≤ n) (hn : n ≤ 999999) : inB (putB b p r) := by
  unfold putB; split <;> (unfold inB; dsimp only; omega)
theorem putB_le {b : Bx} {p : Pn} {r n : Int} (h1 : b.nx ≤ n) (h2 : b.gp ≤ n) : (putB b p r).nx ≤ n + 1 ∧ (putB b p r).gp ≤ n + 1 := by
  unfold putB; split <;> (dsimp only; omega)
theorem poll_its {l : List It} (h : ItsI l) (f : Int) : ItsI (pollB l f) := fun t ht => h t (List.mem_filter.1 ht).1
theorem box.ac (D : List Int) (k p s : Int) (hc : CurI D k p s) (hk : k ≤ 300000) {K : V → List Obj → List Obj → Prop}
    (hA : ∀ a c p' s', CurI D (k + 10 + 330 * 15) p' s' → (1 ≤ a ∧ a ≤ 50) → (1 ≤ c ∧ c ≤ 50) → K (.agg [iv a, iv c, iv 0, iv 0, .is 10 [], .is 3 []]) [cur D p' s'] [])
    (hB : ∀ b p' s', CurI D (k + 10 + 330 * 15) p' s' → BxOk b → ItsI b.its → K (bxL b) [cur D p' s'] [rowIt b.its, rowRc b.rcs]) : AC Try.prog 151 [.lp (0, 0) 3 0 0] [cur D p s] K := by
  refine ac_body { imm := immL [(80, [0]), (216, [0]), (217, [0])], keep := keepL [(3, [0, 2, 3, 5], [(0, 0), (4, 0), (5, 0), (21, 0), (21, 1)])], sw := fun n ob => bif Nat.beq n 3 then swPr ob 21 [52, 61, 37] else [] } [((997, 0), true), ((0, 0), true), ((4, 0), true), ((11, 0), false), ((16, 0), false), ((5, 0), true), ((21, 0), false), ((21, 1), false), ((37, 0), false), ((37, 1), false), ((8, 0), true), ((52, 0), false), ((52, 1), false), ((61, 0), false), ((61, 1), false), ((61, 2), false)] hm htt Try.func151 rfl (by kernel_rfl) rfl rfl ?_
  repeat' ((conv => whnf); first
    | (refine BoxNewS.ac _ _ (by omega) ?_)
    | (refine size.ac D _ _ _ _ ‹_› (by omega) (by omega) fun r p' s' hc' _ _ => ?_)
    | (refine cpick.ac D _ _ _ _ ‹_› (by omega) fun r p' s' hc' _ _ => ?_)
    | (refine once.ac D _ _ _ _ ‹_› (by omega) (by omega) fun b p' s' hc' => ?_; cases b)
    | (refine raw.ac D _ _ _ ‹_› (by omega) fun r p' s' hc' _ _ => ?_)
    | (refine pickI2 rfl (by omega) fun x _ => ?_)
    | (refine pickI3 rfl (by omega) fun x _ => ?_)
    | (refine pickI4 rfl (by omega) fun x _ => ?_)
    | (refine pickI5 rfl (by omega) fun x _ => ?_)
    | (refine bF_dec (fun _ => ?_) (fun _ => ?_) <;> try (exfalso; omega))
    | (refine bF_eq (fun _ => ?_) (fun _ => ?_) <;> try (exfalso; omega))
    | (refine bF_ne (fun _ => ?_) (fun _ => ?_) <;> try (exfalso; omega))
    | (refine a64 (by omega) ?_)
    | (refine ix_at rfl (by omega) ?_)
    | (refine ⟨⟨rfl, by omega, by omega⟩, ?_⟩)
    | (refine map_at (by omega) ?_)
    | (refine alen ?_)
    | (refine amin ?_)
    | (refine amax ?_)
    | (refine ⟨⟨rfl, rfl, by simp [V.ments, mentsL]⟩, ?_⟩)
    | (refine map_at0 (by omega) ?_)
    | (refine set_at rfl ?_)
    | (refine map_atI (by omega) ?_)
    | (refine map_atI0 (by omega) ?_)
    | (refine set_atI rfl ?_)
    | (refine ⟨⟨by decide, rfl, by omega, by omega, by omega, by dsimp only; omega⟩, ?_⟩)
    | (refine arem (by omega) ?_)
    | (refine aquo (by omega) (by omega) ?_)
    | (refine au8 ?_)
    | (refine au64 (by omega) ?_)
    | (refine anat ?_)
    | (refine szOk rfl ?_)
    | (refine dvOk rfl (by omega) ?_)
    | (refine nzOk (by decide) ?_)
    | (refine lgOk (by kernel_rfl) ?_)
    | (refine kpOk (by kernel_rfl) ?_)
    | fail)
  all_goals conv => whnf
  rename_i x1 hx1 _ _ _ _ _ _ hx _ _
  have hx1' : 1 ≤ x1 ∧ x1 ≤ 50 := by omega
  have hx2' : 1 ≤ x ∧ x ≤ 50 := by omega
  refine cwF_loop (fun m st => ∃ (z p s : Int) (u : Bool), (m = z.toNat ∧ 0 ≤ z ∧ z ≤ 14 ∧ CurI D (k + 4 + 330 * (14 - z)) p s) ∧
      ((st = ⟨[.lp (0, 0) 3 0 0, .un, .lp (4, 0) 6 0 0, .lp (5, 0) 6 0 0, .un, iv z] ++ List.replicate 60 .un, mkOb [((0, 0), some (cur D p s)), ((4, 0), some (.arr false 6 [bx0])), ((5, 0), some (.arr false 6 [.agg [iv x1, iv x, iv 0, iv 0, .is 10 [], .is 3 []]])), ((21, 0), none), ((21, 1), none)]⟩) ∨
       ∃ b : Bx, (BxOk b ∧ ItsI b.its ∧ b.nx ≤ 14 - z ∧ b.gp ≤ 14 - z) ∧ st = ⟨[.lp (0, 0) 3 0 0, .un, .lp (4, 0) 6 0 0, .lp (5, 0) 6 0 0, .un, iv z] ++ List.replicate 60 .un, mkOb [((0, 0), some (cur D p s)), ((4, 0), some (.arr false 6 [bx0])), ((5, 0), some (.arr false 6 [.agg [iv b.cap, iv b.aud, iv b.nx, iv b.gp, .ls (21, 0) 10 0 b.its.length, .ls (21, 1) 3 0 b.rcs.length]])), ((21, 0), some (rowIt b.its)), ((21, 1), some (rowRc b.rcs))]⟩)) r.toNat (by kernel_rfl) ⟨r, _, _, false, ⟨rfl, by omega, by omega, hc'.up (by omega)⟩, .inl rfl⟩ ?_
  rintro m st ⟨z, p, s, u, ⟨rfl, z0, z1, hcz⟩, rfl | ⟨b, ⟨hb, hI, hnx, hgp⟩, rfl⟩⟩
  · have hb0 := ok_new hx1' hx2'
    have hI0 : ItsI [] := fun _ h => nomatch h
    have hnx : (⟨x1, x, 0, 0, [], []⟩ : Bx).nx ≤ 14 - z := by dsimp only; omega
    have hgp : (⟨x1, x, 0, 0, [], []⟩ : Bx).gp ≤ 14 - z := by dsimp only; omega
    repeat' ((conv => whnf); first
      | (refine fullPane.ac D _ _ _ ‹_› (by omega) fun y p' s' hc' hy hyo => ?_)
      | (refine BoxPutS.new ⟨x1, x, 0, 0, [], []⟩ y _ (BxOk.F hb0) (Nat.le_trans hy.len (by decide)) (by unfold I64; omega) (fun _ _ _ _ => ?_) (fun h => absurd ⟨hb0, hyo, by unfold RuleI; omega, putB_in hnx hgp (by omega)⟩ h))
      | (refine BoxAckS.new ⟨x1, x, 0, 0, [], []⟩ _ hb0 ?_)
      | (refine BoxAuditS.new ⟨x1, x, 0, 0, [], []⟩ _ hb0 (by omega) fun o q ho hq => ?_)
      | (refine cpick.ac D _ _ _ _ ‹_› (by omega) fun r p' s' hc' _ _ => ?_)
      | (refine once.ac D _ _ _ _ ‹_› (by omega) (by omega) fun b p' s' hc' => ?_; cases b)
      | (refine raw.ac D _ _ _ ‹_› (by omega) fun r p' s' hc' _ _ => ?_)
      | (refine pickI2 rfl (by omega) fun x _ => ?_)
      | (refine pickI3 rfl (by omega) fun x _ => ?_)
      | (refine pickI4 rfl (by omega) fun x _ => ?_)
      | (refine pickI5 rfl (by omega) fun x _ => ?_)
      | (refine bF_dec (fun _ => ?_) (fun _ => ?_) <;> try (exfalso; omega))
      | (refine bF_eq (fun _ => ?_) (fun _ => ?_) <;> try (exfalso; omega))
      | (refine bF_ne (fun _ => ?_) (fun _ => ?_) <;> try (exfalso; omega))
      | (refine a64 (by omega) ?_)
      | (refine ix_at rfl (by omega) ?_)
      | (refine ⟨⟨rfl, by omega, by omega⟩, ?_⟩)
      | (refine map_at (by omega) ?_)
      | (refine alen ?_)
      | (refine amin ?_)
      | (refine amax ?_)
      | (refine ⟨⟨rfl, rfl, by simp [V.ments, mentsL]⟩, ?_⟩)
      | (refine map_at0 (by omega) ?_)
      | (refine set_at rfl ?_)
      | (refine map_atI (by omega) ?_)
      | (refine map_atI0 (by omega) ?_)
      | (refine set_atI rfl ?_)
      | (refine ⟨⟨by decide, rfl, by omega, by omega, by omega, by dsimp only; omega⟩, ?_⟩)
      | (refine arem (by omega) ?_)
      | (refine aquo (by omega) (by omega) ?_)
      | (refine au8 ?_)
      | (refine au64 (by omega) ?_)
      | (refine anat ?_)
      | (refine szOk rfl ?_)
      | (refine dvOk rfl (by omega) ?_)
      | (refine nzOk (by decide) ?_)
      | (refine lgOk (by kernel_rfl) ?_)
      | (refine kpOk (by kernel_rfl) ?_)
      | fail)
    all_goals conv => whnf
    all_goals first
      | exact hA _ _ _ _ (hcz.up (by omega)) hx1' hx2'
      | exact hB ⟨x1, x, 0, 0, [], []⟩ _ _ (hcz.up (by omega)) hb0 hI0
      | exact ⟨(z - 1).toNat, by omega, z - 1, _, _, false, ⟨rfl, by omega, by omega, hc'.up (by omega)⟩, .inr ⟨(⟨x1, x, 0, 0, [], []⟩ : Bx), ⟨hb0, hI0, by dsimp only; omega, by dsimp only; omega⟩, rfl⟩⟩
      | (subst ho; exact ⟨(z - 1).toNat, by omega, z - 1, _, _, false, ⟨rfl, by omega, by omega, hc'.up (by omega)⟩, .inr ⟨(⟨x1, x, 0, 0, [], _⟩ : Bx), ⟨BxOk.dropR hb0 _, hI0, by dsimp only; omega, by dsimp only; omega⟩, rfl⟩⟩)
      | exact ⟨(z - 1).toNat, by omega, z - 1, _, _, false, ⟨rfl, by omega, by omega, hc'.up (by omega)⟩, .inr ⟨putB (⟨x1, x, 0, 0, [], []⟩ : Bx) y _, ⟨putB_ok hb0 hyo (by unfold RuleI; omega) (putB_in hnx hgp (by omega)), putB_its hI0 hy (by unfold I64; omega) (BxOk.F hb0).1.2.2.1, Int.le_trans (putB_le hnx hgp).1 (by omega), Int.le_trans (putB_le hnx hgp).2 (by omega)⟩, rfl⟩⟩
      | trace_state
  · have hh := hb.hd
    unfold BxHd at hh
    repeat' ((conv => whnf); first
      | (refine fullPane.ac D _ _ _ ‹_› (by omega) fun y p' s' hc' hy hyo => ?_)
      | (refine all_at (f := encIt) (l := b.its) ⟨rfl, by simp⟩ ?_)
      | (refine all_at (f := encRc) (l := b.rcs) ⟨rfl, by simp⟩ ?_)
      | (refine BoxPutS.new b y _ (BxOk.F hb) (Nat.le_trans hy.len (by decide)) (by unfold I64; omega) (fun _ _ _ _ => ?_) (fun h => absurd ⟨hb, hyo, by unfold RuleI; omega, putB_in hnx hgp (by omega)⟩ h))
      | (refine BoxAckS.new b _ hb ?_)
      | (refine BoxAuditS.new b _ hb (by omega) fun o q ho hq => ?_)
      | (refine cpick.ac D _ _ _ _ ‹_› (by omega) fun r p' s' hc' _ _ => ?_)
      | (refine once.ac D _ _ _ _ ‹_› (by omega) (by omega) fun b p' s' hc' => ?_; cases b)
      | (refine raw.ac D _ _ _ ‹_› (by omega) fun r p' s' hc' _ _ => ?_)
      | (refine pickI2 rfl (by omega) fun x _ => ?_)
      | (refine pickI3 rfl (by omega) fun x _ => ?_)
      | (refine pickI4 rfl (by omega) fun x _ => ?_)
      | (refine pickI5 rfl (by omega) fun x _ => ?_)
      | (refine bF_dec (fun _ => ?_) (fun _ => ?_) <;> try (exfalso; omega))
      | (refine bF_eq (fun _ => ?_) (fun _ => ?_) <;> try (exfalso; omega))
      | (refine bF_ne (fun _ => ?_) (fun _ => ?_) <;> try (exfalso; omega))
      | (refine a64 (by omega) ?_)
      | (refine ix_at rfl (by omega) ?_)
      | (refine ⟨⟨rfl, by omega, by omega⟩, ?_⟩)
      | (refine map_at (by omega) ?_)
      | (refine alen ?_)
      | (refine amin ?_)
      | (refine amax ?_)
      | (refine ⟨⟨rfl, rfl, by simp [V.ments, mentsL]⟩, ?_⟩)
      | (refine map_at0 (by omega) ?_)
      | (refine set_at rfl ?_)
      | (refine map_atI (by omega) ?_)
      | (refine map_atI0 (by omega) ?_)
      | (refine set_atI rfl ?_)
      | (refine ⟨⟨by decide, rfl, by omega, by omega, by omega, by dsimp only; omega⟩, ?_⟩)
      | (refine arem (by omega) ?_)
      | (refine aquo (by omega) (by omega) ?_)
      | (refine au8 ?_)
      | (refine au64 (by omega) ?_)
      | (refine anat ?_)
      | (refine szOk rfl ?_)
      | (refine dvOk rfl (by omega) ?_)
      | (refine nzOk (by decide) ?_)
      | (refine lgOk (by kernel_rfl) ?_)
      | (refine kpOk (by kernel_rfl) ?_)
      | fail)
    all_goals conv => whnf
    all_goals first
      | exact hA _ _ _ _ (hcz.up (by omega)) hx1' hx2'
      | exact hB b _ _ (hcz.up (by omega)) hb hI
      | exact ⟨(z - 1).toNat, by omega, z - 1, _, _, false, ⟨rfl, by omega, by omega, hc'.up (by omega)⟩, .inr ⟨(⟨b.cap, b.aud, b.nx, b.gp, pollB b.its _, b.rcs⟩ : Bx), ⟨ack_ok hb _, poll_its hI _, by dsimp only; omega, by dsimp only; omega⟩, rfl⟩⟩
      | (subst ho; exact ⟨(z - 1).toNat, by omega, z - 1, _, _, false, ⟨rfl, by omega, by omega, hc'.up (by omega)⟩, .inr ⟨(⟨b.cap, b.aud, b.nx, b.gp, b.its, _⟩ : Bx), ⟨BxOk.dropR hb _, hI, by dsimp only; omega, by dsimp only; omega⟩, rfl⟩⟩)
      | exact ⟨(z - 1).toNat, by omega, z - 1, _, _, false, ⟨rfl, by omega, by omega, hc'.up (by omega)⟩, .inr ⟨putB b y _, ⟨putB_ok hb hyo (by unfold RuleI; omega) (putB_in hnx hgp (by omega)), putB_its hI hy (by unfold I64; omega) (BxOk.F hb).1.2.2.1, Int.le_trans (putB_le hnx hgp).1 (by omega), Int.le_trans (putB_le hnx hgp).2 (by omega)⟩, rfl⟩⟩
      | trace_state
end Go.Eng.T
