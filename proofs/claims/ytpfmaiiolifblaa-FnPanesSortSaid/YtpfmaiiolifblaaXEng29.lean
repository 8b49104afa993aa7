import Derived.Test.YtpfmaiiolifblaaXEng27
/- A machine of values for the program's code, part 29: a new row that nobody will change any more is returned as such. -/
namespace Go.Eng
open Go.RowKit

/-- A store without one object. -/
def Store.del (ob : Store) (k : Key) : Store := fun l => if l = k then none else ob l
def delPl (pl : Places) (k : Key) : Places := fun l => if l = k then none else pl l

theorem WR.frz {F : Cells} {pl : Places} {ob : Store} {w : World} (hw : WR F pl ob w) {k : Key} {n : Nat} {es : List V} {p : Pl} (hk : ob k = some (.arr true n es)) (hp : pl k = some p) (hm : ∀ l x, l ≠ k → ob l = some x → k ∉ x.ments) :
    WR (fun b o => F b o ∨ lentF p n es.length b o) (delPl pl k) (ob.del k) w := by
  obtain ⟨p', hp', hro⟩ := hw.rep k _ hk
  rw [hp] at hp'; cases hp'
  have hro' := hro
  obtain ⟨r1, r2, r3, r4, r5⟩ := hro'
  have isS : ∀ {b o}, p.has b o → (memOf w b o).isSome := fun {b o} hh => by obtain ⟨rfl, _⟩ := id hh; exact (r4 o hh).1
  have hob : ∀ l x, ob.del k l = some x → l ≠ k ∧ ob l = some x := fun l x hx => by
    unfold Store.del at hx
    split at hx
    · cases hx
    · exact ⟨by assumption, hx⟩
  have hpl : ∀ l q, l ≠ k → pl l = some q → delPl pl k l = some q := fun l q hne hq => by unfold delPl; rw [if_neg hne]; exact hq
  have hplr : ∀ l q, delPl pl k l = some q → pl l = some q := fun l q hq => by
    unfold delPl at hq
    split at hq
    · cases hq
    · exact hq
  refine ⟨fun l x hx => ?_, fun l hx => ?_, fun l l' x y q r b o hkl hx hy h1 h2 hq hr' hb => ?_, fun b o hf => ?_⟩
  · obtain ⟨hne, hx'⟩ := hob l x hx
    obtain ⟨q, hq, hr⟩ := hw.rep l x hx'
    refine ⟨q, hpl _ _ hne hq, ?_⟩
    cases x with
    | dead => trivial
    | arr kf n' es' =>
      obtain ⟨s1, s2, s3, s4, s5⟩ := hr
      refine ⟨s1, s2, s3, fun o ho => ⟨(s4 o ho).1, (s4 o ho).2.1, ?_⟩, fun j e he => ?_⟩
      · rintro (hf | hf)
        · exact (s4 o ho).2.2 hf
        · exact hw.dis l k _ _ q p _ _ hne hx' hk rfl rfl hq hp ho (lent_has hro hf)
      · obtain ⟨t1, t2⟩ := s5 j e he
        refine ⟨t1, fun c x hx2 => ?_⟩
        obtain ⟨u1, cv, u2, u3⟩ := t2 c x hx2
        refine ⟨u1, cv, u2, ?_⟩
        have u4 : RepV (fun b o => F b o ∨ lentF p n es.length b o) (memOf w) (Obj.plc kf pl) x cv := u3.mono (fun b o h => ⟨.inl h, rfl⟩) (fun _ _ h => h)
        refine u4.places fun l' q' hl hq' => ?_
        cases kf with
        | true => simpa [Obj.plc] using hq'
        | false =>
          simp only [Obj.plc] at hq' ⊢
          refine hpl l' q' ?_ hq'
          rintro rfl
          refine hm l _ hne hx' ?_
          simp only [Obj.ments]
          refine ments_mem (List.mem_of_getElem? he) _ ?_
          cases e with
          | agg cs => simp only [V.ments]; exact ments_mem (List.mem_of_getElem? (by simpa [V.cells] using hx2)) _ hl
          | _ =>
            simp only [V.cells, List.getElem?_singleton] at hx2
            split at hx2 <;> cases hx2
            exact hl
    | froz n' es' =>
      obtain ⟨s1, s2, s3, s5⟩ := hr
      refine ⟨s1, s2, s3, fun j e he => ⟨⟨(s5 j e he).1.1, fun c x hx2 => ?_⟩, fun c hc => .inl ((s5 j e he).2 c hc)⟩⟩
      obtain ⟨u1, cv, u2, u3⟩ := (s5 j e he).1.2 c x hx2
      exact ⟨u1, cv, u2, u3.mono (fun b o h => ⟨.inl h, rfl⟩) (fun _ _ h => h)⟩
  · unfold delPl
    split
    · rfl
    · rename_i hne
      refine hw.non l ?_
      unfold Store.del at hx
      rwa [if_neg hne] at hx
  · exact hw.dis l l' x y q r b o hkl (hob l x hx).2 (hob l' y hy).2 h1 h2 (hplr _ _ hq) (hplr _ _ hr') hb
  · rcases hf with hf | hf
    · exact hw.fex b o hf
    · exact isS (lent_has hro hf)

/-- How what comes back looks once object k is one that nobody changes. -/
inductive LendR (k : Key) (n : Nat) (es : List V) : V → V → Prop
  | one {x y} : Lend0 k n es x y → LendR k n es x y
  | agg {cs ds} : LendL k n es cs ds → LendR k n es (.agg cs) (.agg ds)
  | tup {xs ys} : LendA k n es xs ys → LendR k n es (.tup xs) (.tup ys)

theorem LendR.rep {F : Cells} {m : Mem} {fz : Cells} {pl : Places} {p : Pl} {n : Nat} {es : List V} {k : Key} (hr : RepO F m fz pl p (.arr true n es)) (hk : pl k = some p) {pl1 : Places} (h1 : ∀ l q, l ≠ k → pl l = some q → pl1 l = some q) {x y : V} {cv : Value} (hl : LendR k n es x y) (h : RepV F m pl x cv) :
    RepV (fun b o => F b o ∨ lentF p n es.length b o) m pl1 y cv := by
  cases hl with
  | one h0 => exact lend0_rep hr hk h1 h0 h
  | agg h0 =>
    cases h with
    | agg ca hca hcr =>
      refine .agg ca (by rw [hca, h0.get.1]) (fun i y hi hy => ?_)
      obtain ⟨x, hx, h2⟩ := h0.get.2 i y hy
      exact lend0_rep hr hk h1 h2 (hcr i x hi hx)
  | tup h0 =>
    cases h with
    | tup ca hca hcr =>
      refine .tup ca (by rw [hca, h0.get.1]) (fun i y hi hy => ?_)
      obtain ⟨x, hx, h2⟩ := h0.get.2 i y hy
      have hrx := hcr i x hi hx
      rcases h2 with h2 | ⟨cs, ds, rfl, rfl, h2⟩
      · exact lend0_rep hr hk h1 h2 hrx
      · generalize ca[i] = cv0 at hrx ⊢
        cases hrx with
        | agg cb hcb hcr2 =>
          refine .agg cb (by rw [hcb, h2.get.1]) (fun i2 y2 hi2 hy2 => ?_)
          obtain ⟨x2, hx2, h3⟩ := h2.get.2 i2 y2 hy2
          exact lend0_rep hr hk h1 h3 (hcr2 i2 x2 hi2 hx2)

/-- The last new row is returned as one that nobody changes. -/
theorem AC.frzO {P : Program} {f : FuncId} {args : List V} {objs : List Obj} {K : V → List Obj → List Obj → Prop}
    (h : AC P f args objs fun v objs' news => (∃ v' news' n es, news = news' ++ [.arr true n es] ∧ LendR (1, news'.length) n es v v' ∧ (∀ x ∈ objs' ++ news', (1, news'.length) ∉ x.ments) ∧ K v' objs' news') ∨ K v objs' news) : AC P f args objs K := by
  refine fun F pl w cargs h1 h2 h3 => (h F pl w cargs h1 h2 h3).mono fun cv w' ⟨v, objs', news, F', pl', hor, hb⟩ => ?_
  rcases hor with hor | hor
  rotate_left
  · exact ⟨v, objs', news, F', pl', hor, hb⟩
  obtain ⟨v', news', n, es, hn, hl, hm, hK⟩ := hor
  subst hn
  have hat : resOb objs' (news' ++ [.arr true n es]) (1, news'.length) = some (.arr true n es) := by simp [resOb]
  have hdel : (Store.del (resOb objs' (news' ++ [.arr true n es])) (1, news'.length)) = resOb objs' news' := by
    funext l
    unfold Store.del
    split
    · rename_i e; subst e; simp [resOb]
    · rename_i e
      unfold resOb
      split
      · rfl
      · split
        · rename_i e1
          rw [List.getElem?_append]
          split
          · rfl
          · rename_i h5
            have : l.2 ≠ news'.length := fun e2 => e (Prod.ext e1 e2)
            rw [List.getElem?_eq_none (by omega : news'.length ≤ l.2), List.getElem?_eq_none]
            simp only [List.length_singleton]; omega
        · rfl
  obtain ⟨p, hp, hro⟩ := hb.wr.rep _ _ hat
  have hsub : ∀ l x, resOb objs' news' l = some x → l ≠ (1, news'.length) ∧ resOb objs' (news' ++ [.arr true n es]) l = some x := fun l x hx => by
    rw [← hdel] at hx
    unfold Store.del at hx
    split at hx
    · cases hx
    · exact ⟨by assumption, hx⟩
  have hmem : ∀ l x, l ≠ (1, news'.length) → resOb objs' (news' ++ [.arr true n es]) l = some x → (1, news'.length) ∉ x.ments := fun l x hne hx => by
    have hx' : resOb objs' news' l = some x := by
      rw [← hdel]; unfold Store.del; rw [if_neg hne]; exact hx
    refine hm x ?_
    unfold resOb at hx'
    split at hx'
    · exact List.mem_append_left _ (List.mem_of_getElem? hx')
    · split at hx'
      · exact List.mem_append_right _ (List.mem_of_getElem? hx')
      · cases hx'
  have hw2 := hb.wr.frz hat hp hmem
  rw [hdel] at hw2
  have hplr : ∀ l q, delPl pl' (1, news'.length) l = some q → pl' l = some q := fun l q hq => by
    unfold delPl at hq
    split at hq
    · cases hq
    · exact hq
  refine ⟨v', objs', news', _, _, hK, ⟨hl.rep hro hp (fun l q hne hq => by unfold delPl; rw [if_neg hne]; exact hq) hb.rep, hw2, hb.len, fun j hj => ?_, fun b o hf => .inl (hb.fF b o hf), fun b o hf => ?_, fun l x q b o hx hlx hq hh => ?_, hb.same⟩⟩
  · unfold delPl
    rw [if_neg (by intro e; cases e)]
    exact hb.plk j hj
  · rcases hf with hf | hf
    · exact hb.fX b o hf
    · exact .inr (hb.own _ _ p b o hat rfl hp (lent_has hro hf))
  · exact hb.own l x q b o (hsub l x hx).2 hlx (hplr _ _ hq) hh
theorem AC.frz {P : Program} {f : FuncId} {args : List V} {objs : List Obj} {K : V → List Obj → List Obj → Prop}
    (h : AC P f args objs fun v objs' news => ∃ v' news' n es, news = news' ++ [.arr true n es] ∧ LendR (1, news'.length) n es v v' ∧ (∀ x ∈ objs' ++ news', (1, news'.length) ∉ x.ments) ∧ K v' objs' news') : AC P f args objs K :=
  AC.frzO (AC.mono h fun _ _ _ h => .inl h)
/-- One new row, which comes back alone. -/
theorem frz1 {α : Type} {f : α → V} {l : List α} {K : V → List Obj → List Obj → Prop} {objs : List Obj} {n : Nat} (hm : ∀ x ∈ objs, (1, 0) ∉ x.ments) (k : K (.is n (l.map f)) objs []) :
    ∃ v' news' n' es, [Obj.arr true n (l.map f)] = news' ++ [.arr true n' es] ∧ LendR (1, news'.length) n' es (.ls (1, 0) n 0 l.length) v' ∧ (∀ x ∈ objs ++ news', (1, news'.length) ∉ x.ments) ∧ K v' objs news' :=
  ⟨_, [], n, _, rfl, .one (.all (by simp)), by simpa using hm, k⟩
end Go.Eng

/- A machine of values for the program's code, part 30: one of a few numbers, by a drawn place. -/
namespace Go.Eng
open Go.RowKit
theorem pickI2 {es : List V} {z : Int} {a0 a1 : Int} {K : V → Prop} (he : es = [.lit (.int .i64 a0), .lit (.int .i64 a1)]) (h : 0 ≤ z ∧ z < 2) (k : ∀ x, (x = a0 ∨ x = a1) → K (.lit (.int .i64 x))) : ∃ e, es[0 + z.toNat]? = some e ∧ K e := by
  subst he
  rw [Nat.zero_add]
  have hz : z = 0 ∨ z = 1 := by omega
  rcases hz with rfl | rfl
  · exact ⟨_, rfl, k _ (.inl rfl)⟩
  · exact ⟨_, rfl, k _ (.inr (rfl))⟩
theorem pickI3 {es : List V} {z : Int} {a0 a1 a2 : Int} {K : V → Prop} (he : es = [.lit (.int .i64 a0), .lit (.int .i64 a1), .lit (.int .i64 a2)]) (h : 0 ≤ z ∧ z < 3) (k : ∀ x, (x = a0 ∨ x = a1 ∨ x = a2) → K (.lit (.int .i64 x))) : ∃ e, es[0 + z.toNat]? = some e ∧ K e := by
  subst he
  rw [Nat.zero_add]
  have hz : z = 0 ∨ z = 1 ∨ z = 2 := by omega
  rcases hz with rfl | rfl | rfl
  · exact ⟨_, rfl, k _ (.inl rfl)⟩
  · exact ⟨_, rfl, k _ (.inr (.inl rfl))⟩
  · exact ⟨_, rfl, k _ (.inr (.inr (rfl)))⟩
theorem pickI4 {es : List V} {z : Int} {a0 a1 a2 a3 : Int} {K : V → Prop} (he : es = [.lit (.int .i64 a0), .lit (.int .i64 a1), .lit (.int .i64 a2), .lit (.int .i64 a3)]) (h : 0 ≤ z ∧ z < 4) (k : ∀ x, (x = a0 ∨ x = a1 ∨ x = a2 ∨ x = a3) → K (.lit (.int .i64 x))) : ∃ e, es[0 + z.toNat]? = some e ∧ K e := by
  subst he
  rw [Nat.zero_add]
  have hz : z = 0 ∨ z = 1 ∨ z = 2 ∨ z = 3 := by omega
  rcases hz with rfl | rfl | rfl | rfl
  · exact ⟨_, rfl, k _ (.inl rfl)⟩
  · exact ⟨_, rfl, k _ (.inr (.inl rfl))⟩
  · exact ⟨_, rfl, k _ (.inr (.inr (.inl rfl)))⟩
  · exact ⟨_, rfl, k _ (.inr (.inr (.inr (rfl))))⟩
theorem pickI5 {es : List V} {z : Int} {a0 a1 a2 a3 a4 : Int} {K : V → Prop} (he : es = [.lit (.int .i64 a0), .lit (.int .i64 a1), .lit (.int .i64 a2), .lit (.int .i64 a3), .lit (.int .i64 a4)]) (h : 0 ≤ z ∧ z < 5) (k : ∀ x, (x = a0 ∨ x = a1 ∨ x = a2 ∨ x = a3 ∨ x = a4) → K (.lit (.int .i64 x))) : ∃ e, es[0 + z.toNat]? = some e ∧ K e := by
  subst he
  rw [Nat.zero_add]
  have hz : z = 0 ∨ z = 1 ∨ z = 2 ∨ z = 3 ∨ z = 4 := by omega
  rcases hz with rfl | rfl | rfl | rfl | rfl
  · exact ⟨_, rfl, k _ (.inl rfl)⟩
  · exact ⟨_, rfl, k _ (.inr (.inl rfl))⟩
  · exact ⟨_, rfl, k _ (.inr (.inr (.inl rfl)))⟩
  · exact ⟨_, rfl, k _ (.inr (.inr (.inr (.inl rfl))))⟩
  · exact ⟨_, rfl, k _ (.inr (.inr (.inr (.inr (rfl)))))⟩
theorem pickI8 {es : List V} {z : Int} {a0 a1 a2 a3 a4 a5 a6 a7 : Int} {K : V → Prop} (he : es = [.lit (.int .i64 a0), .lit (.int .i64 a1), .lit (.int .i64 a2), .lit (.int .i64 a3), .lit (.int .i64 a4), .lit (.int .i64 a5), .lit (.int .i64 a6), .lit (.int .i64 a7)]) (h : 0 ≤ z ∧ z < 8) (k : ∀ x, (x = a0 ∨ x = a1 ∨ x = a2 ∨ x = a3 ∨ x = a4 ∨ x = a5 ∨ x = a6 ∨ x = a7) → K (.lit (.int .i64 x))) : ∃ e, es[0 + z.toNat]? = some e ∧ K e := by
  subst he
  rw [Nat.zero_add]
  have hz : z = 0 ∨ z = 1 ∨ z = 2 ∨ z = 3 ∨ z = 4 ∨ z = 5 ∨ z = 6 ∨ z = 7 := by omega
  rcases hz with rfl | rfl | rfl | rfl | rfl | rfl | rfl | rfl
  · exact ⟨_, rfl, k _ (.inl rfl)⟩
  · exact ⟨_, rfl, k _ (.inr (.inl rfl))⟩
  · exact ⟨_, rfl, k _ (.inr (.inr (.inl rfl)))⟩
  · exact ⟨_, rfl, k _ (.inr (.inr (.inr (.inl rfl))))⟩
  · exact ⟨_, rfl, k _ (.inr (.inr (.inr (.inr (.inl rfl)))))⟩
  · exact ⟨_, rfl, k _ (.inr (.inr (.inr (.inr (.inr (.inl rfl))))))⟩
  · exact ⟨_, rfl, k _ (.inr (.inr (.inr (.inr (.inr (.inr (.inl rfl)))))))⟩
  · exact ⟨_, rfl, k _ (.inr (.inr (.inr (.inr (.inr (.inr (.inr (rfl))))))))⟩
/-- A quotient, a product, of which only the range is kept. -/
theorem aquoB {x y : Int} {K : Int → Prop} (h : 0 ≤ x ∧ x ≤ 9223372036854775807) (hy : 0 < y) (k : ∀ r, 0 ≤ r → r ≤ x → K r) : ∀ r, r = IntKind.i64.wrap (x.tdiv y) → K r :=
  aquo h hy (k _ (Int.ediv_nonneg h.1 (Int.le_of_lt hy)) (Int.ediv_le_self y h.1))
theorem amulB {x y : Int} {K : Int → Prop} (hx : 0 ≤ x ∧ x ≤ 1000) (hy : 0 ≤ y ∧ y ≤ 1000) (k : ∀ r, 0 ≤ r → r ≤ 1000000 → K r) : ∀ r, r = IntKind.i64.wrap (x * y) → K r := by
  have h1 := Int.mul_nonneg hx.1 hy.1
  have h2 : x * y ≤ 1000 * 1000 := Int.mul_le_mul hx.2 hy.2 hy.1 (by decide)
  exact a64 (by omega) (k _ h1 (by omega))
/-- A loop is gone through round by round. -/
theorem kpR {KL : List Key} {s : St} {K : Prop} (h : keepOk KL s = true) (k : K) : keepOk KL s = true ∧ K := ⟨h, k⟩
theorem exR {B : St → (Ex → St → Prop) → Prop} {sw : Store → List (Key × Key)} {L : List Nat} {KL : List Key} {Q : Ex → St → Prop} {st : St} (n : Nat) (h : rounds B sw L KL Q n st) : ∃ n, rounds B sw L KL Q n st := ⟨n, h⟩
/-- The first element of a row. -/
theorem app01 {α : Type} {f : α → V} {x : α} {v : V} {A : Prop} {K : Nat → List V → Prop} (h : A) (hv : v = f x) (k : K [x].length ([x].map f)) : A ∧ ∀ l' es', l' = [v].length → es' = [v] → K l' es' := by
  subst hv
  exact ⟨h, fun l' es' h1 h2 => by rw [h1, h2]; exact k⟩
end Go.Eng
