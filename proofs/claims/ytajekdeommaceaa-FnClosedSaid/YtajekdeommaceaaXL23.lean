import Derived.Test.YtajekdeommaceaaXLD
import Derived.Test.YtajekdeommaceaaXL20h
namespace Go.Eng.T
open Go.Proofs Go.Eng
set_option maxRecDepth 100000
set_option maxHeartbeats 0

abbrev listO (l : List Int) : Obj := .arr true 1 (l.map iv)
theorem noIs_ints (l : List Int) : noIsO [listO l] = true := by
  have : noIsL (l.map iv) = true := noIsL_of fun x hx => by obtain ⟨i, _, rfl⟩ := List.mem_map.1 hx; rfl
  show ((noIsL (l.map iv)) && true) = true
  rw [this]; rfl

theorem noIs_words (l : List Int) : noIsO [upO l] = true := by
  have : noIsL (l.map uv) = true := noIsL_of fun x hx => by obtain ⟨i, _, rfl⟩ := List.mem_map.1 hx; rfl
  show ((noIsL (l.map uv)) && true) = true
  rw [this]; rfl

/-- Two rows that may change, lent to a call. -/
theorem AC.ls2 {P : Program} {f : FuncId} {a b : List Int} {K : V → List Obj → List Obj → Prop} (h : AC P f [.is 1 (a.map iv), .is 1 (b.map iv)] [] fun v o n => (v.noIs = true ∧ noIsO o = true ∧ noIsO n = true) ∧ (v.noIs = true ∧ noIsO (o ++ [listO a]) = true ∧ noIsO n = true) ∧ K v (o ++ [listO a] ++ [listO b]) n) :
    AC P f [.ls (0, 0) 1 0 a.length, .ls (0, 1) 1 0 b.length] [listO a, listO b] K :=
  AC.borrow (objs := [listO a]) (.cons (.same (by simp [V.ments])) (.cons (.all (by simp)) .nil)) (fun x hx => by rw [List.mem_singleton.1 hx]; exact List.not_mem_nil)
    (AC.borrow (objs := []) (.cons (.all (by simp)) (.cons (.same List.not_mem_nil) .nil)) (fun _ h => nomatch h) h)
/-- The lattice and a row. -/
theorem AC.latLs {P : Program} {f : FuncId} {N : Int} {up b : List Int} {K : V → List Obj → List Obj → Prop} (h : AC P f [latV N up, .is 1 (b.map iv)] [] fun v o n => (v.noIs = true ∧ noIsO o = true ∧ noIsO n = true) ∧ (v.noIs = true ∧ noIsO (o ++ [upO up]) = true ∧ noIsO n = true) ∧ K v (o ++ [upO up] ++ [listO b]) n) :
    AC P f [latL N up, .ls (0, 1) 1 0 b.length] [upO up, listO b] K :=
  AC.borrow (objs := [upO up]) (.cons (.same (by simp [V.ments, mentsL])) (.cons (.all (by simp)) .nil)) (fun x hx => by rw [List.mem_singleton.1 hx]; exact List.not_mem_nil)
    (AC.borrow (objs := []) (lendLat (.cons (.same List.not_mem_nil) .nil)) (fun _ h => nomatch h) h)
theorem AC.nilLs {P : Program} {f : FuncId} {K : V → List Obj → List Obj → Prop} (h : AC P f [nilS, .is 1 []] [] fun v o n => (v.noIs = true ∧ noIsO o = true ∧ noIsO n = true) ∧ K v (o ++ [.arr true 1 []]) n) :
    AC P f [nilS, .ls (0, 0) 1 0 0] [.arr true 1 []] K :=
  AC.borrow (objs := []) (.cons (.same List.not_mem_nil) (.cons (.all rfl) .nil)) (fun _ h => nomatch h) h

theorem same0.ac {K : V → List Obj → List Obj → Prop} (hK : K (bv true) [] []) : AC Try.prog 26 [nilS, .is 1 []] [] K := by
  refine ac_body (ann [(4, [0, 1, 5], [])]) [] hm htt Try.func26 rfl (by kernel_rfl) rfl rfl ?_
  conv => whnf
  refine cwF_loop (fun n st => n = 0 ∧ st = ⟨[nilS, .is 1 [], .un, .un, .un, iv 0] ++ List.replicate 20 .un, mkOb []⟩) 0 (by kernel_rfl) ⟨rfl, rfl⟩ ?_
  rintro n st ⟨rfl, rfl⟩
  conv => whnf
  exact hK

theorem FnLatDown.ac (D : List Int) (hd : Bytes D) {K : V → List Obj → List Obj → Prop} (hK : K (bv true) [] []) : AC Try.prog 5 [.is 1 (D.map encB)] [] K := by
  refine ac_body (ann [(8, [3, 4, 5, 6], [(5, 0), (13, 0), (18, 0)])]) [((5, 0), true), ((13, 0), false), ((18, 0), false), ((22, 0), false), ((33, 0), false)] hm htt Try.func5 rfl (by kernel_rfl) rfl rfl ?_
  conv => whnf
  refine big.ac D ?_
  conv => whnf
  refine vif_dec (fun h0 => ?_) (fun h0 => ?_)
  · conv => whnf
    exact hK
  conv => whnf
  refine DrawLatDown.ac D hd (by omega) fun N up c hN hc u1 u2 hw => ?_
  conv => whnf
  by_cases h1 : LatI N up ∧ 0 ≤ c ∧ c < N
  rotate_left
  · refine AC.lat1 (LatDownI.ac N up c (fun h => absurd h h1) fun _ => ⟨⟨rfl, rfl, rfl⟩, ?_⟩)
    conv => whnf
    have h2 : ¬ (LatP N up ∧ 0 ≤ c ∧ c < N) := fun h => h1 ⟨(latI_iff hw).2 h.1, h.2⟩
    refine AC.lat1 (LatDownS.ac N up c (fun h => absurd h h2) fun _ => ⟨⟨rfl, rfl, rfl⟩, ?_⟩)
    conv => whnf
    refine AC.nilLs (same0.ac ⟨⟨rfl, rfl, rfl⟩, ?_⟩)
    conv => whnf
    refine AC.lat1 (LatDownS.ac N up c (fun h => absurd h h2) fun _ => ⟨⟨rfl, rfl, rfl⟩, ?_⟩)
    conv => whnf
    refine AC.nilLs (same0.ac ⟨⟨rfl, rfl, rfl⟩, ?_⟩)
    conv => whnf
    exact hK
  obtain ⟨hI, hc'⟩ := id h1
  have hP : LatP N up ∧ 0 ≤ c ∧ c < N := ⟨(latI_iff hw).1 hI, hc'⟩
  refine Exists.elim (⟨N.toNat, by have := hI.1; omega⟩ : ∃ M : Nat, N = M) fun M e => ?_
  subst e
  refine Exists.elim (⟨_, rfl⟩ : ∃ l, downL up c M = l) fun l el => ?_
  refine AC.lat1 (LatDownI.ac M up c (fun h => ?_) fun h => absurd h1 h)
  rw [Int.toNat_natCast, el]
  refine ⟨⟨rfl, rfl, noIs_ints l⟩, ?_⟩
  conv => whnf
  refine AC.lat1 (LatDownS.ac M up c (fun h => ?_) fun h => absurd hP h)
  rw [Int.toNat_natCast, el]
  refine ⟨⟨rfl, rfl, noIs_ints l⟩, ?_⟩
  conv => whnf
  have ll := downL_len (up := up) (c := c) (k := M)
  rw [el] at ll
  have M16 := hI.2.1
  refine AC.ls2 (same.ac l l (by omega) fun r hr => ?_)
  obtain rfl : r = true := hr.2 rfl
  refine ⟨⟨rfl, rfl, rfl⟩, ⟨rfl, noIs_ints l, rfl⟩, ?_⟩
  conv => whnf
  have cin : c ∈ l := by rw [← el]; exact downL_mem.2 ⟨hc'.1, hc'.2, by simpa [side] using side_refl (u := true) hI hc'⟩
  refine vif_bool (fun q => ?_) (fun q => ?_)
  · exfalso
    cases l with
    | nil => cases cin
    | cons x l => simp at q; omega
  conv => whnf
  have hl : (l.map iv).length = l.length := List.length_map ..
  have inL : ∀ i : Nat, i < l.length → (0 ≤ l.getD i default ∧ l.getD i default < M) ∧ bit (up.getD (l.getD i default).toNat default) c = true := fun i hi => by
    have := getD_mem hi
    rw [← el] at this
    have h3 := downL_mem.1 this
    rw [el] at h3
    exact ⟨⟨h3.1, h3.2.1⟩, h3.2.2⟩
  have sorted : l.Pairwise (· < ·) := by rw [← el]; exact downL_sorted
  refine cwF_loop (fun n st => ∃ i : Int, (n = (l.length - i).toNat ∧ 0 ≤ i ∧ i ≤ l.length) ∧
    st = ⟨[.un, .un, .un, .lp (5, 0) 2 0 0, iv c, .ls (18, 0) 1 0 l.length, iv i] ++ List.replicate 61 .un, mkOb [((5, 0), some (.arr false 2 [.agg [iv M, .ls (13, 0) 1 0 up.length]])), ((13, 0), some (upO up)), ((18, 0), some (listO l))]⟩) l.length (by kernel_rfl) ⟨0, ?_, rfl⟩ ?_
  · exact ⟨by simp, by omega, by omega⟩
  rintro n st ⟨i, ⟨rfl, i1, i2⟩, rfl⟩
  conv => whnf
  refine vif_dec (fun i4 => ?_) (fun i4 => ?_)
  · conv => whnf
    refine ⟨⟨rfl, by omega, by omega⟩, ?_⟩
    conv => whnf
    refine ⟨rfl, _, map_get0 (by omega), ?_⟩
    conv => whnf
    have hi := inL i.toNat (by omega)
    refine ⟨by kernel_rfl, ?_⟩
    conv => whnf
    refine AC.lat2 (LatLeV.ac hI hi.1 hc' true hi.2 ⟨⟨rfl, rfl, rfl⟩, ?_⟩)
    rcases (by omega : i = 0 ∨ 0 < i) with rfl | i5
    · conv => whnf
      refine ⟨by kernel_rfl, ?_⟩
      conv => whnf
      refine ⟨by kernel_rfl, ((l.length : Int) - 1).toNat, by omega, _, ?_, rfl⟩
      exact ⟨rfl, by decide, by rw [wrap_i64 (by omega)]; omega⟩
    · have i6 : decide (i > 0) = true := decide_eq_true i5
      conv => whnf
      iterate 4
        refine gif_bool (fun _ => ?_) (fun h => by rw [i6] at h; cases h)
        conv => whnf
      have e1 := wrap_i64 (x := i - 1) (by omega)
      refine ⟨⟨rfl, by omega, by omega⟩, ?_⟩
      conv => whnf
      refine gif_bool (fun _ => ?_) (fun h => by rw [i6] at h; cases h)
      conv => whnf
      refine ⟨rfl, _, map_get0 (by omega), ?_⟩
      conv => whnf
      iterate 3
        refine gif_bool (fun _ => ?_) (fun h => by rw [i6] at h; cases h)
        conv => whnf
      refine ⟨⟨rfl, by omega, by omega⟩, ?_⟩
      conv => whnf
      refine gif_bool (fun _ => ?_) (fun h => by rw [i6] at h; cases h)
      conv => whnf
      refine ⟨rfl, _, map_get0 (by omega), ?_⟩
      conv => whnf
      refine gif_bool (fun _ => ?_) (fun h => by rw [i6] at h; cases h)
      conv => whnf
      refine pif_bool (fun _ => ?_) (fun h => by rw [i6] at h; cases h)
      conv => whnf
      have lt := getD_lt sorted (i := (IntKind.i64.wrap (i - 1)).toNat) (j := i.toNat) (by omega) (by omega)
      refine ⟨by kernel_rfl, ?_⟩
      conv => whnf
      refine vif_dec (fun h => by omega) (fun _ => ?_)
      conv => whnf
      refine ⟨by kernel_rfl, ((l.length : Int) - (i + 1)).toNat, by omega, _, ?_, rfl⟩
      exact ⟨by rw [wrap_i64 (by omega)], by rw [wrap_i64 (by omega)]; omega, by rw [wrap_i64 (by omega)]; omega⟩
  · conv => whnf
    refine AC.latLs (LatJoinAllI.ac M up l hI (by omega) (fun x hx => by rw [← el] at hx; have := downL_mem.1 hx; exact ⟨this.1, this.2.1⟩) ⟨⟨rfl, rfl, rfl⟩, ⟨rfl, noIs_words up, rfl⟩, ?_⟩)
    rw [← el, joinL_down hI hc']
    conv => whnf
    rw [eq_self]
    exact hK
end Go.Eng.T
