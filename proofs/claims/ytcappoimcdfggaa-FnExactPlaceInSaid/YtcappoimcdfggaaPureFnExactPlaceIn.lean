/- The pure statement of the law FnExactPlaceIn holds: what the printed functions compute is what the law says, at every argument. -/
import Derived.Test.YtcappoimcdfggaaOpFnExactPlaceIn
import Derived.Test.YtcappoimcdfggaaPl
namespace Go.Proofs.Ytcappoimcdfggaa.Pure
open Go.RowKit Go.Proofs.Ytcappoimcdfggaa.PFnExactPlaceIn Go.Proofs.YtcappoimcdfggaaW.PrintWords Go.Proofs.YtcappoimcdfggaaW.PrintLast Go.Proofs.Ytcappoimcdfggaa.Pl
set_option linter.unusedSimpArgs false
set_option linter.unusedVariables false
theorem szStringS_ev (xs : List ByteArray) (m : Int) (hx : xs.length ≤ 140737488351232) (hG : ∀ x ∈ xs, x.size ≤ 140737488351232) (h0 : 0 ≤ m) (hm : m ≤ 4611686018427387904) : Ev (fun k => laws_szStringS.f k xs m) (lft m (xs.length + total ByteArray.size xs)) := by
  unfold laws_szStringS.f
  refine sz_step (f := fun k t => laws_szStringS.l0 k xs t 0) h0 hm (by omega) (fun c => ?_)
  have hc := lft_le c h0 hm
  refine sz_ev (fun k t i => laws_szStringS.l0 k xs t i) ByteArray.size xs ByteArray.empty (fun i t r hi h1 h2 hn h => ev_succ ?_) (fun i t hi h1 h2 hn => ev_succ ?_) (fun t => ev_now (fun k => ?_)) xs.length 0 _ (by omega) hc.1 hc.2
  · have hs := hG _ (getD_mem xs i ByteArray.empty hi)
    have e := lft_pos hn
    rw [e.2] at h
    have e3 : wrap64 (t - ((rdOf ByteArray.empty xs (i : Int)).size : Int)) = t - ((xs.getD i ByteArray.empty).size : Int) := lft_wrap (n := (xs.getD i ByteArray.empty).size) h1 h2 (by omega)
    simp (disch := omega) only [laws_szStringS.l0, if_pos, e3, if_neg, wrap_nat]
    exact h
  · have hs := hG _ (getD_mem xs i ByteArray.empty hi)
    have e3 : wrap64 (t - ((rdOf ByteArray.empty xs (i : Int)).size : Int)) = t - ((xs.getD i ByteArray.empty).size : Int) := lft_wrap (n := (xs.getD i ByteArray.empty).size) h1 h2 (by omega)
    have e4 : t - ((xs.getD i ByteArray.empty).size : Int) < 0 := by unfold lft at hn; split at hn <;> omega
    simp (disch := omega) only [laws_szStringS.l0, if_pos, e3]
    exact Ev.now _
  · simp (disch := omega) only [laws_szStringS.l0, if_neg]
theorem szIntS_ev (xs : List Int) (m : Int) (hx : xs.length ≤ 140737488351232) (h0 : 0 ≤ m) (hm : m ≤ 4611686018427387904) : Ev (fun _ => laws_szIntS.f xs m) (lft m xs.length) := sz_end h0 hm (by omega)
theorem szPlaces_ev (x0 : List ByteArray) (x1 : List Int) (m : Int) (hx0 : x0.length ≤ 140737488351232) (gx0 : ∀ x ∈ x0, x.size ≤ 140737488351232) (hx1 : x1.length ≤ 140737488351232) (h0 : 0 ≤ m) (hm : m ≤ 4611686018427387904) : Ev (fun k => laws_szPlaces.f k x0 x1 m) (lft m ((x0.length + total ByteArray.size x0) + (x1.length))) := by
  unfold laws_szPlaces.f
  refine sz_chain (szStringS_ev x0 _ hx0 gx0 h0 hm) (fun c => ?_)
  have hc := lft_le c h0 hm
  exact sz_last (szIntS_ev x1 _ hx1 hc.1 hc.2)
theorem toStringS_ev (xs : List ByteArray) (hb : xs.length ≤ 4000000000000) : Ev (fun k => laws_toStringS.f k xs) xs := by
  refine ev_eq (Ev.congr (f := fun k => laws_toStringS.l0 k xs (List.replicate xs.length (⟨#[]⟩ : ByteArray)) ((0 : Nat) : Int)) (fun k => ?_) (fill_ev (fun k ys i => laws_toStringS.l0 k xs ys i) (fun x => x) xs ByteArray.empty (fun i ys r hi hy h => ev_succ ?_) (fun ys hy => ev_now (fun k => ?_)) xs.length 0 _ (by omega) (by simp) (by simp))) (by simp)
  · simp (disch := omega) only [laws_toStringS.f, if_pos, Int.toNat_natCast]; rfl
  · simp (disch := omega) only [laws_toStringS.l0, if_pos, wrap_nat, Int.toNat_natCast]; exact h
  · simp (disch := omega) only [laws_toStringS.l0, if_neg]
theorem toIntS_ev (xs : List Int) (hb : xs.length ≤ 4000000000000) : Ev (fun k => laws_toIntS.f k xs) xs := by
  refine ev_eq (Ev.congr (f := fun k => laws_toIntS.l0 k xs (List.replicate xs.length 0) ((0 : Nat) : Int)) (fun k => ?_) (fill_ev (fun k ys i => laws_toIntS.l0 k xs ys i) (fun x => x) xs 0 (fun i ys r hi hy h => ev_succ ?_) (fun ys hy => ev_now (fun k => ?_)) xs.length 0 _ (by omega) (by simp) (by simp))) (by simp)
  · simp (disch := omega) only [laws_toIntS.f, if_pos, Int.toNat_natCast]; rfl
  · simp (disch := omega) only [laws_toIntS.l0, if_pos, wrap_nat, Int.toNat_natCast]; exact h
  · simp (disch := omega) only [laws_toIntS.l0, if_neg]
theorem toPlaces_ev (x0 : List ByteArray) (x1 : List Int) (hx0 : x0.length ≤ 4000000000000) (hx1 : x1.length ≤ 4000000000000) : Ev (fun k => laws_toPlaces.f k x0 x1) (x0, x1) := by
  unfold laws_toPlaces.f
  exact Ev.bind (toStringS_ev x0 hx0) (Ev.bind (toIntS_ev x1 hx1) (Ev.now _))
theorem eqStringS_self (xs : List ByteArray) (hb : xs.length ≤ 9000000000000000000) : Ev (fun k => laws_eqStringS.f k xs xs) true := by
  refine Ev.congr (f := fun k => laws_eqStringS.l0 k xs xs ((0 : Nat) : Int)) (fun k => ?_) (up_ev (fun k i => laws_eqStringS.l0 k xs xs i) xs.length true (fun i hi h => ev_succ ?_) (ev_now (fun k => ?_)) xs.length 0 (by omega))
  · simp (disch := omega) only [laws_eqStringS.f, if_pos]; rfl
  · simp (disch := omega) only [laws_eqStringS.l0, if_pos, wrap_nat, eq_self, if_true, bne_self_eq_false, Bool.false_eq_true, if_false]; exact h
  · simp (disch := omega) only [laws_eqStringS.l0, if_neg]
theorem eqIntS_self (xs : List Int) (hb : xs.length ≤ 9000000000000000000) : Ev (fun k => laws_eqIntS.f k xs xs) true := by
  refine Ev.congr (f := fun k => laws_eqIntS.l0 k xs xs ((0 : Nat) : Int)) (fun k => ?_) (up_ev (fun k i => laws_eqIntS.l0 k xs xs i) xs.length true (fun i hi h => ev_succ ?_) (ev_now (fun k => ?_)) xs.length 0 (by omega))
  · simp (disch := omega) only [laws_eqIntS.f, if_pos]; rfl
  · simp (disch := omega) only [laws_eqIntS.l0, if_pos, wrap_nat, eq_self, if_true, bne_self_eq_false, Bool.false_eq_true, if_false]; exact h
  · simp (disch := omega) only [laws_eqIntS.l0, if_neg]
theorem eqPlaces_self (x0 : List ByteArray) (x1 : List Int) (hx0 : x0.length ≤ 9000000000000000000) (hx1 : x1.length ≤ 9000000000000000000) : Ev (fun k => laws_eqPlaces.f k x0 x1 x0 x1) true := by
  unfold laws_eqPlaces.f
  exact Ev.bind (eqStringS_self x0 hx0) (ev_pos rfl (Ev.bind (eqIntS_self x1 hx1) (ev_pos rfl (Ev.now _))))
def sameS (y x : ByteArray) : Bool := decide (y.toList = x.toList)
/-- Where a name is. -/
def placed (ns : List ByteArray) (ats : List Int) (x : ByteArray) (i : Nat) : Int := match ixFrom (sameS x) (ns.drop i) i with | some j => if j < ats.length then rd ats (j : Int) else -1 | none => -1
theorem indexS_ev (xs : List ByteArray) (x : ByteArray) (hb : xs.length ≤ 4000000000000) : Ev (fun k => slices_Index_string_string.f k xs x) (ixI (sameS x) xs) := by
  refine Ev.congr (f := fun k => slices_Index_string_string.l0 k xs x (xs.length : Int) ((0 : Nat) : Int)) (fun k => rfl) ?_
  refine ev_eq (find_ev (fun k i => slices_Index_string_string.l0 k xs x (xs.length : Int) i) (sameS x) xs ByteArray.empty (fun j => (j : Int)) (-1) (fun i r hi hp h => ev_succ ?_) (fun i hi hp => ev_now (fun k => ?_)) (ev_now (fun k => ?_)) xs.length 0 (by omega)) rfl
  · have hp' : ¬ x.toList = (rdOf ByteArray.empty xs (i : Int)).toList := of_decide_eq_false hp
    simp (disch := omega) only [slices_Index_string_string.l0, if_pos, wrap_nat]
    simp only [if_neg hp']
    exact h
  · have hp' : x.toList = (rdOf ByteArray.empty xs (i : Int)).toList := of_decide_eq_true hp
    simp (disch := omega) only [slices_Index_string_string.l0, if_pos]
    try rw [if_pos hp']
  · simp (disch := omega) only [slices_Index_string_string.l0, if_neg]
theorem impl_placed (ns : List ByteArray) (ats : List Int) (x : ByteArray) (hb : ns.length ≤ 4000000000000) : Ev (fun k => impl_PlaceIn.f k ns ats x) (placed ns ats x 0) := by
  unfold impl_PlaceIn.f
  refine Ev.bind (indexS_ev ns x hb) (ev_of fun k => ?_)
  unfold ixI placed
  rw [List.drop_zero]
  cases h : ixFrom (sameS x) ns 0 with
  | none => simp
  | some j =>
    have h1 : ¬ ((j : Int) < 0) := by omega
    by_cases h2 : j < ats.length
    · have h3 : ¬ ((j : Int) ≥ (ats.length : Int)) := by omega
      have h4 : (0 : Int) ≤ j := by omega
      have h5 : (j : Int) < (ats.length : Int) := by omega
      simp only [if_neg h1, if_neg h3, if_pos h4, if_pos h5, if_pos h2]
    · have h3 : ((j : Int) ≥ (ats.length : Int)) := by omega
      simp only [if_neg h1, if_pos h3, if_neg h2]
theorem spec_placed (ns : List ByteArray) (ats : List Int) (x : ByteArray) (hb : ns.length ≤ 4000000000000) : ∀ d i : Nat, i + d = ns.length → Ev (fun k => spec_PlaceIn.l0 k x (i : Int) ns ats) (placed ns ats x i)
  | 0, i, h => by
    refine ev_succ (ev_succ (ev_of fun k => ?_))
    simp (disch := omega) only [spec_PlaceIn.l0, if_neg, spec_PlaceIn.j1, Bool.false_eq_true, if_false]
    unfold placed
    rw [List.drop_of_length_le (by omega)]
    rfl
  | d + 1, i, h => by
    have ih := spec_placed ns ats x hb d (i + 1) (by omega)
    by_cases ha : i < ats.length
    · have hd : decide ((i : Int) < (ats.length : Int)) = true := decide_eq_true (by omega)
      refine ev_succ (ev_succ ?_)
      unfold placed
      rw [getD_drop ns i ByteArray.empty (by omega)]
      unfold ixFrom
      by_cases hp : sameS x (ns.getD i ByteArray.empty) = true
      · have hp' : (rdOf ByteArray.empty ns (i : Int)).toList = x.toList := (of_decide_eq_true hp).symm
        simp (disch := omega) only [spec_PlaceIn.l0, if_pos, spec_PlaceIn.j1, hd, if_true, hp, ha]
        try rw [if_pos hp']
        exact Ev.now _
      · have hp' : ¬ (rdOf ByteArray.empty ns (i : Int)).toList = x.toList := fun e => hp (decide_eq_true e.symm)
        simp (disch := omega) only [spec_PlaceIn.l0, if_pos, spec_PlaceIn.j1, hd, if_true, wrap_nat]
        rw [if_neg hp]
        simp only [if_neg hp']
        exact ih
    · have hd : decide ((i : Int) < (ats.length : Int)) = false := decide_eq_false (by omega)
      refine ev_succ (ev_succ (ev_of fun k => ?_))
      simp (disch := omega) only [spec_PlaceIn.l0, if_pos, spec_PlaceIn.j1, hd, Bool.false_eq_true, if_false]
      unfold placed
      cases hx : ixFrom (sameS x) (ns.drop i) i with
      | none => rfl
      | some j =>
        have := (ixFrom_ge _ _ _ _ hx).1
        simp only []
        rw [if_neg (by omega)]
theorem FnExactPlaceIn : laws_FnExactPlaceIn.Says := by
  rintro ns ats x ⟨hn1, hn2, hn3⟩ ⟨ha1, ha2, ha3⟩ hx
  refine Ev.rounds (r := true) ?_
  unfold laws_FnExactPlaceIn.f
  by_cases hg : (x.size : Int) > 1048576
  · exact ev_pos hg (Ev.now _)
  · refine ev_neg hg ?_
    refine Ev.bind (szPlaces_ev ns ats 1048576 (by omega) hn3 (by omega) (by omega) (by omega)) ?_
    by_cases hl : lft 1048576 (ns.length + total ByteArray.size ns + ats.length) < 0
    · exact ev_pos hl (Ev.now _)
    · refine ev_neg hl ?_
      have hp := (lft_pos hl).1
      have b1 : ns.length ≤ 4000000000000 := by omega
      have b2 : ats.length ≤ 4000000000000 := by omega
      refine Ev.bind (toPlaces_ev ns ats b1 b2) (Ev.bind ?_ (Ev.bind (toPlaces_ev ns ats b1 b2) (Ev.bind (impl_placed ns ats x b1) (ev_pos rfl (Ev.bind (toPlaces_ev ns ats b1 b2) (Ev.bind (eqPlaces_self ns ats (by omega) (by omega)) (ev_pos rfl (Ev.now _))))))))
      exact spec_placed ns ats x b1 ns.length 0 (by omega)

end Go.Proofs.Ytcappoimcdfggaa.Pure
