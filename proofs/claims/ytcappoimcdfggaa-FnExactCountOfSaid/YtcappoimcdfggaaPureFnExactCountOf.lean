/- The pure statement of the law FnExactCountOf holds: what the printed functions compute is what the law says, at every argument. -/
import Derived.Test.YtcappoimcdfggaaOpFnExactCountOf
import Derived.Test.YtcappoimcdfggaaPl
namespace Go.Proofs.Ytcappoimcdfggaa.Pure
open Go.RowKit Go.Proofs.Ytcappoimcdfggaa.PFnExactCountOf Go.Proofs.YtcappoimcdfggaaW.PrintWords Go.Proofs.YtcappoimcdfggaaW.PrintLast Go.Proofs.Ytcappoimcdfggaa.Pl
set_option linter.unusedSimpArgs false
set_option linter.unusedVariables false
def szLine_of (x : S102) : Nat := x.f0.size + (x.f2.size)
def szGLine (x : S102) : Prop := (x.f0.size ≤ 140737488351232) ∧ (x.f2.size ≤ 140737488351232)
theorem szLine_ev (x0 : ByteArray) (x1 : Int) (x2 : Int) (x3 : Int) (x4 : Int) (x5 : ByteArray) (m : Int) (hx0 : x0.size ≤ 140737488351232) (hx5 : x5.size ≤ 140737488351232) (h0 : 0 ≤ m) (hm : m ≤ 4611686018427387904) : Ev (fun _ => laws_szLine.f x0 x1 x2 x3 x4 x5 m) (lft m (x0.size + (x5.size))) := by
  unfold laws_szLine.f
  rw [lft_wrap (n := x0.size) h0 hm (by omega)]
  by_cases c : lft m x0.size < 0
  · have c' : m - (x0.size : Int) < 0 := by unfold lft at c; split at c <;> omega
    simp only [if_pos c', lft_neg c]
    exact Ev.now _
  have e := lft_pos c
  simp only [if_neg (show ¬ m - (x0.size : Int) < 0 by omega)]
  rw [← lft_lft, if_neg c, ← e.2]
  have hc := lft_le c h0 hm
  exact sz_end (n := x5.size) hc.1 hc.2 (by omega)
theorem szLineS_ev (xs : List S102) (m : Int) (hx : xs.length ≤ 140737488351232) (hG : ∀ x ∈ xs, szGLine x) (h0 : 0 ≤ m) (hm : m ≤ 4611686018427387904) : Ev (fun k => laws_szLineS.f k xs m) (lft m (xs.length + total szLine_of xs)) := by
  unfold laws_szLineS.f
  refine sz_step (f := fun k t => laws_szLineS.l0 k xs t 0) h0 hm (by omega) (fun c => ?_)
  have hc := lft_le c h0 hm
  refine sz_ev (fun k t i => laws_szLineS.l0 k xs t i) szLine_of xs z102 (fun i t r hi h1 h2 hn h => ev_succ ?_) (fun i t hi h1 h2 hn => ev_succ ?_) (fun t => ev_now (fun k => ?_)) xs.length 0 _ (by omega) hc.1 hc.2
  · have hs := hG _ (getD_mem xs i z102 hi)
    simp only [szGLine] at hs
    simp (disch := omega) only [laws_szLineS.l0, if_pos, wrap_nat]
    refine Ev.bind (szLine_ev _ _ _ _ _ _ t hs.1 hs.2 h1 h2) ?_
    refine ev_neg hn h
  · have hs := hG _ (getD_mem xs i z102 hi)
    simp only [szGLine] at hs
    simp (disch := omega) only [laws_szLineS.l0, if_pos, wrap_nat]
    refine Ev.bind (szLine_ev _ _ _ _ _ _ t hs.1 hs.2 h1 h2) ?_
    exact ev_pos hn (Ev.now _)
  · simp (disch := omega) only [laws_szLineS.l0, if_neg]
def cvIns (x : S23) : S25 := ⟨x.f0, x.f1, x.f2, x.f3⟩
def cvLine (x : S102) : S104 := ⟨x.f0, cvIns x.f1, x.f2⟩
theorem toLineS_ev (xs : List S102) (hb : xs.length ≤ 4000000000000) : Ev (fun k => laws_toLineS.f k xs) (xs.map cvLine) := by
  refine Ev.congr (f := fun k => laws_toLineS.l0 k xs (List.replicate xs.length z104) ((0 : Nat) : Int)) (fun k => ?_) (fill_ev (fun k ys i => laws_toLineS.l0 k xs ys i) cvLine xs z102 (fun i ys r hi hy h => ev_succ ?_) (fun ys hy => ev_now (fun k => ?_)) xs.length 0 _ (by omega) (by simp) (by simp))
  · simp (disch := omega) only [laws_toLineS.f, if_pos, Int.toNat_natCast]; rfl
  · simp (disch := omega) only [laws_toLineS.l0, if_pos, wrap_nat, Int.toNat_natCast, laws_toLine.f, laws_toIns.f, Option.bind_some]; exact h
  · simp (disch := omega) only [laws_toLineS.l0, if_neg]
theorem eqIns_self (x0 : Int) (x1 : Int) (x2 : Int) (x3 : Int) : laws_eqIns.f x0 x1 x2 x3 x0 x1 x2 x3 = some true := by simp only [laws_eqIns.f, eq_self, if_true, Option.bind_some, bne_self_eq_false, Bool.false_eq_true, if_false]
theorem eqLine_self (x0 : ByteArray) (x1 : Int) (x2 : Int) (x3 : Int) (x4 : Int) (x5 : ByteArray) : laws_eqLine.f x0 x1 x2 x3 x4 x5 x0 x1 x2 x3 x4 x5 = some true := by simp only [laws_eqLine.f, laws_eqIns.f, eq_self, if_true, Option.bind_some, bne_self_eq_false, Bool.false_eq_true, if_false]
theorem eqLineS_self (xs : List S104) (hb : xs.length ≤ 9000000000000000000) : Ev (fun k => laws_eqLineS.f k xs xs) true := by
  refine Ev.congr (f := fun k => laws_eqLineS.l0 k xs xs ((0 : Nat) : Int)) (fun k => ?_) (up_ev (fun k i => laws_eqLineS.l0 k xs xs i) xs.length true (fun i hi h => ev_succ ?_) (ev_now (fun k => ?_)) xs.length 0 (by omega))
  · simp (disch := omega) only [laws_eqLineS.f, if_pos]; rfl
  · simp (disch := omega) only [laws_eqLineS.l0, if_pos, wrap_nat, laws_eqLine.f, laws_eqIns.f, eq_self, if_true, Option.bind_some, bne_self_eq_false, Bool.false_eq_true, if_false]; exact h
  · simp (disch := omega) only [laws_eqLineS.l0, if_neg]
/-- How many lines are words. -/
def counted (xs : List S104) : Nat := (xs.filter (fun x => decide (x.f1.f0 ≠ 0))).length
theorem counted_le (xs : List S104) : counted xs ≤ xs.length := List.length_filter_le _ _
theorem counted_snoc (xs : List S104) (i : Nat) (h : i < xs.length) : counted (xs.take (i + 1)) = counted (xs.take i) + if (xs.getD i z104).f1.f0 = 0 then 0 else 1 := by
  unfold counted
  rw [List.take_succ_eq_append_getElem h, List.filter_append, List.length_append, List.getD_eq_getElem?_getD, List.getElem?_eq_getElem h]
  by_cases e : (xs[i]).f1.f0 = 0 <;> simp [e]
theorem spec_counted_l0 (xs : List S104) (hb : xs.length ≤ 4000000000000) : ∀ d i : Nat, i + d = xs.length → Ev (fun k => spec_CountOf.l0 k xs ((counted (xs.take i) : Nat) : Int) (i : Int)) (counted xs)
  | 0, i, h => by
    refine ev_now (fun k => ?_)
    simp (disch := omega) only [spec_CountOf.l0, if_neg]
    rw [List.take_of_length_le (by omega)]
  | d + 1, i, h => by
    have ih := spec_counted_l0 xs hb d (i + 1) (by omega)
    have hc := counted_le (xs.take i)
    rw [List.length_take] at hc
    rw [counted_snoc xs i (by omega)] at ih
    refine ev_succ ?_
    by_cases e : (xs.getD i z104).f1.f0 = 0
    · have e' : ((rd_T104 xs (i : Int)).f1).f0 = 0 := e
      rw [if_pos e] at ih
      simp (disch := omega) only [spec_CountOf.l0, if_pos, wrap_nat]
      try simp only [if_pos e', if_neg (show ¬ ((rd_T104 xs (i : Int)).f1.f0 ≠ 0) from fun h => h e')]
      exact ih
    · have e' : ¬ ((rd_T104 xs (i : Int)).f1).f0 = 0 := e
      rw [if_neg e] at ih
      simp (disch := omega) only [spec_CountOf.l0, if_pos, wrap_nat]
      try simp only [if_neg e']
      exact ih
theorem spec_counted (xs : List S104) (hb : xs.length ≤ 4000000000000) : Ev (fun k => spec_CountOf.f k xs) (counted xs) := spec_counted_l0 xs hb xs.length 0 (by omega)
theorem impl_counted_l0 (xs : List S104) (hb : xs.length ≤ 4000000000000) : ∀ d i : Nat, i + d = xs.length → Ev (fun k => impl_CountOf.l0 k ((counted (xs.take i) : Nat) : Int) xs (xs.length : Int) (i : Int)) (counted xs)
  | 0, i, h => by
    refine ev_now (fun k => ?_)
    simp (disch := omega) only [impl_CountOf.l0, if_neg]
    rw [List.take_of_length_le (by omega)]
  | d + 1, i, h => by
    have ih := impl_counted_l0 xs hb d (i + 1) (by omega)
    have hc := counted_le (xs.take i)
    rw [List.length_take] at hc
    rw [counted_snoc xs i (by omega)] at ih
    refine ev_succ ?_
    by_cases e : (xs.getD i z104).f1.f0 = 0
    · have e' : ((rd_T104 xs (i : Int)).f1).f0 = 0 := e
      rw [if_pos e] at ih
      simp (disch := omega) only [impl_CountOf.l0, if_pos, wrap_nat]
      try simp only [if_pos e']
      exact ih
    · have e' : ¬ ((rd_T104 xs (i : Int)).f1).f0 = 0 := e
      rw [if_neg e] at ih
      simp (disch := omega) only [impl_CountOf.l0, if_pos, wrap_nat]
      try simp only [if_neg e']
      exact ih
theorem impl_counted (xs : List S104) (hb : xs.length ≤ 4000000000000) : Ev (fun k => impl_CountOf.f k xs) (counted xs) := impl_counted_l0 xs hb xs.length 0 (by omega)
theorem szG_of (x : S102) (h : G102 x) : szGLine x := ⟨h.1, h.2.2⟩
theorem FnExactCountOf : laws_FnExactCountOf.Says := by
  rintro xs ⟨hn1, hn2, hn3⟩
  refine Ev.rounds (r := true) ?_
  unfold laws_FnExactCountOf.f
  refine Ev.bind (szLineS_ev xs 1048576 (by omega) (fun x hx => szG_of x (hn3 x hx)) (by omega) (by omega)) ?_
  by_cases hl : lft 1048576 (xs.length + total szLine_of xs) < 0
  · exact ev_pos hl (Ev.now _)
  · refine ev_neg hl ?_
    have hp := (lft_pos hl).1
    have b1 : xs.length ≤ 4000000000000 := by omega
    have b2 : (xs.map cvLine).length ≤ 4000000000000 := by simpa using b1
    exact Ev.bind (toLineS_ev xs b1) (Ev.bind (spec_counted _ b2) (Ev.bind (toLineS_ev xs b1) (Ev.bind (impl_counted _ b2) (ev_pos rfl (Ev.bind (toLineS_ev xs b1) (Ev.bind (eqLineS_self _ (by omega)) (ev_pos rfl (Ev.now _))))))))

end Go.Proofs.Ytcappoimcdfggaa.Pure
