/- The pure statement of the law FnExactPrintsOf holds: what the printed functions compute is what the law says, at every argument. -/
import Derived.Test.YtcappoimcdfggaaOpFnExactPrintsOf
import Derived.Test.YtcappoimcdfggaaPl
namespace Go.Proofs.Ytcappoimcdfggaa.Pure
open Go.RowKit Go.Proofs.Ytcappoimcdfggaa.PFnExactPrintsOf Go.Proofs.YtcappoimcdfggaaW.PrintWords Go.Proofs.YtcappoimcdfggaaW.PrintLast Go.Proofs.Ytcappoimcdfggaa.Pl
set_option linter.unusedSimpArgs false
set_option linter.unusedVariables false
theorem szEventS_ev (xs : List S98) (m : Int) (hx : xs.length ≤ 140737488351232) (h0 : 0 ≤ m) (hm : m ≤ 4611686018427387904) : Ev (fun _ => laws_szEventS.f xs m) (lft m xs.length) := sz_end h0 hm (by omega)
def cvEvent (x : S98) : S96 := ⟨x.f0, x.f1, x.f2⟩
theorem toEventS_ev (xs : List S98) (hb : xs.length ≤ 4000000000000) : Ev (fun k => laws_toEventS.f k xs) (xs.map cvEvent) := by
  refine Ev.congr (f := fun k => laws_toEventS.l0 k xs (List.replicate xs.length z96) ((0 : Nat) : Int)) (fun k => ?_) (fill_ev (fun k ys i => laws_toEventS.l0 k xs ys i) cvEvent xs z98 (fun i ys r hi hy h => ev_succ ?_) (fun ys hy => ev_now (fun k => ?_)) xs.length 0 _ (by omega) (by simp) (by simp))
  · simp (disch := omega) only [laws_toEventS.f, if_pos, Int.toNat_natCast]; rfl
  · simp (disch := omega) only [laws_toEventS.l0, if_pos, wrap_nat, Int.toNat_natCast, laws_toEvent.f, Option.bind_some]; exact h
  · simp (disch := omega) only [laws_toEventS.l0, if_neg]
theorem eqEvent_self (x0 : Int) (x1 : Int) (x2 : Int) : laws_eqEvent.f x0 x1 x2 x0 x1 x2 = some true := by simp only [laws_eqEvent.f, eq_self, if_true, Option.bind_some, bne_self_eq_false, Bool.false_eq_true, if_false]
theorem eqEventS_self (xs : List S96) (hb : xs.length ≤ 9000000000000000000) : Ev (fun k => laws_eqEventS.f k xs xs) true := by
  refine Ev.congr (f := fun k => laws_eqEventS.l0 k xs xs ((0 : Nat) : Int)) (fun k => ?_) (up_ev (fun k i => laws_eqEventS.l0 k xs xs i) xs.length true (fun i hi h => ev_succ ?_) (ev_now (fun k => ?_)) xs.length 0 (by omega))
  · simp (disch := omega) only [laws_eqEventS.f, if_pos]; rfl
  · simp (disch := omega) only [laws_eqEventS.l0, if_pos, wrap_nat, laws_eqEvent.f, eq_self, if_true, Option.bind_some, bne_self_eq_false, Bool.false_eq_true, if_false]; exact h
  · simp (disch := omega) only [laws_eqEventS.l0, if_neg]
theorem eqIntS_self (xs : List Int) (hb : xs.length ≤ 9000000000000000000) : Ev (fun k => laws_eqIntS.f k xs xs) true := by
  refine Ev.congr (f := fun k => laws_eqIntS.l0 k xs xs ((0 : Nat) : Int)) (fun k => ?_) (up_ev (fun k i => laws_eqIntS.l0 k xs xs i) xs.length true (fun i hi h => ev_succ ?_) (ev_now (fun k => ?_)) xs.length 0 (by omega))
  · simp (disch := omega) only [laws_eqIntS.f, if_pos]; rfl
  · simp (disch := omega) only [laws_eqIntS.l0, if_pos, wrap_nat, eq_self, if_true, bne_self_eq_false, Bool.false_eq_true, if_false]; exact h
  · simp (disch := omega) only [laws_eqIntS.l0, if_neg]
theorem mhIntS (xs : List Int) (m : Int) (hx : xs.length ≤ 1000000000000) (h0 : 0 ≤ m) (hm : m ≤ 1000000000000) : ∃ (ys : List Int) (m' : Int), ys.length = xs.length ∧ Ev (fun k => laws_markIntS.f k xs m) (m', ys) ∧ Ev (fun k => laws_heldIntS.f k ys m) m' ∧ m ≤ m' ∧ m' ≤ m + xs.length := by
  have ht : total (fun _ : Int => 1) (xs.drop 0) = xs.length := total_one _
  obtain ⟨ys, m', hl, _, h1, h2, h3, h4⟩ := markheld (fun k ys t i => laws_markIntS.l0 k ys t i) (fun k ys t i => laws_heldIntS.l0 k ys t i) (fun _ t y t1 => y = t ∧ t1 = t + 1) (fun _ => 1) 0
    (fun x t ht0 hb => ⟨t, t + 1, ⟨rfl, rfl⟩, by omega, by omega⟩)
    (fun i zs t y t1 r hi hz ht0 hb hE h => by
      obtain ⟨rfl, rfl⟩ := hE
      refine ev_succ ?_
      simp (disch := omega) only [laws_markIntS.l0, if_pos, wrap_nat, Int.toNat_natCast]
      rw [wrap_in _ (by omega) (by omega)]
      exact h)
    (fun zs t => ev_now (fun k => by simp (disch := omega) only [laws_markIntS.l0, if_neg]))
    (fun i zs x t t1 r hi hz ht0 hb hE h => by
      obtain ⟨hy, rfl⟩ := hE
      have hy' : rd zs (i : Int) = t := hy
      refine ev_succ ?_
      simp (disch := omega) only [laws_heldIntS.l0, if_pos, wrap_nat]
      rw [wrap_in _ (by omega) (by omega)]
      exact h)
    (fun zs t => ev_now (fun k => by simp (disch := omega) only [laws_heldIntS.l0, if_neg]))
    xs.length 0 xs m (by omega) (by omega) h0 (by rw [ht]; omega)
  rw [ht] at h4
  exact ⟨ys, m', hl, h1, h2, h3, h4⟩
/-- What is printed. -/
def printed (xs : List S96) : List Int := (xs.filter (fun x => decide (x.f1 = 5))).map (fun x => x.f2)
theorem printed_snoc (xs : List S96) (i : Nat) (h : i < xs.length) : printed (xs.take (i + 1)) = printed (xs.take i) ++ if (xs.getD i z96).f1 = 5 then [(xs.getD i z96).f2] else [] := by
  unfold printed
  rw [List.take_succ_eq_append_getElem h, List.filter_append, List.map_append, List.getD_eq_getElem?_getD, List.getElem?_eq_getElem h]
  by_cases e : (xs[i]).f1 = 5 <;> simp [e]
theorem printed_len (xs : List S96) : (printed xs).length ≤ xs.length := by
  unfold printed
  rw [List.length_map]
  exact List.length_filter_le _ _
theorem spec_printed_l0 (xs : List S96) (hb : xs.length ≤ 4000000000000) : ∀ d i : Nat, i + d = xs.length → Ev (fun k => spec_PrintsOf.l0 k xs (printed (xs.take i)) (i : Int)) (printed xs)
  | 0, i, h => by
    refine ev_now (fun k => ?_)
    simp (disch := omega) only [spec_PrintsOf.l0, if_neg]
    rw [List.take_of_length_le (by omega)]
  | d + 1, i, h => by
    have ih := spec_printed_l0 xs hb d (i + 1) (by omega)
    have hc := printed_len (xs.take i)
    rw [List.length_take] at hc
    rw [printed_snoc xs i (by omega)] at ih
    refine ev_succ ?_
    by_cases e : (xs.getD i z96).f1 = 5
    · have e' : (rd_T96 xs (i : Int)).f1 = 5 := e
      rw [if_pos e] at ih
      simp (disch := omega) only [spec_PrintsOf.l0, if_pos, wrap_nat]
      try simp only [if_pos e']
      exact ih
    · have e' : ¬ (rd_T96 xs (i : Int)).f1 = 5 := e
      rw [if_neg e, List.append_nil] at ih
      simp (disch := omega) only [spec_PrintsOf.l0, if_pos, wrap_nat]
      try simp only [if_neg e']
      exact ih
theorem spec_printed (xs : List S96) (hb : xs.length ≤ 4000000000000) : Ev (fun k => spec_PrintsOf.f k xs) (printed xs) := spec_printed_l0 xs hb xs.length 0 (by omega)
theorem impl_printed_l0 (xs : List S96) (hb : xs.length ≤ 4000000000000) : ∀ d i : Nat, i + d = xs.length → Ev (fun k => impl_PrintsOf.l0 k (printed (xs.take i)) xs (xs.length : Int) (i : Int)) (printed xs)
  | 0, i, h => by
    refine ev_now (fun k => ?_)
    simp (disch := omega) only [impl_PrintsOf.l0, if_neg]
    rw [List.take_of_length_le (by omega)]
  | d + 1, i, h => by
    have ih := impl_printed_l0 xs hb d (i + 1) (by omega)
    have hc := printed_len (xs.take i)
    rw [List.length_take] at hc
    rw [printed_snoc xs i (by omega)] at ih
    refine ev_succ ?_
    by_cases e : (xs.getD i z96).f1 = 5
    · have e' : (rd_T96 xs (i : Int)).f1 = 5 := e
      rw [if_pos e] at ih
      simp (disch := omega) only [impl_PrintsOf.l0, if_pos, wrap_nat]
      try simp only [if_pos e']
      exact ih
    · have e' : ¬ (rd_T96 xs (i : Int)).f1 = 5 := e
      rw [if_neg e, List.append_nil] at ih
      simp (disch := omega) only [impl_PrintsOf.l0, if_pos, wrap_nat]
      try simp only [if_neg e']
      exact ih
theorem impl_printed (xs : List S96) (hb : xs.length ≤ 4000000000000) : Ev (fun k => impl_PrintsOf.f k xs) (printed xs) := impl_printed_l0 xs hb xs.length 0 (by omega)
/-- A list of events is marked. -/
theorem markEventS_l0 : ∀ (d i : Nat) (xs : List S96) (m : Int), i + d = xs.length → xs.length ≤ 4000000000000 → 0 ≤ m → m + 3 * d ≤ 40000000000000 → ∃ m' ys, 0 ≤ m' ∧ Ev (fun k => laws_markEventS.l0 k xs m (i : Int)) (m', ys)
  | 0, i, xs, m, h, hb, h0, hm => ⟨m, xs, h0, ev_now (fun k => by simp (disch := omega) only [laws_markEventS.l0, if_neg])⟩
  | d + 1, i, xs, m, h, hb, h0, hm => by
    have w1 : wrap64 (m + 1) = m + 1 := wrap_in _ (by omega) (by omega)
    have w2 : wrap64 (m + 1 + 1) = m + 1 + 1 := wrap_in _ (by omega) (by omega)
    have w3 : wrap64 (m + 1 + 1 + 1) = m + 1 + 1 + 1 := wrap_in _ (by omega) (by omega)
    refine (fun (z : ∃ m' ys, 0 ≤ m' ∧ Ev (fun k => laws_markEventS.l0 (k + 1) xs m (i : Int)) (m', ys)) => by
      obtain ⟨m', ys, h1, h2⟩ := z
      exact ⟨m', ys, h1, ev_succ h2⟩) ?_
    simp (disch := omega) only [laws_markEventS.l0, if_pos, wrap_nat, w1, w2, w3, Option.bind_some]
    exact markEventS_l0 d (i + 1) _ _ (by simp; omega) (by simpa using hb) (by omega) (by omega)
theorem markEventS_ev (xs : List S96) (hb : xs.length ≤ 4000000000000) : ∃ m' ys, 0 ≤ m' ∧ Ev (fun k => laws_markEventS.f k xs 1) (m', ys) := markEventS_l0 xs.length 0 xs 1 (by omega) hb (by omega) (by omega)
theorem FnExactPrintsOf : laws_FnExactPrintsOf.Says := by
  rintro xs ⟨hn1, hn2, hn3⟩
  refine Ev.rounds (r := true) ?_
  unfold laws_FnExactPrintsOf.f
  refine Ev.bind (szEventS_ev xs 1048576 (by omega) (by omega) (by omega)) ?_
  by_cases hl : lft 1048576 xs.length < 0
  · exact ev_pos hl (Ev.now _)
  · refine ev_neg hl ?_
    have hp := (lft_pos hl).1
    have b1 : xs.length ≤ 4000000000000 := by omega
    have b2 : (xs.map cvEvent).length ≤ 4000000000000 := by simpa using b1
    have b3 := printed_len (xs.map cvEvent)
    rw [List.length_map] at b3
    have b4 : (printed (xs.map cvEvent)).length ≤ 9000000000000000000 := by omega
    obtain ⟨m1, ys1, hm1, hmk1⟩ := markEventS_ev (xs.map cvEvent) b2
    obtain ⟨ys, m', _, hmk, hhd, hm2, hm3⟩ := mhIntS (printed (xs.map cvEvent)) 1 (by omega) (by omega) (by omega)
    have hm1' : ¬ m1 < 0 := by omega
    have hm2' : ¬ m' < 0 := by omega
    refine Ev.bind (toEventS_ev xs b1) (Ev.bind (spec_printed _ b2) (Ev.bind (toEventS_ev xs b1) (Ev.bind (impl_printed _ b2) (Ev.bind (eqIntS_self _ b4) (ev_pos rfl (Ev.bind (toEventS_ev xs b1) (Ev.bind (eqEventS_self _ (by omega)) (ev_pos rfl (Ev.bind hmk1 (ev_neg hm1' (Ev.bind (eqIntS_self _ b4) (ev_succ ?_))))))))))))
    simp only [laws_FnExactPrintsOf.j0, Bool.not_true, Bool.false_eq_true, if_false]
    exact Ev.bind hmk (Ev.bind hhd (ev_neg hm2' (ev_pos rfl (Ev.bind (toEventS_ev xs b1) (Ev.bind (impl_printed _ b2) (Ev.bind (eqIntS_self _ b4) (ev_pos rfl (Ev.bind hhd (ev_neg hm2' (ev_pos rfl (Ev.now _)))))))))))

end Go.Proofs.Ytcappoimcdfggaa.Pure
