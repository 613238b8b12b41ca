/- The pure statement of the law FnExactCoreOk holds: what the printed functions compute is what the law says, at every argument. -/
import Derived.Test.YtcappoimcdfggaaOpFnExactCoreOk
import Derived.Test.YtcappoimcdfggaaPl
namespace Go.Proofs.Ytcappoimcdfggaa.Pure
open Go.RowKit Go.Proofs.Ytcappoimcdfggaa.PFnExactCoreOk Go.Proofs.YtcappoimcdfggaaW.PrintWords Go.Proofs.YtcappoimcdfggaaW.PrintLast Go.Proofs.Ytcappoimcdfggaa.Pl
set_option linter.unusedSimpArgs false
set_option linter.unusedVariables false
theorem szIntS_ev (xs : List Int) (m : Int) (hx : xs.length ≤ 140737488351232) (h0 : 0 ≤ m) (hm : m ≤ 4611686018427387904) : Ev (fun _ => laws_szIntS.f xs m) (lft m xs.length) := sz_end h0 hm (by omega)
theorem szCore_ev (x0 : List Int) (x1 : Int) (x2 : Int) (m : Int) (hx0 : x0.length ≤ 140737488351232) (h0 : 0 ≤ m) (hm : m ≤ 4611686018427387904) : Ev (fun _ => laws_szCore.f x0 x1 x2 m) (lft m (x0.length)) := by
  unfold laws_szCore.f
  exact sz_last (szIntS_ev x0 _ hx0 h0 hm)
theorem toIntS_ev (xs : List Int) (hb : xs.length ≤ 4000000000000) : Ev (fun k => laws_toIntS.f k xs) xs := by
  refine ev_eq (Ev.congr (f := fun k => laws_toIntS.l0 k xs (List.replicate xs.length 0) ((0 : Nat) : Int)) (fun k => ?_) (fill_ev (fun k ys i => laws_toIntS.l0 k xs ys i) (fun x => x) xs 0 (fun i ys r hi hy h => ev_succ ?_) (fun ys hy => ev_now (fun k => ?_)) xs.length 0 _ (by omega) (by simp) (by simp))) (by simp)
  · simp (disch := omega) only [laws_toIntS.f, if_pos, Int.toNat_natCast]; rfl
  · simp (disch := omega) only [laws_toIntS.l0, if_pos, wrap_nat, Int.toNat_natCast]; exact h
  · simp (disch := omega) only [laws_toIntS.l0, if_neg]
theorem toCore_ev (x0 : List Int) (x1 : Int) (x2 : Int) (hx0 : x0.length ≤ 4000000000000) : Ev (fun k => laws_toCore.f k x0 x1 x2) (x0, x1, x2) := by
  unfold laws_toCore.f
  exact Ev.bind (toIntS_ev x0 hx0) (Ev.now _)
theorem eqIntS_self (xs : List Int) (hb : xs.length ≤ 9000000000000000000) : Ev (fun k => laws_eqIntS.f k xs xs) true := by
  refine Ev.congr (f := fun k => laws_eqIntS.l0 k xs xs ((0 : Nat) : Int)) (fun k => ?_) (up_ev (fun k i => laws_eqIntS.l0 k xs xs i) xs.length true (fun i hi h => ev_succ ?_) (ev_now (fun k => ?_)) xs.length 0 (by omega))
  · simp (disch := omega) only [laws_eqIntS.f, if_pos]; rfl
  · simp (disch := omega) only [laws_eqIntS.l0, if_pos, wrap_nat, eq_self, if_true, bne_self_eq_false, Bool.false_eq_true, if_false]; exact h
  · simp (disch := omega) only [laws_eqIntS.l0, if_neg]
theorem eqCore_self (x0 : List Int) (x1 : Int) (x2 : Int) (hx0 : x0.length ≤ 9000000000000000000) : Ev (fun k => laws_eqCore.f k x0 x1 x2 x0 x1 x2) true := by
  unfold laws_eqCore.f
  exact Ev.bind (eqIntS_self x0 hx0) (ev_pos rfl (ev_pos rfl (ev_pos rfl (Ev.now _))))
/-- A right value. -/
def valOk (n : Int) : Bool := decide (-1000000 ≤ n ∧ n ≤ 1000000)
/-- A right core. -/
def coreOk (regs : List Int) (pc process : Int) : Bool := decide (regs.length = 8) && (decide (∀ x ∈ regs, valOk x = true) && (decide (pc ≥ 0) && decide (-1 ≤ process ∧ process ≤ 3)))
theorem l01In_c (a lo hi : Int) : spec_l01In.f a lo hi = some (decide (lo ≤ a ∧ a ≤ hi)) := by
  unfold spec_l01In.f
  split
  · simp; omega
  · simp; omega
theorem within_c (a lo hi : Int) : impl_within.f a lo hi = some (decide (lo ≤ a ∧ a ≤ hi)) := by
  unfold impl_within.f
  split
  · simp; omega
  · simp; omega
theorem spec_valOk (n : Int) : spec_ValOk.f n = some (valOk n) := by simp only [spec_ValOk.f, l01In_c, Option.bind_some]; rfl
theorem impl_valOk (n : Int) : impl_ValOk.f n = some (valOk n) := by simp only [impl_ValOk.f, within_c, Option.bind_some]; rfl
theorem spec_coreOk_l0 (regs : List Int) (pc process : Int) (hb : regs.length ≤ 4000000000000) : ∀ d i : Nat, i + d = regs.length → Ev (fun k => spec_CoreOk.l0 k (i : Int) regs pc process) (decide (∀ x ∈ regs.drop i, valOk x = true) && (decide (regs.length = 8) && (decide (pc ≥ 0) && decide (-1 ≤ process ∧ process ≤ 3))))
  | 0, i, h => by
    refine ev_now (fun k => ?_)
    simp (disch := omega) only [spec_CoreOk.l0, if_neg, l01In_c, Option.bind_some]
    rw [List.drop_of_length_le (by omega)]
    by_cases h1 : regs.length = 8
    · have h1' : (regs.length : Int) = 8 := by omega
      by_cases h2 : pc ≥ 0
      · simp only [if_pos h1', if_pos h2]; simp [h1, h2]
      · simp only [if_pos h1', if_neg h2]; simp [h2]
    · have h1' : ¬ (regs.length : Int) = 8 := by omega
      simp only [if_neg h1']; simp [h1]
  | d + 1, i, h => by
    have ih := spec_coreOk_l0 regs pc process hb d (i + 1) (by omega)
    rw [rd_drop regs i (by omega)]
    refine ev_succ ?_
    simp (disch := omega) only [spec_CoreOk.l0, if_pos, wrap_nat, spec_valOk, Option.bind_some]
    by_cases h1 : valOk (rd regs (i : Int)) = true
    · simp only [h1, if_true]
      refine ev_eq ih ?_
      congr 1
      rw [Bool.eq_iff_iff]
      simp [h1]
    · have h2 : ¬ (∀ x ∈ rd regs (i : Int) :: regs.drop (i + 1), valOk x = true) := fun hh => h1 (hh _ (List.mem_cons_self))
      rw [decide_eq_false h2]
      have h1' : valOk (rd regs (i : Int)) = false := by simpa using h1
      simp only [h1', Bool.false_eq_true, if_false, Bool.false_and]
      exact Ev.now _
theorem spec_coreOk (regs : List Int) (pc process : Int) (hb : regs.length ≤ 4000000000000) : Ev (fun k => spec_CoreOk.f k regs pc process) (coreOk regs pc process) := by
  refine ev_eq (spec_coreOk_l0 regs pc process hb regs.length 0 (by omega)) ?_
  unfold coreOk
  rw [List.drop_zero]
  cases decide (∀ x ∈ regs, valOk x = true) <;> cases decide (regs.length = 8) <;> simp
theorem impl_noVal (regs : List Int) (hb : regs.length ≤ 4000000000000) : Ev (fun k => slices_ContainsFunc_int_at_impl_CoreOk_1.f k regs) (!decide (∀ x ∈ regs, valOk x = true)) := by
  have h1 : Ev (fun k => slices_IndexFunc_int_at_impl_CoreOk_1.f k regs) (ixI (fun y => !valOk y) regs) := by
    refine Ev.congr (f := fun k => slices_IndexFunc_int_at_impl_CoreOk_1.l0 k regs (regs.length : Int) ((0 : Nat) : Int)) (fun k => rfl) ?_
    refine ev_eq (find_ev (fun k i => slices_IndexFunc_int_at_impl_CoreOk_1.l0 k regs (regs.length : Int) i) (fun y => !valOk y) regs 0 (fun j => (j : Int)) (-1) (fun i r hi hp h => ev_succ ?_) (fun i hi hp => ev_now (fun k => ?_)) (ev_now (fun k => ?_)) regs.length 0 (by omega)) rfl
    · have hp' : (!valOk (rd regs (i : Int))) = false := hp
      simp (disch := omega) only [slices_IndexFunc_int_at_impl_CoreOk_1.l0, if_pos, wrap_nat, impl_CoreOk_1.f, impl_valOk, Option.bind_some, hp', Bool.false_eq_true, if_false]
      exact h
    · have hp' : (!valOk (rd regs (i : Int))) = true := hp
      simp (disch := omega) only [slices_IndexFunc_int_at_impl_CoreOk_1.l0, if_pos, impl_CoreOk_1.f, impl_valOk, Option.bind_some, hp', if_true]
    · simp (disch := omega) only [slices_IndexFunc_int_at_impl_CoreOk_1.l0, if_neg]
  refine Ev.bind h1 (ev_eq (Ev.now _) ?_)
  rw [ixI_any, Bool.eq_iff_iff, anyP_iff]
  simp
theorem impl_coreOk (regs : List Int) (pc process : Int) (hb : regs.length ≤ 4000000000000) : Ev (fun k => impl_CoreOk.f k regs pc process) (coreOk regs pc process) := by
  unfold impl_CoreOk.f coreOk
  simp only [within_c, Option.bind_some]
  by_cases h1 : regs.length = 8
  · have h1' : (regs.length : Int) = 8 := by omega
    simp only [if_pos h1', h1, decide_true, Bool.true_and]
    refine Ev.bind (impl_noVal regs hb) ?_
    cases decide (∀ x ∈ regs, valOk x = true) with
    | false => simp only [Bool.not_false, if_true, Bool.false_and]; exact Ev.now _
    | true =>
      simp only [Bool.not_true, Bool.false_eq_true, if_false, Bool.true_and]
      by_cases h2 : pc ≥ 0
      · simp only [if_pos h2, h2, decide_true, Bool.true_and]; exact Ev.now _
      · simp only [if_neg h2, h2, decide_false, Bool.false_and]; exact Ev.now _
  · have h1' : ¬ (regs.length : Int) = 8 := by omega
    simp only [if_neg h1', h1, decide_false, Bool.false_and]
    exact Ev.now _
theorem FnExactCoreOk : laws_FnExactCoreOk.Says := by
  rintro regs pc process ⟨hw1, hw2, hw3⟩ _ _
  refine Ev.rounds (r := true) ?_
  unfold laws_FnExactCoreOk.f
  refine Ev.bind (ev_eq (szCore_ev regs pc process 1048576 (by omega) (by omega) (by omega)) rfl) ?_
  by_cases hl : lft 1048576 regs.length < 0
  · exact ev_pos hl (Ev.now _)
  · refine ev_neg hl ?_
    have hp := (lft_pos hl).1
    have b1 : regs.length ≤ 4000000000000 := by omega
    have t := toCore_ev regs pc process b1
    exact Ev.bind t (Ev.bind (spec_coreOk regs pc process b1) (Ev.bind t (Ev.bind (impl_coreOk regs pc process b1) (ev_neg (by simp) (Ev.bind t (Ev.bind (eqCore_self regs pc process (by omega)) (ev_pos rfl (Ev.now _))))))))

end Go.Proofs.Ytcappoimcdfggaa.Pure
