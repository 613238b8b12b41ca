/- The pure statement of the law FnExactCoreNew holds: what the printed functions compute is what the law says, at every argument. -/
import Derived.Test.YtcappoimcdfggaaOpFnExactCoreNew
import Derived.Test.YtcappoimcdfggaaPl
namespace Go.Proofs.Ytcappoimcdfggaa.Pure
open Go.RowKit Go.Proofs.Ytcappoimcdfggaa.PFnExactCoreNew Go.Proofs.YtcappoimcdfggaaW.PrintWords Go.Proofs.YtcappoimcdfggaaW.PrintLast Go.Proofs.Ytcappoimcdfggaa.Pl
set_option linter.unusedSimpArgs false
set_option linter.unusedVariables false
theorem eqIntS_self (xs : List Int) (hb : xs.length ≤ 9000000000000000000) : Ev (fun k => laws_eqIntS.f k xs xs) true := by
  refine Ev.congr (f := fun k => laws_eqIntS.l0 k xs xs ((0 : Nat) : Int)) (fun k => ?_) (up_ev (fun k i => laws_eqIntS.l0 k xs xs i) xs.length true (fun i hi h => ev_succ ?_) (ev_now (fun k => ?_)) xs.length 0 (by omega))
  · simp (disch := omega) only [laws_eqIntS.f, if_pos]; rfl
  · simp (disch := omega) only [laws_eqIntS.l0, if_pos, wrap_nat, eq_self, if_true, bne_self_eq_false, Bool.false_eq_true, if_false]; exact h
  · simp (disch := omega) only [laws_eqIntS.l0, if_neg]
theorem eqCore_self (x0 : List Int) (x1 : Int) (x2 : Int) (hx0 : x0.length ≤ 9000000000000000000) : Ev (fun k => laws_eqCore.f k x0 x1 x2 x0 x1 x2) true := by
  unfold laws_eqCore.f
  exact Ev.bind (eqIntS_self x0 hx0) (ev_pos rfl (ev_pos rfl (ev_pos rfl (Ev.now _))))
theorem mhIntS (xs : List Int) (m : Int) (hx : xs.length ≤ 1000000000000) (h0 : 0 ≤ m) (hm : m ≤ 1000000000000) : ∃ (ys : List Int) (m' : Int), ys.length = xs.length ∧ Ev (fun k => laws_markIntS.f k xs m) (m', ys) ∧ Ev (fun k => laws_heldIntS.f k ys m) m' ∧ m ≤ m' ∧ m' ≤ m + xs.length := by
  have ht : total (fun _ : Int => 1) (xs.drop 0) = xs.length := total_one _
  obtain ⟨ys, m', hl, _, h1, h2, h3, h4⟩ := markheld (fun k ys t i => laws_markIntS.l0 k ys t i) (fun k ys t i => laws_heldIntS.l0 k ys t i) (fun _ t y t1 => y = t ∧ t1 = t + 1) (fun _ => 1) 0
    (fun x t ht0 hb => ⟨t, t + 1, ⟨rfl, rfl⟩, by omega, by omega⟩)
    (fun i zs t y t1 r hi hz ht0 hb hE h => by
      obtain ⟨rfl, rfl⟩ := hE
      refine ev_succ ?_
      simp (disch := omega) only [laws_markIntS.l0, if_pos, wrap_nat, Int.toNat_natCast]
      rw [wrap_in _ (by omega) (by omega)]
      exact h)
    (fun zs t => ev_now (fun k => by simp (disch := omega) only [laws_markIntS.l0, if_neg]))
    (fun i zs x t t1 r hi hz ht0 hb hE h => by
      obtain ⟨hy, rfl⟩ := hE
      have hy' : rd zs (i : Int) = t := hy
      refine ev_succ ?_
      simp (disch := omega) only [laws_heldIntS.l0, if_pos, wrap_nat]
      rw [wrap_in _ (by omega) (by omega)]
      exact h)
    (fun zs t => ev_now (fun k => by simp (disch := omega) only [laws_heldIntS.l0, if_neg]))
    xs.length 0 xs m (by omega) (by omega) h0 (by rw [ht]; omega)
  rw [ht] at h4
  exact ⟨ys, m', hl, h1, h2, h3, h4⟩
theorem FnExactCoreNew : laws_FnExactCoreNew.Says := by
  refine Ev.rounds (r := true) ?_
  have hs : spec_CoreNew.f = some (List.replicate 8 0, 0, -1) := rfl
  have hi : impl_CoreNew.f = some (List.replicate 8 0, 0, -1) := rfl
  have hl : (List.replicate 8 (0 : Int)).length = 8 := List.length_replicate
  obtain ⟨ys, m', _, hmk, hhd, hm2, hm3⟩ := mhIntS (List.replicate 8 0) 1 (by omega) (by omega) (by omega)
  have hm2' : ¬ m' < 0 := by omega
  have e := eqCore_self (List.replicate 8 0) 0 (-1) (by omega)
  unfold laws_FnExactCoreNew.f laws_markCore.f laws_heldCore.f
  simp only [hs, hi, Option.bind_some]
  refine Ev.bind e (ev_pos rfl (Ev.bind (Ev.bind hmk (Ev.now _)) (Ev.bind (Ev.bind hhd (ev_neg hm2' (Ev.now _))) (ev_neg hm2' (ev_pos rfl (Ev.bind e (ev_pos rfl (Ev.bind (Ev.bind hhd (ev_neg hm2' (Ev.now _))) (ev_neg hm2' (ev_pos rfl (Ev.now _)))))))))))

end Go.Proofs.Ytcappoimcdfggaa.Pure
