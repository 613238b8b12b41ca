/- The law FnExactArrive, its arguments opened: what is left is a statement over numbers and lists alone (laws_FnExactArrive.Says), under the bounds of the arguments' own types and sizes. -/
import Derived.Test.YtdbomppmpkjmhaaPFnExactArrivex6
import Derived.Test.YtdbomppmpkjmhaaPFnExactArrivex0
import Derived.Test.YtdbomppmpkjmhaaOpnFnExactArrive
import Derived.KernelRfl
namespace Go.Proofs.Ytdbomppmpkjmhaa.PFnExactArrive
open Go.RowKit Go.Proofs.YtdbomppmpkjmhaaW.PrintWords Go.Proofs.YtdbomppmpkjmhaaW.PrintLast Go.Proofs.Ytdbomppmpkjmhaa.Opn
set_option linter.unusedVariables false
def laws_FnExactArrive.Says : Prop := ∀ (a0_0 : Int) (l0_1 : (List Int)) (l0_2 : (List Int)) (a1 : Int), ((Lit.int .i64 a0_0).wf = true) → (l0_1.length ≤ maxLen ∧ l0_1.length * 8 ≤ 140737488351232 ∧ ∀ y4 ∈ l0_1, (Lit.int .i64 y4).wf = true) → (l0_2.length ≤ maxLen ∧ l0_2.length * 8 ≤ 140737488351232 ∧ ∀ y4 ∈ l0_2, (Lit.int .i64 y4).wf = true) → ((Lit.int .i64 a1).wf = true) → ∃ k, laws_FnExactArrive.f k a0_0 l0_1 l0_2 a1 = some true
set_option maxRecDepth 100000 in
theorem laws_FnExactArrive.walks (P : laws_FnExactArrive.Says) (w : World) (a0_0 : Int) (l0_1 : (List Int)) (l0_2 : (List Int)) (cs0 : List Value) (hK0 : Kd.K (Kd.pair (Kd.int .i64) (Kd.pair (Kd.slice 3 (Kd.int .i64)) (Kd.slice 3 (Kd.int .i64)))) w (a0_0, (l0_1, l0_2)) cs0) (a1 : Int) (g0_0 : (Lit.int .i64 a0_0).wf = true) (g0_1 : l0_1.length ≤ maxLen ∧ l0_1.length * 8 ≤ 140737488351232 ∧ ∀ y4 ∈ l0_1, (Lit.int .i64 y4).wf = true) (g0_2 : l0_2.length ≤ maxLen ∧ l0_2.length * 8 ≤ 140737488351232 ∧ ∀ y4 ∈ l0_2, (Lit.int .i64 y4).wf = true) (g1 : (Lit.int .i64 a1).wf = true) :
    Calls Try.prog 4 #[.agg ⟨cs0⟩, .int .i64 a1] w fun e w' => e = .returned (.bool true) ∧ Below w.heap.size w w' := by
  obtain ⟨k, h⟩ := P a0_0 l0_1 l0_2 a1 g0_0 g0_1 g0_2 g1
  obtain ⟨_, _, rfl, rfl, ⟨_, _, rfl, ⟨A0_1, c0_1, rfl, hc0_1, hr0_1⟩, ⟨A0_2, c0_2, rfl, hc0_2, hr0_2⟩⟩⟩ := hK0
  refine (laws_FnExactArrive.calls k a0_0 _ _ l0_1 _ _ l0_2 a1 true w hr0_1 hc0_1 hr0_2 hc0_2 h).mono ?_
  rintro e w' ⟨rfl, hd⟩
  exact ⟨rfl, hd⟩
theorem laws_FnExactArrive.open0 : Opens Try.prog 31 (Kd.pair (Kd.int .i64) (Kd.pair (Kd.slice 3 (Kd.int .i64)) (Kd.slice 3 (Kd.int .i64)))) (fun y => ((Lit.int .i64 y.1).wf = true) ∧ (y.2.1.length ≤ maxLen ∧ y.2.1.length * 8 ≤ 140737488351232 ∧ ∀ y5 ∈ y.2.1, (Lit.int .i64 y5).wf = true) ∧ (y.2.2.length ≤ maxLen ∧ y.2.2.length * 8 ≤ 140737488351232 ∧ ∀ y5 ∈ y.2.2, (Lit.int .i64 y5).wf = true)) := opens_G (opens_struct Try.underlying31 (by kernel_rfl) (opensF_cons rfl (by kernel_rfl) (opens_int Try.underlying3) (opensF_cons rfl (by kernel_rfl) (opens_slice Try.underlying29 (by kernel_rfl) (by kernel_rfl) (opens_int Try.underlying3)) (opensF_one rfl (by kernel_rfl) (opens_slice Try.underlying29 (by kernel_rfl) (by kernel_rfl) (opens_int Try.underlying3)))))) (fun _ h => h)
end Go.Proofs.Ytdbomppmpkjmhaa.PFnExactArrive
