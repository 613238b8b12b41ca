/- The law FnExactImageOk, its arguments opened: what is left is a statement over numbers and lists alone (laws_FnExactImageOk.Says), under the bounds of the arguments' own types and sizes. -/
import Derived.Test.YtcappoimcdfggaaPFnExactImageOkx5
import Derived.Test.YtcappoimcdfggaaPFnExactImageOkx0
import Derived.Test.YtcappoimcdfggaaOpnFnExactImageOk
import Derived.KernelRfl
namespace Go.Proofs.Ytcappoimcdfggaa.PFnExactImageOk
open Go.RowKit Go.Proofs.YtcappoimcdfggaaW.PrintWords Go.Proofs.YtcappoimcdfggaaW.PrintLast Go.Proofs.Ytcappoimcdfggaa.Opn
set_option linter.unusedVariables false
def laws_FnExactImageOk.Says : Prop := ∀ (l0_0 : (List Int)) (l0_1 : (List Int)) (a0_2 : Int), (l0_0.length ≤ maxLen ∧ l0_0.length * 8 ≤ 140737488351232 ∧ ∀ y4 ∈ l0_0, (Lit.int .i64 y4).wf = true) → (l0_1.length ≤ maxLen ∧ l0_1.length * 8 ≤ 140737488351232 ∧ ∀ y4 ∈ l0_1, (Lit.int .i64 y4).wf = true) → ((Lit.int .i64 a0_2).wf = true) → ∃ k, laws_FnExactImageOk.f k l0_0 l0_1 a0_2 = some true
set_option maxRecDepth 100000 in
theorem laws_FnExactImageOk.walks (P : laws_FnExactImageOk.Says) (w : World) (l0_0 : (List Int)) (l0_1 : (List Int)) (a0_2 : Int) (cs0 : List Value) (hK0 : Kd.K (Kd.pair (Kd.slice 3 (Kd.int .i64)) (Kd.pair (Kd.slice 3 (Kd.int .i64)) (Kd.int .i64))) w (l0_0, (l0_1, a0_2)) cs0) (g0_0 : l0_0.length ≤ maxLen ∧ l0_0.length * 8 ≤ 140737488351232 ∧ ∀ y4 ∈ l0_0, (Lit.int .i64 y4).wf = true) (g0_1 : l0_1.length ≤ maxLen ∧ l0_1.length * 8 ≤ 140737488351232 ∧ ∀ y4 ∈ l0_1, (Lit.int .i64 y4).wf = true) (g0_2 : (Lit.int .i64 a0_2).wf = true) :
    Calls Try.prog 14 #[.agg ⟨cs0⟩] w fun e w' => e = .returned (.bool true) ∧ Below w.heap.size w w' := by
  obtain ⟨k, h⟩ := P l0_0 l0_1 a0_2 g0_0 g0_1 g0_2
  obtain ⟨_, _, rfl, ⟨A0_0, c0_0, rfl, hc0_0, hr0_0⟩, ⟨_, _, rfl, ⟨A0_1, c0_1, rfl, hc0_1, hr0_1⟩, rfl⟩⟩ := hK0
  refine (laws_FnExactImageOk.calls k _ _ l0_0 _ _ l0_1 a0_2 true w hr0_0 hc0_0 hr0_1 hc0_1 h).mono ?_
  rintro e w' ⟨rfl, hd⟩
  exact ⟨rfl, hd⟩
theorem laws_FnExactImageOk.open0 : Opens Try.prog 85 (Kd.pair (Kd.slice 3 (Kd.int .i64)) (Kd.pair (Kd.slice 3 (Kd.int .i64)) (Kd.int .i64))) (fun y => (y.1.length ≤ maxLen ∧ y.1.length * 8 ≤ 140737488351232 ∧ ∀ y3 ∈ y.1, (Lit.int .i64 y3).wf = true) ∧ (y.2.1.length ≤ maxLen ∧ y.2.1.length * 8 ≤ 140737488351232 ∧ ∀ y5 ∈ y.2.1, (Lit.int .i64 y5).wf = true) ∧ ((Lit.int .i64 y.2.2).wf = true)) := opens_G (opens_struct Try.underlying85 (by kernel_rfl) (opensF_cons rfl (by kernel_rfl) (opens_slice Try.underlying28 (by kernel_rfl) (by kernel_rfl) (opens_int Try.underlying3)) (opensF_cons rfl (by kernel_rfl) (opens_slice Try.underlying28 (by kernel_rfl) (by kernel_rfl) (opens_int Try.underlying3)) (opensF_one rfl (by kernel_rfl) (opens_int Try.underlying3))))) (fun _ h => h)
end Go.Proofs.Ytcappoimcdfggaa.PFnExactImageOk
