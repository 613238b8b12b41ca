/- The law FnExactTouchOf, its arguments opened: what is left is a statement over numbers and lists alone (laws_FnExactTouchOf.Says), under the bounds of the arguments' own types and sizes. -/
import Derived.Test.YtcappoimcdfggaaPFnExactTouchOfx4
import Derived.Test.YtcappoimcdfggaaPFnExactTouchOfx0
import Derived.Test.YtcappoimcdfggaaOpn
import Derived.KernelRfl
namespace Go.Proofs.Ytcappoimcdfggaa.PFnExactTouchOf
open Go.RowKit Go.Proofs.YtcappoimcdfggaaW.PrintWords Go.Proofs.YtcappoimcdfggaaW.PrintLast Go.Proofs.Ytcappoimcdfggaa.Opn
set_option linter.unusedVariables false
def laws_FnExactTouchOf.Says : Prop := ∀ (l0 : (List Int)) (a1 : Int), (l0.length ≤ maxLen ∧ l0.length * 8 ≤ 140737488351232 ∧ ∀ x ∈ l0, (Lit.int .i64 x).wf = true) → ((Lit.int .i64 a1).wf = true) → ∃ k, laws_FnExactTouchOf.f k l0 a1 = some true
set_option maxRecDepth 100000 in
theorem laws_FnExactTouchOf.walks (P : laws_FnExactTouchOf.Says) (w : World) (l0 : (List Int)) (v0 : Value) (hK0 : Kd.K (Kd.slice 3 (Kd.int .i64)) w l0 [v0]) (a1 : Int) (g0 : l0.length ≤ maxLen ∧ l0.length * 8 ≤ 140737488351232 ∧ ∀ x ∈ l0, (Lit.int .i64 x).wf = true) (g1 : (Lit.int .i64 a1).wf = true) :
    Calls Try.prog 10 #[v0, .int .i64 a1] w fun e w' => e = .returned (.bool true) ∧ Below w.heap.size w w' := by
  obtain ⟨k, h⟩ := P l0 a1 g0 g1
  obtain ⟨A0, c0, hv0, hc0, hr0⟩ := hK0
  obtain rfl : v0 = .slice A0 l0.length c0 := (List.cons.inj hv0).1
  refine (laws_FnExactTouchOf.calls k _ _ l0 a1 true w hr0 hc0 h).mono ?_
  rintro e w' ⟨rfl, hd⟩
  exact ⟨rfl, hd⟩
theorem laws_FnExactTouchOf.open0 : Opens Try.prog 28 (Kd.slice 3 (Kd.int .i64)) (fun y => y.length ≤ maxLen ∧ y.length * 8 ≤ 140737488351232 ∧ ∀ x ∈ y, (Lit.int .i64 x).wf = true) := (opens_slice Try.underlying28 (by kernel_rfl) (by kernel_rfl) (opens_int Try.underlying3))
end Go.Proofs.Ytcappoimcdfggaa.PFnExactTouchOf
