/- The law FnExactPlaceIn, its arguments opened: what is left is a statement over numbers and lists alone (laws_FnExactPlaceIn.Says), under the bounds of the arguments' own types and sizes. -/
import Derived.Test.YtcappoimcdfggaaPFnExactPlaceInx3
import Derived.Test.YtcappoimcdfggaaPFnExactPlaceInx0
import Derived.Test.YtcappoimcdfggaaOpn
import Derived.KernelRfl
namespace Go.Proofs.Ytcappoimcdfggaa.PFnExactPlaceIn
open Go.RowKit Go.Proofs.YtcappoimcdfggaaW.PrintWords Go.Proofs.YtcappoimcdfggaaW.PrintLast Go.Proofs.Ytcappoimcdfggaa.Opn
set_option linter.unusedVariables false
def laws_FnExactPlaceIn.Says : Prop := ∀ (l0_0 : (List ByteArray)) (l0_1 : (List Int)) (a1 : ByteArray), (l0_0.length ≤ maxLen ∧ l0_0.length * 16 ≤ 140737488351232 ∧ ∀ x ∈ l0_0, x.size ≤ 140737488351232) → (l0_1.length ≤ maxLen ∧ l0_1.length * 8 ≤ 140737488351232 ∧ ∀ x ∈ l0_1, (Lit.int .i64 x).wf = true) → (a1.size ≤ 140737488351232) → ∃ k, laws_FnExactPlaceIn.f k l0_0 l0_1 a1 = some true
set_option maxRecDepth 100000 in
theorem laws_FnExactPlaceIn.walks (P : laws_FnExactPlaceIn.Says) (w : World) (l0_0 : (List ByteArray)) (l0_1 : (List Int)) (cs0 : List Value) (hK0 : Kd.K (Kd.pair (Kd.slice 9 Kd.string) (Kd.slice 3 (Kd.int .i64))) w (l0_0, l0_1) cs0) (a1 : ByteArray) (g0_0 : l0_0.length ≤ maxLen ∧ l0_0.length * 16 ≤ 140737488351232 ∧ ∀ x ∈ l0_0, x.size ≤ 140737488351232) (g0_1 : l0_1.length ≤ maxLen ∧ l0_1.length * 8 ≤ 140737488351232 ∧ ∀ x ∈ l0_1, (Lit.int .i64 x).wf = true) (g1 : a1.size ≤ 140737488351232) :
    Calls Try.prog 11 #[.agg ⟨cs0⟩, .string a1] w fun e w' => e = .returned (.bool true) ∧ Below w.heap.size w w' := by
  obtain ⟨k, h⟩ := P l0_0 l0_1 a1 g0_0 g0_1 g1
  obtain ⟨_, _, rfl, ⟨A0_0, c0_0, rfl, hc0_0, hr0_0⟩, ⟨A0_1, c0_1, rfl, hc0_1, hr0_1⟩⟩ := hK0
  refine (laws_FnExactPlaceIn.calls k _ _ l0_0 _ _ l0_1 a1 true w hr0_0 hc0_0 hr0_1 hc0_1 h).mono ?_
  rintro e w' ⟨rfl, hd⟩
  exact ⟨rfl, hd⟩
theorem laws_FnExactPlaceIn.open0 : Opens Try.prog 67 (Kd.pair (Kd.slice 9 Kd.string) (Kd.slice 3 (Kd.int .i64))) (fun y => (y.1.length ≤ maxLen ∧ y.1.length * 16 ≤ 140737488351232 ∧ ∀ x ∈ y.1, x.size ≤ 140737488351232) ∧ (y.2.length ≤ maxLen ∧ y.2.length * 8 ≤ 140737488351232 ∧ ∀ x ∈ y.2, (Lit.int .i64 x).wf = true)) := opens_G (opens_struct Try.underlying67 (by kernel_rfl) (opensF_cons rfl (by kernel_rfl) (opens_slice Try.underlying65 (by kernel_rfl) (by kernel_rfl) (opens_string Try.underlying9)) (opensF_one rfl (by kernel_rfl) (opens_slice Try.underlying28 (by kernel_rfl) (by kernel_rfl) (opens_int Try.underlying3))))) (fun _ h => h)
end Go.Proofs.Ytcappoimcdfggaa.PFnExactPlaceIn
