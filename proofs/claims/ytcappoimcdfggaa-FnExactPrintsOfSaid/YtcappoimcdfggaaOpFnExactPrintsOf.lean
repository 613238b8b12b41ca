/- The law FnExactPrintsOf, its arguments opened: what is left is a statement over numbers and lists alone (laws_FnExactPrintsOf.Says), under the bounds of the arguments' own types and sizes. -/
import Derived.Test.YtcappoimcdfggaaPFnExactPrintsOfx3
import Derived.Test.YtcappoimcdfggaaPFnExactPrintsOfx0
import Derived.Test.YtcappoimcdfggaaOpn
import Derived.KernelRfl
namespace Go.Proofs.Ytcappoimcdfggaa.PFnExactPrintsOf
open Go.RowKit Go.Proofs.YtcappoimcdfggaaW.PrintWords Go.Proofs.YtcappoimcdfggaaW.PrintLast Go.Proofs.Ytcappoimcdfggaa.Opn
set_option linter.unusedVariables false
def G98 (x : S98) : Prop := ((Lit.int .i64 x.f0).wf = true) ∧ ((Lit.int .i64 x.f1).wf = true) ∧ ((Lit.int .i64 x.f2).wf = true)
theorem op98 : Opens Try.prog 98 k98 G98 := opens_iso (fun y => ⟨y.1, y.2.1, y.2.2⟩) (fun _ => rfl) (opens_struct Try.underlying98 (by kernel_rfl) (opensF_cons rfl (by kernel_rfl) (opens_int Try.underlying3) (opensF_cons rfl (by kernel_rfl) (opens_int Try.underlying3) (opensF_one rfl (by kernel_rfl) (opens_int Try.underlying3)))))
def laws_FnExactPrintsOf.Says : Prop := ∀ (l0 : (List S98)), (l0.length ≤ maxLen ∧ l0.length * 24 ≤ 140737488351232 ∧ ∀ x ∈ l0, G98 x) → ∃ k, laws_FnExactPrintsOf.f k l0 = some true
set_option maxRecDepth 100000 in
theorem laws_FnExactPrintsOf.walks (P : laws_FnExactPrintsOf.Says) (w : World) (l0 : (List S98)) (v0 : Value) (hK0 : Kd.K (Kd.slice 98 k98) w l0 [v0]) (g0 : l0.length ≤ maxLen ∧ l0.length * 24 ≤ 140737488351232 ∧ ∀ x ∈ l0, G98 x) :
    Calls Try.prog 8 #[v0] w fun e w' => e = .returned (.bool true) ∧ Below w.heap.size w w' := by
  obtain ⟨k, h⟩ := P l0 g0
  obtain ⟨A0, c0, hv0, hc0, hr0⟩ := hK0
  obtain rfl : v0 = .slice A0 l0.length c0 := (List.cons.inj hv0).1
  refine (laws_FnExactPrintsOf.calls k _ _ l0 true w hr0 hc0 h).mono ?_
  rintro e w' ⟨rfl, hd⟩
  exact ⟨rfl, hd⟩
theorem laws_FnExactPrintsOf.open0 : Opens Try.prog 46 (Kd.slice 98 k98) (fun y => y.length ≤ maxLen ∧ y.length * 24 ≤ 140737488351232 ∧ ∀ x ∈ y, G98 x) := (opens_slice Try.underlying46 (by kernel_rfl) (by kernel_rfl) op98)
end Go.Proofs.Ytcappoimcdfggaa.PFnExactPrintsOf
