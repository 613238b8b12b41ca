/- The law FnExactDecode, its arguments opened: what is left is a statement over numbers and lists alone (laws_FnExactDecode.Says), under the bounds of the arguments' own types and sizes. -/
import Derived.Test.YtcappoimcdfggaaPFnExactDecodex2
import Derived.Test.YtcappoimcdfggaaPFnExactDecodex0
import Derived.Test.YtcappoimcdfggaaOpn
import Derived.KernelRfl
namespace Go.Proofs.Ytcappoimcdfggaa.PFnExactDecode
open Go.RowKit Go.Proofs.YtcappoimcdfggaaW.PrintWords Go.Proofs.YtcappoimcdfggaaW.PrintLast Go.Proofs.Ytcappoimcdfggaa.Opn
set_option linter.unusedVariables false
def laws_FnExactDecode.Says : Prop := ∀ (a0 : Int), ((Lit.int .i64 a0).wf = true) → ∃ k, laws_FnExactDecode.f k a0 = some true
set_option maxRecDepth 100000 in
theorem laws_FnExactDecode.walks (P : laws_FnExactDecode.Says) (w : World) (a0 : Int) (g0 : (Lit.int .i64 a0).wf = true) :
    Calls Try.prog 6 #[.int .i64 a0] w fun e w' => e = .returned (.bool true) ∧ Below w.heap.size w w' := by
  obtain ⟨k, h⟩ := P a0 g0
  refine (laws_FnExactDecode.calls k a0 true w  h).mono ?_
  rintro e w' ⟨rfl, hd⟩
  exact ⟨rfl, hd⟩
end Go.Proofs.Ytcappoimcdfggaa.PFnExactDecode
