/- The law FnExactCoreNew, its arguments opened: what is left is a statement over numbers and lists alone (laws_FnExactCoreNew.Says), under the bounds of the arguments' own types and sizes. -/
import Derived.Test.YtcappoimcdfggaaPFnExactCoreNewx1
import Derived.Test.YtcappoimcdfggaaPFnExactCoreNewx0
import Derived.Test.YtcappoimcdfggaaOpn
import Derived.KernelRfl
namespace Go.Proofs.Ytcappoimcdfggaa.PFnExactCoreNew
open Go.RowKit Go.Proofs.YtcappoimcdfggaaW.PrintWords Go.Proofs.YtcappoimcdfggaaW.PrintLast Go.Proofs.Ytcappoimcdfggaa.Opn
set_option linter.unusedVariables false
def laws_FnExactCoreNew.Says : Prop := ∃ k, laws_FnExactCoreNew.f k = some true
set_option maxRecDepth 100000 in
theorem laws_FnExactCoreNew.walks (P : laws_FnExactCoreNew.Says) (w : World)  :
    Calls Try.prog 4 #[] w fun e w' => e = .returned (.bool true) ∧ Below w.heap.size w w' := by
  obtain ⟨k, h⟩ := P  
  refine (laws_FnExactCoreNew.calls k  true w  h).mono ?_
  rintro e w' ⟨rfl, hd⟩
  exact ⟨rfl, hd⟩
end Go.Proofs.Ytcappoimcdfggaa.PFnExactCoreNew
