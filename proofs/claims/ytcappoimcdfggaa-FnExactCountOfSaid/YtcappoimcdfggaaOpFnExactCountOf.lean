/- The law FnExactCountOf, its arguments opened: what is left is a statement over numbers and lists alone (laws_FnExactCountOf.Says), under the bounds of the arguments' own types and sizes. -/
import Derived.Test.YtcappoimcdfggaaPFnExactCountOfx2
import Derived.Test.YtcappoimcdfggaaPFnExactCountOfx0
import Derived.Test.YtcappoimcdfggaaOpn
import Derived.KernelRfl
namespace Go.Proofs.Ytcappoimcdfggaa.PFnExactCountOf
open Go.RowKit Go.Proofs.YtcappoimcdfggaaW.PrintWords Go.Proofs.YtcappoimcdfggaaW.PrintLast Go.Proofs.Ytcappoimcdfggaa.Opn
set_option linter.unusedVariables false
def G23 (x : S23) : Prop := ((Lit.int .i64 x.f0).wf = true) ∧ ((Lit.int .i64 x.f1).wf = true) ∧ ((Lit.int .i64 x.f2).wf = true) ∧ ((Lit.int .i64 x.f3).wf = true)
theorem op23 : Opens Try.prog 23 k23 G23 := opens_iso (fun y => ⟨y.1, y.2.1, y.2.2.1, y.2.2.2⟩) (fun _ => rfl) (opens_struct Try.underlying23 (by kernel_rfl) (opensF_cons rfl (by kernel_rfl) (opens_int Try.underlying3) (opensF_cons rfl (by kernel_rfl) (opens_int Try.underlying3) (opensF_cons rfl (by kernel_rfl) (opens_int Try.underlying3) (opensF_one rfl (by kernel_rfl) (opens_int Try.underlying3))))))
def G102 (x : S102) : Prop := (x.f0.size ≤ 140737488351232) ∧ (G23 x.f1) ∧ (x.f2.size ≤ 140737488351232)
theorem op102 : Opens Try.prog 102 k102 G102 := opens_iso (fun y => ⟨y.1, y.2.1, y.2.2⟩) (fun _ => rfl) (opens_struct Try.underlying102 (by kernel_rfl) (opensF_cons rfl (by kernel_rfl) (opens_string Try.underlying9) (opensF_cons rfl (by kernel_rfl) op23 (opensF_one rfl (by kernel_rfl) (opens_string Try.underlying9)))))
def laws_FnExactCountOf.Says : Prop := ∀ (l0 : (List S102)), (l0.length ≤ maxLen ∧ l0.length * 64 ≤ 140737488351232 ∧ ∀ x ∈ l0, G102 x) → ∃ k, laws_FnExactCountOf.f k l0 = some true
set_option maxRecDepth 100000 in
theorem laws_FnExactCountOf.walks (P : laws_FnExactCountOf.Says) (w : World) (l0 : (List S102)) (v0 : Value) (hK0 : Kd.K (Kd.slice 102 k102) w l0 [v0]) (g0 : l0.length ≤ maxLen ∧ l0.length * 64 ≤ 140737488351232 ∧ ∀ x ∈ l0, G102 x) :
    Calls Try.prog 9 #[v0] w fun e w' => e = .returned (.bool true) ∧ Below w.heap.size w w' := by
  obtain ⟨k, h⟩ := P l0 g0
  obtain ⟨A0, c0, hv0, hc0, hr0⟩ := hK0
  obtain rfl : v0 = .slice A0 l0.length c0 := (List.cons.inj hv0).1
  refine (laws_FnExactCountOf.calls k _ _ l0 true w hr0 hc0 h).mono ?_
  rintro e w' ⟨rfl, hd⟩
  exact ⟨rfl, hd⟩
theorem laws_FnExactCountOf.open0 : Opens Try.prog 56 (Kd.slice 102 k102) (fun y => y.length ≤ maxLen ∧ y.length * 64 ≤ 140737488351232 ∧ ∀ x ∈ y, G102 x) := (opens_slice Try.underlying56 (by kernel_rfl) (by kernel_rfl) op102)
end Go.Proofs.Ytcappoimcdfggaa.PFnExactCountOf
