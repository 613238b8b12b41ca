import Derived.Test.YtldmpjoddghdkaaAMark
namespace Go.Proofs.Ytldmpjoddghdkaa.AI
set_option linter.all false
open Go.RowKit
set_option autoImplicit false
set_option linter.unusedVariables false
set_option linter.unusedSimpArgs false
theorem getRow {α : Type} (f : α → List AV) (xs : List α) {i : Nat} (h : i < xs.length) : (xs.map f).getD i [] = f xs[i] := by simp [List.getD_eq_getElem?_getD, h]
theorem wrapI {n : Int} (h1 : -9223372036854775808 ≤ n) (h2 : n < 9223372036854775808) : IntKind.wrap .i64 n = n := by
  simp [IntKind.wrap, IntKind.bits, IntKind.signed]; omega
def byvS (G : ByV) (args : List AV) (hp : Hp) : Option (AV × Hp) :=
  match mapO (packR 5 hp) args with
  | none => none
  | some ps => match G.sem ps with | none => none | some (v, _) => some (unown v hp)
theorem callS_byv {G : ByV} (h1 : G.mt = none) (h2 : G.ro = false) (args : List AV) (hp : Hp) : callS (.byv G) args hp = byvS G args hp := by
  simp only [callS, byvS, h1, h2, Bool.false_eq_true, if_false]
  rfl
end Go.Proofs.Ytldmpjoddghdkaa.AI
