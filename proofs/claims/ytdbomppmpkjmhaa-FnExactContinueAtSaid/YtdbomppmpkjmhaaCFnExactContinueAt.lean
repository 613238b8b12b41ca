/- The functions that the law FnExactContinueAt reaches, in the reckoner's words. -/
import Derived.Test.YtdbomppmpkjmhaaAOpen2
import Derived.Test.YtdbomppmpkjmhaaChecked
import Derived.ProofKit
namespace Go.Proofs.Ytdbomppmpkjmhaa.AI
open Go.Proofs
set_option linter.all false
set_option maxRecDepth 100000
/- 78 laws_szIntS calls []  -/
def F_laws_szIntS : RF := ⟨12, 2, [.t 4],
  .seq (.reg [⟨some 4, none, .mv (.c (.int .i64 0))⟩]) (.seq (.reg [⟨some 5, none, .mv (.t 1)⟩, ⟨some 6, none, .mv (.t 0)⟩, ⟨some 7, none, .len false (.t 6)⟩, ⟨some 8, none, .bin .sub (.t 5) (.t 7)⟩, ⟨some 1, none, .mv (.t 8)⟩]) (.seq (.seq (.reg [⟨some 9, none, .mv (.t 1)⟩, ⟨some 10, none, .bin .lss (.t 9) (.c (.int .i64 0))⟩]) (.cond (.t 10) (.seq (.reg [⟨some 4, none, .mv (.c (.int .i64 (-1)))⟩]) (.ret)) (.skip))) (.seq (.reg [⟨some 11, none, .mv (.t 1)⟩, ⟨some 4, none, .mv (.t 11)⟩]) (.ret))))⟩
def K_laws_szIntS : Keeps := []
theorem r_laws_szIntS : resolveF Try.prog Try.f78 K_laws_szIntS = some F_laws_szIntS := by kernel_rfl
noncomputable def X_laws_szIntS : Ctx := fun _ => none
theorem co_laws_szIntS : CtxOk Try.prog X_laws_szIntS := CtxOk.nil
theorem cx_laws_szIntS : True := trivial
noncomputable def S_laws_szIntS : ByV := ⟨none, false, semF X_laws_szIntS F_laws_szIntS none false⟩
noncomputable def G_laws_szIntS : CK := .byv S_laws_szIntS
theorem sg_laws_szIntS (args : List AV) : S_laws_szIntS.sem args = semF X_laws_szIntS F_laws_szIntS none false args := rfl
theorem cl_laws_szIntS (args : List AV) (hp : Hp) : callS G_laws_szIntS args hp = byvS S_laws_szIntS args hp := callS_byv rfl rfl args hp
theorem ok_laws_szIntS : InlOk Try.prog 78 (callS G_laws_szIntS) := byv_none co_laws_szIntS Try.func78 r_laws_szIntS rfl (fun _ _ h => h)
/- 19 laws_szGate calls [laws_szIntS]  -/
def F_laws_szGate : RF := ⟨18, 2, [.t 4],
  .seq (.reg [⟨some 2, none, .box (.t 0)⟩, ⟨some 4, none, .mv (.c (.int .i64 0))⟩]) (.seq (.reg [⟨some 5, none, .fa 1 (.t 2)⟩, ⟨some 6, none, .ld 1 false (.t 5)⟩, ⟨some 7, none, .mv (.t 1)⟩, ⟨some 8, none, .call 78 [(.t 6), (.t 7)]⟩, ⟨some 1, none, .mv (.t 8)⟩]) (.seq (.seq (.reg [⟨some 9, none, .mv (.t 1)⟩, ⟨some 10, none, .bin .lss (.t 9) (.c (.int .i64 0))⟩]) (.cond (.t 10) (.seq (.reg [⟨some 4, none, .mv (.c (.int .i64 (-1)))⟩]) (.ret)) (.skip))) (.seq (.reg [⟨some 11, none, .fa 2 (.t 2)⟩, ⟨some 12, none, .ld 1 false (.t 11)⟩, ⟨some 13, none, .mv (.t 1)⟩, ⟨some 14, none, .call 78 [(.t 12), (.t 13)]⟩, ⟨some 1, none, .mv (.t 14)⟩]) (.seq (.seq (.reg [⟨some 15, none, .mv (.t 1)⟩, ⟨some 16, none, .bin .lss (.t 15) (.c (.int .i64 0))⟩]) (.cond (.t 16) (.seq (.reg [⟨some 4, none, .mv (.c (.int .i64 (-1)))⟩]) (.ret)) (.skip))) (.seq (.reg [⟨some 17, none, .mv (.t 1)⟩, ⟨some 4, none, .mv (.t 17)⟩]) (.ret))))))⟩
def K_laws_szGate : Keeps := []
theorem r_laws_szGate : resolveF Try.prog Try.f19 K_laws_szGate = some F_laws_szGate := by kernel_rfl
noncomputable def X_laws_szGate : Ctx := Ctx.cons 78 G_laws_szIntS (fun _ => none)
theorem co_laws_szGate : CtxOk Try.prog X_laws_szGate := CtxOk.cons (CtxOk.nil) ok_laws_szIntS
theorem cx_laws_szGate : ((∀ args hp, callX X_laws_szGate 78 args hp = callS G_laws_szIntS args hp) ∧ (trC (X_laws_szGate 78) = false)) := ⟨fun _ _ => rfl, rfl⟩
noncomputable def S_laws_szGate : ByV := ⟨none, false, semF X_laws_szGate F_laws_szGate none false⟩
noncomputable def G_laws_szGate : CK := .byv S_laws_szGate
theorem sg_laws_szGate (args : List AV) : S_laws_szGate.sem args = semF X_laws_szGate F_laws_szGate none false args := rfl
theorem cl_laws_szGate (args : List AV) (hp : Hp) : callS G_laws_szGate args hp = byvS S_laws_szGate args hp := callS_byv rfl rfl args hp
theorem ok_laws_szGate : InlOk Try.prog 19 (callS G_laws_szGate) := byv_none co_laws_szGate Try.func19 r_laws_szGate rfl (fun _ _ h => h)
/- 82 laws_toIntS calls []  -/
def B0_laws_toIntS : RC :=
  .seq (.seq (.reg [⟨some 8, none, .mv (.t 4)⟩, ⟨some 9, none, .mv (.t 0)⟩, ⟨some 10, none, .len false (.t 9)⟩, ⟨some 11, none, .bin .lss (.t 8) (.t 10)⟩]) (.cond (.t 11) (.skip) (.exit 0))) (.seq (.block 1 (.reg [⟨some 14, none, .mv (.t 3)⟩, ⟨some 15, none, .mv (.t 4)⟩, ⟨some 16, none, .mv (.t 0)⟩, ⟨some 17, none, .mv (.t 4)⟩, ⟨some 18, none, .ia 1 (.t 16) (.t 17)⟩, ⟨some 19, none, .ld 1 false (.t 18)⟩, ⟨some 20, none, .ia 1 (.t 14) (.t 15)⟩, ⟨none, none, .st 1 (.t 20) (.t 19)⟩])) (.reg [⟨some 12, none, .mv (.t 4)⟩, ⟨some 13, none, .bin .add (.t 12) (.c (.int .i64 1))⟩, ⟨some 4, none, .mv (.t 13)⟩]))
def F_laws_toIntS : RF := ⟨22, 1, [.t 2],
  .seq (.reg [⟨some 2, none, .mv (.c (.nil 1))⟩]) (.seq (.reg [⟨some 5, none, .mv (.t 0)⟩, ⟨some 6, none, .len false (.t 5)⟩, ⟨some 7, none, .mk 1 [(.int .i64 0)] 8 (.t 6) (.t 6)⟩, ⟨some 3, none, .mv (.t 7)⟩]) (.seq (.seq (.reg [⟨some 4, none, .mv (.c (.int .i64 0))⟩]) (.block 0 (.loop [0, 3, 4] [(1, [3])] B0_laws_toIntS))) (.seq (.reg [⟨some 21, none, .mv (.t 3)⟩, ⟨some 2, none, .mv (.t 21)⟩]) (.ret))))⟩
def K_laws_toIntS : Keeps := [([0, 3, 4], [(1, [3])])]
theorem r_laws_toIntS : resolveF Try.prog Try.f82 K_laws_toIntS = some F_laws_toIntS := by kernel_rfl
noncomputable def X_laws_toIntS : Ctx := fun _ => none
theorem co_laws_toIntS : CtxOk Try.prog X_laws_toIntS := CtxOk.nil
theorem cx_laws_toIntS : True := trivial
noncomputable def S_laws_toIntS : ByV := ⟨none, false, semF X_laws_toIntS F_laws_toIntS none false⟩
noncomputable def G_laws_toIntS : CK := .byv S_laws_toIntS
theorem sg_laws_toIntS (args : List AV) : S_laws_toIntS.sem args = semF X_laws_toIntS F_laws_toIntS none false args := rfl
theorem cl_laws_toIntS (args : List AV) (hp : Hp) : callS G_laws_toIntS args hp = byvS S_laws_toIntS args hp := callS_byv rfl rfl args hp
theorem ok_laws_toIntS : InlOk Try.prog 82 (callS G_laws_toIntS) := byv_none co_laws_toIntS Try.func82 r_laws_toIntS rfl (fun _ _ h => h)
/- 21 laws_toGate calls [laws_toIntS]  -/
def F_laws_toGate : RF := ⟨16, 1, [.cell 2 3 true],
  .seq (.reg [⟨some 1, none, .box (.t 0)⟩, ⟨some 2, none, .new [(.int .i64 0), (.nil 1), (.nil 1)]⟩]) (.seq (.reg [⟨some 3, none, .new [(.int .i64 0), (.nil 1), (.nil 1)]⟩]) (.seq (.reg [⟨some 4, none, .fa 0 (.t 1)⟩, ⟨some 5, none, .ld 1 false (.t 4)⟩, ⟨some 6, none, .fa 0 (.t 3)⟩, ⟨none, none, .st 1 (.t 6) (.t 5)⟩]) (.seq (.reg [⟨some 7, none, .fa 1 (.t 1)⟩, ⟨some 8, none, .ld 1 false (.t 7)⟩, ⟨some 9, none, .call 82 [(.t 8)]⟩, ⟨some 10, none, .fa 1 (.t 3)⟩, ⟨none, none, .st 1 (.t 10) (.t 9)⟩]) (.seq (.reg [⟨some 11, none, .fa 2 (.t 1)⟩, ⟨some 12, none, .ld 1 false (.t 11)⟩, ⟨some 13, none, .call 82 [(.t 12)]⟩, ⟨some 14, none, .fa 2 (.t 3)⟩, ⟨none, none, .st 1 (.t 14) (.t 13)⟩]) (.seq (.reg [⟨some 15, none, .ld 3 true (.t 3)⟩, ⟨none, none, .st 3 (.t 2) (.t 15)⟩]) (.ret))))))⟩
def K_laws_toGate : Keeps := []
theorem r_laws_toGate : resolveF Try.prog Try.f21 K_laws_toGate = some F_laws_toGate := by kernel_rfl
noncomputable def X_laws_toGate : Ctx := Ctx.cons 82 G_laws_toIntS (fun _ => none)
theorem co_laws_toGate : CtxOk Try.prog X_laws_toGate := CtxOk.cons (CtxOk.nil) ok_laws_toIntS
theorem cx_laws_toGate : ((∀ args hp, callX X_laws_toGate 82 args hp = callS G_laws_toIntS args hp) ∧ (trC (X_laws_toGate 82) = false)) := ⟨fun _ _ => rfl, rfl⟩
noncomputable def S_laws_toGate : ByV := ⟨none, false, semF X_laws_toGate F_laws_toGate none false⟩
noncomputable def G_laws_toGate : CK := .byv S_laws_toGate
theorem sg_laws_toGate (args : List AV) : S_laws_toGate.sem args = semF X_laws_toGate F_laws_toGate none false args := rfl
theorem cl_laws_toGate (args : List AV) (hp : Hp) : callS G_laws_toGate args hp = byvS S_laws_toGate args hp := callS_byv rfl rfl args hp
theorem ok_laws_toGate : InlOk Try.prog 21 (callS G_laws_toGate) := byv_none co_laws_toGate Try.func21 r_laws_toGate rfl (fun _ _ h => h)
/- 79 spec_l12Copy calls []  -/
def F_spec_l12Copy : RF := ⟨14, 1, [.cell 2 3 true],
  .seq (.reg [⟨some 1, none, .box (.t 0)⟩, ⟨some 2, none, .new [(.int .i64 0), (.nil 1), (.nil 1)]⟩]) (.seq (.regd [(0, ⟨some 3, none, .fa 0 (.t 1)⟩), (2, ⟨some 4, none, .ld 1 false (.t 3)⟩), (2, ⟨some 5, none, .bsl 1 []⟩), (0, ⟨some 6, none, .fa 1 (.t 1)⟩), (2, ⟨some 7, none, .ld 1 false (.t 6)⟩), (2, ⟨some 8, none, .app true 1 8 (.t 5) (.t 7)⟩), (2, ⟨some 9, none, .bsl 1 []⟩), (0, ⟨some 10, none, .fa 2 (.t 1)⟩), (2, ⟨some 11, none, .ld 1 false (.t 10)⟩), (2, ⟨some 12, none, .app true 1 8 (.t 9) (.t 11)⟩), (0, ⟨some 13, none, .build [(.int .i64 0), (.nil 1), (.nil 1)] [(0, 1, (.t 4)), (1, 1, (.t 8)), (2, 1, (.t 12))]⟩), (1, ⟨none, none, .st 3 (.t 2) (.t 13)⟩)] [(1, 2), (2, 4), (1, 5), (1, 6), (2, 6), (4, 6), (5, 6), (2, 8), (5, 8), (6, 8), (1, 9)]) (.ret))⟩
def K_spec_l12Copy : Keeps := []
theorem r_spec_l12Copy : resolveF Try.prog Try.f79 K_spec_l12Copy = some F_spec_l12Copy := by kernel_rfl
noncomputable def X_spec_l12Copy : Ctx := fun _ => none
theorem co_spec_l12Copy : CtxOk Try.prog X_spec_l12Copy := CtxOk.nil
theorem cx_spec_l12Copy : True := trivial
noncomputable def S_spec_l12Copy : ByV := ⟨none, false, semF X_spec_l12Copy F_spec_l12Copy none false⟩
noncomputable def G_spec_l12Copy : CK := .byv S_spec_l12Copy
theorem sg_spec_l12Copy (args : List AV) : S_spec_l12Copy.sem args = semF X_spec_l12Copy F_spec_l12Copy none false args := rfl
theorem cl_spec_l12Copy (args : List AV) (hp : Hp) : callS G_spec_l12Copy args hp = byvS S_spec_l12Copy args hp := callS_byv rfl rfl args hp
theorem ok_spec_l12Copy : InlOk Try.prog 79 (callS G_spec_l12Copy) := byv_none co_spec_l12Copy Try.func79 r_spec_l12Copy rfl (fun _ _ h => h)
/- 70 spec_l01In calls []  -/
def F_spec_l01In : RF := ⟨15, 3, [.t 6],
  .seq (.reg [⟨some 6, none, .mv (.c (.bool false))⟩]) (.seq (.reg [⟨some 7, none, .mv (.t 0)⟩, ⟨some 8, none, .mv (.t 1)⟩, ⟨some 9, none, .bin .geq (.t 7) (.t 8)⟩, ⟨some 10, none, .mv (.t 9)⟩, ⟨some 11, some (10, true), .mv (.t 0)⟩, ⟨some 12, some (10, true), .mv (.t 2)⟩, ⟨some 13, some (10, true), .bin .leq (.t 11) (.t 12)⟩, ⟨some 14, none, .pick (.t 10) (.t 13) (.c (.bool false))⟩, ⟨some 6, none, .mv (.t 14)⟩]) (.ret))⟩
def K_spec_l01In : Keeps := []
theorem r_spec_l01In : resolveF Try.prog Try.f70 K_spec_l01In = some F_spec_l01In := by kernel_rfl
noncomputable def X_spec_l01In : Ctx := fun _ => none
theorem co_spec_l01In : CtxOk Try.prog X_spec_l01In := CtxOk.nil
theorem cx_spec_l01In : True := trivial
noncomputable def S_spec_l01In : ByV := ⟨none, false, semF X_spec_l01In F_spec_l01In none false⟩
noncomputable def G_spec_l01In : CK := .byv S_spec_l01In
theorem sg_spec_l01In (args : List AV) : S_spec_l01In.sem args = semF X_spec_l01In F_spec_l01In none false args := rfl
theorem cl_spec_l01In (args : List AV) (hp : Hp) : callS G_spec_l01In args hp = byvS S_spec_l01In args hp := callS_byv rfl rfl args hp
theorem ok_spec_l01In : InlOk Try.prog 70 (callS G_spec_l01In) := byv_none co_spec_l01In Try.func70 r_spec_l01In rfl (fun _ _ h => h)
/- 81 spec_l12In calls []  -/
def B0_spec_l12In : RC :=
  .seq (.seq (.reg [⟨some 6, none, .mv (.t 5)⟩, ⟨some 7, none, .mv (.t 0)⟩, ⟨some 8, none, .len false (.t 7)⟩, ⟨some 9, none, .bin .lss (.t 6) (.t 8)⟩]) (.cond (.t 9) (.skip) (.exit 0))) (.seq (.block 1 (.seq (.reg [⟨some 12, none, .mv (.t 0)⟩, ⟨some 13, none, .mv (.t 5)⟩, ⟨some 14, none, .ia 1 (.t 12) (.t 13)⟩, ⟨some 15, none, .ld 1 false (.t 14)⟩, ⟨some 16, none, .mv (.t 1)⟩, ⟨some 17, none, .bin .eql (.t 15) (.t 16)⟩]) (.cond (.t 17) (.seq (.reg [⟨some 4, none, .mv (.c (.bool true))⟩]) (.ret)) (.skip)))) (.reg [⟨some 10, none, .mv (.t 5)⟩, ⟨some 11, none, .bin .add (.t 10) (.c (.int .i64 1))⟩, ⟨some 5, none, .mv (.t 11)⟩]))
def F_spec_l12In : RF := ⟨18, 2, [.t 4],
  .seq (.reg [⟨some 4, none, .mv (.c (.bool false))⟩]) (.seq (.seq (.reg [⟨some 5, none, .mv (.c (.int .i64 0))⟩]) (.block 0 (.loop [0, 1, 5] [(1, []), (0, [4])] B0_spec_l12In))) (.seq (.reg [⟨some 4, none, .mv (.c (.bool false))⟩]) (.ret)))⟩
def K_spec_l12In : Keeps := [([0, 1, 5], [(1, []), (0, [4])])]
theorem r_spec_l12In : resolveF Try.prog Try.f81 K_spec_l12In = some F_spec_l12In := by kernel_rfl
noncomputable def X_spec_l12In : Ctx := fun _ => none
theorem co_spec_l12In : CtxOk Try.prog X_spec_l12In := CtxOk.nil
theorem cx_spec_l12In : True := trivial
noncomputable def S_spec_l12In : ByV := ⟨none, false, semF X_spec_l12In F_spec_l12In none false⟩
noncomputable def G_spec_l12In : CK := .byv S_spec_l12In
theorem sg_spec_l12In (args : List AV) : S_spec_l12In.sem args = semF X_spec_l12In F_spec_l12In none false args := rfl
theorem cl_spec_l12In (args : List AV) (hp : Hp) : callS G_spec_l12In args hp = byvS S_spec_l12In args hp := callS_byv rfl rfl args hp
theorem ok_spec_l12In : InlOk Try.prog 81 (callS G_spec_l12In) := byv_none co_spec_l12In Try.func81 r_spec_l12In rfl (fun _ _ h => h)
/- 80 spec_GateOk calls [spec_l01In, spec_l12In]  -/
def B0_spec_GateOk : RC :=
  .seq (.seq (.reg [⟨some 36, none, .mv (.t 4)⟩, ⟨some 37, none, .fa 1 (.t 1)⟩, ⟨some 38, none, .ld 1 false (.t 37)⟩, ⟨some 39, none, .len false (.t 38)⟩, ⟨some 40, none, .bin .lss (.t 36) (.t 39)⟩]) (.cond (.t 40) (.skip) (.exit 0))) (.seq (.block 1 (.seq (.seq (.reg [⟨some 43, none, .fa 1 (.t 1)⟩, ⟨some 44, none, .ld 1 false (.t 43)⟩, ⟨some 45, none, .mv (.t 4)⟩, ⟨some 46, none, .ia 1 (.t 44) (.t 45)⟩, ⟨some 47, none, .ld 1 false (.t 46)⟩, ⟨some 48, none, .call 70 [(.t 47), (.c (.int .i64 0)), (.c (.int .i64 3))]⟩, ⟨some 49, none, .un .not (.t 48)⟩, ⟨some 50, none, .mv (.t 49)⟩, ⟨some 51, some (50, false), .mv (.t 3)⟩, ⟨some 52, some (50, false), .fa 1 (.t 1)⟩, ⟨some 53, some (50, false), .ld 1 false (.t 52)⟩, ⟨some 54, some (50, false), .mv (.t 4)⟩, ⟨some 55, some (50, false), .ia 1 (.t 53) (.t 54)⟩, ⟨some 56, some (50, false), .ld 1 false (.t 55)⟩, ⟨some 57, some (50, false), .call 81 [(.t 51), (.t 56)]⟩, ⟨some 58, none, .pick (.t 50) (.c (.bool true)) (.t 57)⟩]) (.cond (.t 58) (.seq (.reg [⟨some 2, none, .mv (.c (.bool false))⟩]) (.ret)) (.skip))) (.reg [⟨some 59, none, .mv (.t 3)⟩, ⟨some 60, none, .fa 1 (.t 1)⟩, ⟨some 61, none, .ld 1 false (.t 60)⟩, ⟨some 62, none, .mv (.t 4)⟩, ⟨some 63, none, .ia 1 (.t 61) (.t 62)⟩, ⟨some 64, none, .ld 1 false (.t 63)⟩, ⟨some 65, none, .bsl 1 [(.t 64)]⟩, ⟨some 66, none, .app true 1 8 (.t 59) (.t 65)⟩, ⟨some 3, none, .mv (.t 66)⟩]))) (.reg [⟨some 41, none, .mv (.t 4)⟩, ⟨some 42, none, .bin .add (.t 41) (.c (.int .i64 1))⟩, ⟨some 4, none, .mv (.t 42)⟩]))
def B1_spec_GateOk : RC :=
  .seq (.seq (.reg [⟨some 67, none, .mv (.t 5)⟩, ⟨some 68, none, .fa 2 (.t 1)⟩, ⟨some 69, none, .ld 1 false (.t 68)⟩, ⟨some 70, none, .len false (.t 69)⟩, ⟨some 71, none, .bin .lss (.t 67) (.t 70)⟩]) (.cond (.t 71) (.skip) (.exit 2))) (.seq (.block 3 (.seq (.seq (.reg [⟨some 74, none, .fa 2 (.t 1)⟩, ⟨some 75, none, .ld 1 false (.t 74)⟩, ⟨some 76, none, .mv (.t 5)⟩, ⟨some 77, none, .ia 1 (.t 75) (.t 76)⟩, ⟨some 78, none, .ld 1 false (.t 77)⟩, ⟨some 79, none, .call 70 [(.t 78), (.c (.int .i64 (-1))), (.c (.int .i64 3))]⟩, ⟨some 80, none, .un .not (.t 79)⟩, ⟨some 81, none, .mv (.t 80)⟩, ⟨some 82, some (81, false), .fa 2 (.t 1)⟩, ⟨some 83, some (81, false), .ld 1 false (.t 82)⟩, ⟨some 84, some (81, false), .mv (.t 5)⟩, ⟨some 85, some (81, false), .ia 1 (.t 83) (.t 84)⟩, ⟨some 86, some (81, false), .ld 1 false (.t 85)⟩, ⟨some 87, some (81, false), .bin .geq (.t 86) (.c (.int .i64 0))⟩, ⟨some 88, some (81, false), .mv (.t 87)⟩, ⟨some 89, some (88, true), .mv (.t 3)⟩, ⟨some 90, some (88, true), .fa 2 (.t 1)⟩, ⟨some 91, some (88, true), .ld 1 false (.t 90)⟩, ⟨some 92, some (88, true), .mv (.t 5)⟩, ⟨some 93, some (88, true), .ia 1 (.t 91) (.t 92)⟩, ⟨some 94, some (88, true), .ld 1 false (.t 93)⟩, ⟨some 95, some (88, true), .call 81 [(.t 89), (.t 94)]⟩, ⟨some 96, some (81, false), .pick (.t 88) (.t 95) (.c (.bool false))⟩, ⟨some 97, none, .pick (.t 81) (.c (.bool true)) (.t 96)⟩]) (.cond (.t 97) (.seq (.reg [⟨some 2, none, .mv (.c (.bool false))⟩]) (.ret)) (.skip))) (.reg [⟨some 98, none, .mv (.t 3)⟩, ⟨some 99, none, .fa 2 (.t 1)⟩, ⟨some 100, none, .ld 1 false (.t 99)⟩, ⟨some 101, none, .mv (.t 5)⟩, ⟨some 102, none, .ia 1 (.t 100) (.t 101)⟩, ⟨some 103, none, .ld 1 false (.t 102)⟩, ⟨some 104, none, .bsl 1 [(.t 103)]⟩, ⟨some 105, none, .app true 1 8 (.t 98) (.t 104)⟩, ⟨some 3, none, .mv (.t 105)⟩]))) (.reg [⟨some 72, none, .mv (.t 5)⟩, ⟨some 73, none, .bin .add (.t 72) (.c (.int .i64 1))⟩, ⟨some 5, none, .mv (.t 73)⟩]))
def F_spec_GateOk : RF := ⟨106, 1, [.t 2],
  .seq (.reg [⟨some 1, none, .box (.t 0)⟩, ⟨some 2, none, .mv (.c (.bool false))⟩]) (.seq (.seq (.reg [⟨some 6, none, .fa 0 (.t 1)⟩, ⟨some 7, none, .ld 1 false (.t 6)⟩, ⟨some 8, none, .call 70 [(.t 7), (.c (.int .i64 (-1))), (.c (.int .i64 3))]⟩, ⟨some 9, none, .un .not (.t 8)⟩, ⟨some 10, none, .mv (.t 9)⟩, ⟨some 11, some (10, false), .fa 2 (.t 1)⟩, ⟨some 12, some (10, false), .ld 1 false (.t 11)⟩, ⟨some 13, some (10, false), .len false (.t 12)⟩, ⟨some 14, some (10, false), .bin .gtr (.t 13) (.c (.int .i64 2))⟩, ⟨some 15, none, .pick (.t 10) (.c (.bool true)) (.t 14)⟩, ⟨some 16, none, .mv (.t 15)⟩, ⟨some 17, some (16, false), .fa 0 (.t 1)⟩, ⟨some 18, some (16, false), .ld 1 false (.t 17)⟩, ⟨some 19, some (16, false), .bin .lss (.t 18) (.c (.int .i64 0))⟩, ⟨some 20, some (16, false), .mv (.t 19)⟩, ⟨some 21, some (20, true), .fa 1 (.t 1)⟩, ⟨some 22, some (20, true), .ld 1 false (.t 21)⟩, ⟨some 23, some (20, true), .len false (.t 22)⟩, ⟨some 24, some (20, true), .bin .gtr (.t 23) (.c (.int .i64 0))⟩, ⟨some 25, some (16, false), .pick (.t 20) (.t 24) (.c (.bool false))⟩, ⟨some 26, none, .pick (.t 16) (.c (.bool true)) (.t 25)⟩]) (.cond (.t 26) (.seq (.reg [⟨some 2, none, .mv (.c (.bool false))⟩]) (.ret)) (.skip))) (.seq (.reg [⟨some 27, none, .bsl 1 []⟩, ⟨some 3, none, .mv (.t 27)⟩]) (.seq (.seq (.reg [⟨some 28, none, .fa 0 (.t 1)⟩, ⟨some 29, none, .ld 1 false (.t 28)⟩, ⟨some 30, none, .bin .geq (.t 29) (.c (.int .i64 0))⟩]) (.cond (.t 30) (.reg [⟨some 31, none, .mv (.t 3)⟩, ⟨some 32, none, .fa 0 (.t 1)⟩, ⟨some 33, none, .ld 1 false (.t 32)⟩, ⟨some 34, none, .bsl 1 [(.t 33)]⟩, ⟨some 35, none, .app true 1 8 (.t 31) (.t 34)⟩, ⟨some 3, none, .mv (.t 35)⟩]) (.skip))) (.seq (.seq (.reg [⟨some 4, none, .mv (.c (.int .i64 0))⟩]) (.block 0 (.loop [1, 3, 4] [(1, [1, 3]), (0, [2])] B0_spec_GateOk))) (.seq (.seq (.reg [⟨some 5, none, .mv (.c (.int .i64 0))⟩]) (.block 2 (.loop [1, 3, 5] [(3, []), (0, [2])] B1_spec_GateOk))) (.seq (.reg [⟨some 2, none, .mv (.c (.bool true))⟩]) (.ret)))))))⟩
def K_spec_GateOk : Keeps := [([1, 3, 4], [(1, [1, 3]), (0, [2])]), ([1, 3, 5], [(3, []), (0, [2])])]
theorem r_spec_GateOk : resolveF Try.prog Try.f80 K_spec_GateOk = some F_spec_GateOk := by kernel_rfl
noncomputable def X_spec_GateOk : Ctx := Ctx.cons 70 G_spec_l01In (Ctx.cons 81 G_spec_l12In (fun _ => none))
theorem co_spec_GateOk : CtxOk Try.prog X_spec_GateOk := CtxOk.cons (CtxOk.cons (CtxOk.nil) ok_spec_l12In) ok_spec_l01In
theorem cx_spec_GateOk : ((∀ args hp, callX X_spec_GateOk 70 args hp = callS G_spec_l01In args hp) ∧ (trC (X_spec_GateOk 70) = false)) ∧ ((∀ args hp, callX X_spec_GateOk 81 args hp = callS G_spec_l12In args hp) ∧ (trC (X_spec_GateOk 81) = false)) := ⟨⟨fun _ _ => rfl, rfl⟩, ⟨fun _ _ => rfl, rfl⟩⟩
noncomputable def S_spec_GateOk : ByV := ⟨none, false, semF X_spec_GateOk F_spec_GateOk none false⟩
noncomputable def G_spec_GateOk : CK := .byv S_spec_GateOk
theorem sg_spec_GateOk (args : List AV) : S_spec_GateOk.sem args = semF X_spec_GateOk F_spec_GateOk none false args := rfl
theorem cl_spec_GateOk (args : List AV) (hp : Hp) : callS G_spec_GateOk args hp = byvS S_spec_GateOk args hp := callS_byv rfl rfl args hp
theorem ok_spec_GateOk : InlOk Try.prog 80 (callS G_spec_GateOk) := byv_none co_spec_GateOk Try.func80 r_spec_GateOk rfl (fun _ _ h => h)
/- 86 spec_l12Next calls [] inl -/
def F_spec_l12Next : RF := ⟨35, 1, [.t 2],
  .seq (.reg [⟨some 2, none, .mv (.c (.int .i64 0))⟩]) (.seq (.reg [⟨some 3, none, .mv (.t 0)⟩, ⟨some 4, none, .nck (.t 3)⟩, ⟨some 5, none, .fa 0 (.t 4)⟩, ⟨none, none, .st 1 (.t 5) (.c (.int .i64 (-1)))⟩]) (.seq (.seq (.reg [⟨some 6, none, .mv (.t 0)⟩, ⟨some 7, none, .nck (.t 6)⟩, ⟨some 8, none, .fa 1 (.t 7)⟩, ⟨some 9, none, .ld 1 false (.t 8)⟩, ⟨some 10, none, .len false (.t 9)⟩, ⟨some 11, none, .bin .gtr (.t 10) (.c (.int .i64 0))⟩]) (.cond (.t 11) (.seq (.reg [⟨some 12, none, .mv (.t 0)⟩, ⟨some 13, none, .mv (.t 0)⟩, ⟨some 14, none, .nck (.t 13)⟩, ⟨some 15, none, .fa 1 (.t 14)⟩, ⟨some 16, none, .ld 1 false (.t 15)⟩, ⟨some 17, none, .ia 1 (.t 16) (.c (.int .i64 0))⟩, ⟨some 18, none, .ld 1 false (.t 17)⟩, ⟨some 19, none, .nck (.t 12)⟩, ⟨some 20, none, .fa 0 (.t 19)⟩, ⟨none, none, .st 1 (.t 20) (.t 18)⟩]) (.reg [⟨some 21, none, .mv (.t 0)⟩, ⟨some 22, none, .bsl 1 []⟩, ⟨some 23, none, .mv (.t 0)⟩, ⟨some 24, none, .nck (.t 23)⟩, ⟨some 25, none, .fa 1 (.t 24)⟩, ⟨some 26, none, .ld 1 false (.t 25)⟩, ⟨some 27, none, .slc false 1 (.t 26) (some (.c (.int .i64 1))) none⟩, ⟨some 28, none, .app true 1 8 (.t 22) (.t 27)⟩, ⟨some 29, none, .nck (.t 21)⟩, ⟨some 30, none, .fa 1 (.t 29)⟩, ⟨none, none, .st 1 (.t 30) (.t 28)⟩])) (.skip))) (.seq (.reg [⟨some 31, none, .mv (.t 0)⟩, ⟨some 32, none, .nck (.t 31)⟩, ⟨some 33, none, .fa 0 (.t 32)⟩, ⟨some 34, none, .ld 1 false (.t 33)⟩, ⟨some 2, none, .mv (.t 34)⟩]) (.ret))))⟩
def K_spec_l12Next : Keeps := []
theorem r_spec_l12Next : resolveF Try.prog Try.f86 K_spec_l12Next = some F_spec_l12Next := by kernel_rfl
noncomputable def X_spec_l12Next : Ctx := fun _ => none
theorem co_spec_l12Next : CtxOk Try.prog X_spec_l12Next := CtxOk.nil
theorem cx_spec_l12Next : True := trivial
noncomputable def G_spec_l12Next : CK := .inl (runF X_spec_l12Next F_spec_l12Next)
theorem cl_spec_l12Next (args : List AV) (hp : Hp) : callS G_spec_l12Next args hp = runF X_spec_l12Next F_spec_l12Next args hp := rfl
theorem ok_spec_l12Next : InlOk Try.prog 86 (callS G_spec_l12Next) := runF_ok co_spec_l12Next Try.func86 r_spec_l12Next
/- 30 spec_ContinueAt calls [spec_l12Copy, spec_GateOk, spec_l01In, spec_l12Next]  -/
def F_spec_ContinueAt : RF := ⟨50, 2, [.cell 4 3 true, .t 5],
  .seq (.reg [⟨some 2, none, .box (.t 0)⟩, ⟨some 4, none, .new [(.int .i64 0), (.nil 1), (.nil 1)]⟩, ⟨some 5, none, .mv (.c (.int .i64 0))⟩]) (.seq (.reg [⟨some 8, none, .ld 3 true (.t 2)⟩, ⟨some 9, none, .call 79 [(.t 8)]⟩, ⟨some 6, none, .new [(.int .i64 0), (.nil 1), (.nil 1)]⟩, ⟨none, none, .st 3 (.t 6) (.t 9)⟩]) (.seq (.seq (.reg [⟨some 10, none, .ld 3 true (.t 2)⟩, ⟨some 11, none, .call 80 [(.t 10)]⟩, ⟨some 12, none, .un .not (.t 11)⟩, ⟨some 13, none, .mv (.t 12)⟩, ⟨some 14, some (13, false), .fa 0 (.t 2)⟩, ⟨some 15, some (13, false), .ld 1 false (.t 14)⟩, ⟨some 16, some (13, false), .bin .lss (.t 15) (.c (.int .i64 0))⟩, ⟨some 17, none, .pick (.t 13) (.c (.bool true)) (.t 16)⟩, ⟨some 18, none, .mv (.t 17)⟩, ⟨some 19, some (18, false), .mv (.t 1)⟩, ⟨some 20, some (18, false), .fa 2 (.t 2)⟩, ⟨some 21, some (18, false), .ld 1 false (.t 20)⟩, ⟨some 22, some (18, false), .len false (.t 21)⟩, ⟨some 23, some (18, false), .bin .sub (.t 22) (.c (.int .i64 1))⟩, ⟨some 24, some (18, false), .call 70 [(.t 19), (.c (.int .i64 0)), (.t 23)]⟩, ⟨some 25, some (18, false), .un .not (.t 24)⟩, ⟨some 26, none, .pick (.t 18) (.c (.bool true)) (.t 25)⟩]) (.cond (.t 26) (.seq (.reg [⟨some 27, none, .ld 3 true (.t 6)⟩, ⟨none, none, .st 3 (.t 4) (.t 27)⟩, ⟨some 5, none, .mv (.c (.int .i64 (-1)))⟩]) (.ret)) (.skip))) (.seq (.seq (.reg [⟨some 28, none, .fa 2 (.t 2)⟩, ⟨some 29, none, .ld 1 false (.t 28)⟩, ⟨some 30, none, .mv (.t 1)⟩, ⟨some 31, none, .ia 1 (.t 29) (.t 30)⟩, ⟨some 32, none, .ld 1 false (.t 31)⟩, ⟨some 33, none, .bin .lss (.t 32) (.c (.int .i64 0))⟩]) (.cond (.t 33) (.seq (.reg [⟨some 34, none, .call 86 [(.t 6)]⟩, ⟨some 7, none, .mv (.t 34)⟩]) (.seq (.reg [⟨some 35, none, .ld 3 true (.t 6)⟩, ⟨some 36, none, .mv (.t 7)⟩, ⟨none, none, .st 3 (.t 4) (.t 35)⟩, ⟨some 5, none, .mv (.t 36)⟩]) (.ret))) (.skip))) (.seq (.reg [⟨some 37, none, .fa 2 (.t 2)⟩, ⟨some 38, none, .ld 1 false (.t 37)⟩, ⟨some 39, none, .mv (.t 1)⟩, ⟨some 40, none, .ia 1 (.t 38) (.t 39)⟩, ⟨some 41, none, .ld 1 false (.t 40)⟩, ⟨some 42, none, .fa 0 (.t 6)⟩, ⟨none, none, .st 1 (.t 42) (.t 41)⟩]) (.seq (.reg [⟨some 43, none, .fa 2 (.t 6)⟩, ⟨some 44, none, .ld 1 false (.t 43)⟩, ⟨some 45, none, .mv (.t 1)⟩, ⟨some 46, none, .ia 1 (.t 44) (.t 45)⟩, ⟨none, none, .st 1 (.t 46) (.c (.int .i64 (-1)))⟩]) (.seq (.regd [(1, ⟨some 47, none, .ld 3 true (.t 6)⟩), (0, ⟨some 48, none, .fa 0 (.t 6)⟩), (2, ⟨some 49, none, .ld 1 false (.t 48)⟩), (2, ⟨none, none, .st 3 (.t 4) (.t 47)⟩), (0, ⟨some 5, none, .mv (.t 49)⟩)] [(2, 3)]) (.ret)))))))⟩
def K_spec_ContinueAt : Keeps := []
theorem r_spec_ContinueAt : resolveF Try.prog Try.f30 K_spec_ContinueAt = some F_spec_ContinueAt := by kernel_rfl
noncomputable def X_spec_ContinueAt : Ctx := Ctx.cons 79 G_spec_l12Copy (Ctx.cons 80 G_spec_GateOk (Ctx.cons 70 G_spec_l01In (Ctx.cons 86 G_spec_l12Next (fun _ => none))))
theorem co_spec_ContinueAt : CtxOk Try.prog X_spec_ContinueAt := CtxOk.cons (CtxOk.cons (CtxOk.cons (CtxOk.cons (CtxOk.nil) ok_spec_l12Next) ok_spec_l01In) ok_spec_GateOk) ok_spec_l12Copy
theorem cx_spec_ContinueAt : ((∀ args hp, callX X_spec_ContinueAt 79 args hp = callS G_spec_l12Copy args hp) ∧ (trC (X_spec_ContinueAt 79) = false)) ∧ ((∀ args hp, callX X_spec_ContinueAt 80 args hp = callS G_spec_GateOk args hp) ∧ (trC (X_spec_ContinueAt 80) = false)) ∧ ((∀ args hp, callX X_spec_ContinueAt 70 args hp = callS G_spec_l01In args hp) ∧ (trC (X_spec_ContinueAt 70) = false)) ∧ ((∀ args hp, callX X_spec_ContinueAt 86 args hp = callS G_spec_l12Next args hp) ∧ (trC (X_spec_ContinueAt 86) = true)) := ⟨⟨fun _ _ => rfl, rfl⟩, ⟨fun _ _ => rfl, rfl⟩, ⟨fun _ _ => rfl, rfl⟩, ⟨fun _ _ => rfl, rfl⟩⟩
noncomputable def S_spec_ContinueAt : ByV := ⟨none, false, semF X_spec_ContinueAt F_spec_ContinueAt none false⟩
noncomputable def G_spec_ContinueAt : CK := .byv S_spec_ContinueAt
theorem sg_spec_ContinueAt (args : List AV) : S_spec_ContinueAt.sem args = semF X_spec_ContinueAt F_spec_ContinueAt none false args := rfl
theorem cl_spec_ContinueAt (args : List AV) (hp : Hp) : callS G_spec_ContinueAt args hp = byvS S_spec_ContinueAt args hp := callS_byv rfl rfl args hp
theorem ok_spec_ContinueAt : InlOk Try.prog 30 (callS G_spec_ContinueAt) := byv_none co_spec_ContinueAt Try.func30 r_spec_ContinueAt rfl (fun _ _ h => h)
/- 83 impl_copyGate calls []  -/
def F_impl_copyGate : RF := ⟨12, 1, [.cell 2 3 true],
  .seq (.reg [⟨some 1, none, .box (.t 0)⟩, ⟨some 2, none, .new [(.int .i64 0), (.nil 1), (.nil 1)]⟩]) (.seq (.reg [⟨some 3, none, .fa 1 (.t 1)⟩, ⟨some 4, none, .ld 1 false (.t 3)⟩, ⟨some 5, none, .app true 1 8 (.c (.nil 1)) (.t 4)⟩, ⟨some 6, none, .fa 1 (.t 1)⟩, ⟨none, none, .st 1 (.t 6) (.t 5)⟩]) (.seq (.reg [⟨some 7, none, .fa 2 (.t 1)⟩, ⟨some 8, none, .ld 1 false (.t 7)⟩, ⟨some 9, none, .app true 1 8 (.c (.nil 1)) (.t 8)⟩, ⟨some 10, none, .fa 2 (.t 1)⟩, ⟨none, none, .st 1 (.t 10) (.t 9)⟩]) (.seq (.reg [⟨some 11, none, .ld 3 true (.t 1)⟩, ⟨none, none, .st 3 (.t 2) (.t 11)⟩]) (.ret))))⟩
def K_impl_copyGate : Keeps := []
theorem r_impl_copyGate : resolveF Try.prog Try.f83 K_impl_copyGate = some F_impl_copyGate := by kernel_rfl
noncomputable def X_impl_copyGate : Ctx := fun _ => none
theorem co_impl_copyGate : CtxOk Try.prog X_impl_copyGate := CtxOk.nil
theorem cx_impl_copyGate : True := trivial
noncomputable def S_impl_copyGate : ByV := ⟨none, false, semF X_impl_copyGate F_impl_copyGate none false⟩
noncomputable def G_impl_copyGate : CK := .byv S_impl_copyGate
theorem sg_impl_copyGate (args : List AV) : S_impl_copyGate.sem args = semF X_impl_copyGate F_impl_copyGate none false args := rfl
theorem cl_impl_copyGate (args : List AV) (hp : Hp) : callS G_impl_copyGate args hp = byvS S_impl_copyGate args hp := callS_byv rfl rfl args hp
theorem ok_impl_copyGate : InlOk Try.prog 83 (callS G_impl_copyGate) := byv_none co_impl_copyGate Try.func83 r_impl_copyGate rfl (fun _ _ h => h)
/- 85 impl_inGate calls []  -/
def B0_impl_inGate : RC :=
  .seq (.reg [⟨some 22, none, .bin .lss (.t 21) (.t 20)⟩]) (.seq (.cond (.t 22) (.skip) (.exit 0)) (.seq (.block 1 (.seq (.reg [⟨some 23, none, .ia 1 (.t 19) (.t 21)⟩, ⟨some 24, none, .ld 1 false (.t 23)⟩, ⟨some 5, none, .mv (.t 24)⟩]) (.seq (.reg [⟨some 25, none, .mv (.t 5)⟩, ⟨some 26, none, .bin .neq (.t 25) (.c (.int .i64 (-1)))⟩]) (.cond (.t 26) (.reg [⟨some 27, none, .mv (.t 3)⟩, ⟨some 28, none, .mv (.t 5)⟩, ⟨some 29, none, .bsl 1 [(.t 28)]⟩, ⟨some 30, none, .app true 1 8 (.t 27) (.t 29)⟩, ⟨some 3, none, .mv (.t 30)⟩]) (.skip))))) (.reg [⟨some 31, none, .bin .add (.t 21) (.c (.int .i64 1))⟩, ⟨some 21, none, .mv (.t 31)⟩])))
def F_impl_inGate : RF := ⟨33, 1, [.t 2],
  .seq (.reg [⟨some 1, none, .box (.t 0)⟩, ⟨some 2, none, .mv (.c (.nil 1))⟩]) (.seq (.reg [⟨some 3, none, .mv (.c (.nil 1))⟩]) (.seq (.seq (.reg [⟨some 6, none, .fa 0 (.t 1)⟩, ⟨some 7, none, .ld 1 false (.t 6)⟩, ⟨some 8, none, .bin .neq (.t 7) (.c (.int .i64 (-1)))⟩]) (.cond (.t 8) (.reg [⟨some 9, none, .mv (.t 3)⟩, ⟨some 10, none, .fa 0 (.t 1)⟩, ⟨some 11, none, .ld 1 false (.t 10)⟩, ⟨some 12, none, .bsl 1 [(.t 11)]⟩, ⟨some 13, none, .app true 1 8 (.t 9) (.t 12)⟩, ⟨some 3, none, .mv (.t 13)⟩]) (.skip))) (.seq (.reg [⟨some 14, none, .mv (.t 3)⟩, ⟨some 15, none, .fa 1 (.t 1)⟩, ⟨some 16, none, .ld 1 false (.t 15)⟩, ⟨some 17, none, .app true 1 8 (.t 14) (.t 16)⟩, ⟨some 3, none, .mv (.t 17)⟩]) (.seq (.seq (.reg [⟨some 18, none, .fa 2 (.t 1)⟩, ⟨some 19, none, .ld 1 false (.t 18)⟩, ⟨some 20, none, .len false (.t 19)⟩, ⟨some 21, none, .mv (.c (.int .i64 0))⟩]) (.block 0 (.loop [3, 19, 20, 21] [(1, [3])] B0_impl_inGate))) (.seq (.reg [⟨some 32, none, .mv (.t 3)⟩, ⟨some 2, none, .mv (.t 32)⟩]) (.ret))))))⟩
def K_impl_inGate : Keeps := [([3, 19, 20, 21], [(1, [3])])]
theorem r_impl_inGate : resolveF Try.prog Try.f85 K_impl_inGate = some F_impl_inGate := by kernel_rfl
noncomputable def X_impl_inGate : Ctx := fun _ => none
theorem co_impl_inGate : CtxOk Try.prog X_impl_inGate := CtxOk.nil
theorem cx_impl_inGate : True := trivial
noncomputable def S_impl_inGate : ByV := ⟨none, false, semF X_impl_inGate F_impl_inGate none false⟩
noncomputable def G_impl_inGate : CK := .byv S_impl_inGate
theorem sg_impl_inGate (args : List AV) : S_impl_inGate.sem args = semF X_impl_inGate F_impl_inGate none false args := rfl
theorem cl_impl_inGate (args : List AV) (hp : Hp) : callS G_impl_inGate args hp = byvS S_impl_inGate args hp := callS_byv rfl rfl args hp
theorem ok_impl_inGate : InlOk Try.prog 85 (callS G_impl_inGate) := byv_none co_impl_inGate Try.func85 r_impl_inGate rfl (fun _ _ h => h)
/- 74 impl_within calls []  -/
def F_impl_within : RF := ⟨15, 3, [.t 6],
  .seq (.reg [⟨some 6, none, .mv (.c (.bool false))⟩]) (.seq (.reg [⟨some 7, none, .mv (.t 0)⟩, ⟨some 8, none, .mv (.t 1)⟩, ⟨some 9, none, .bin .geq (.t 7) (.t 8)⟩, ⟨some 10, none, .mv (.t 9)⟩, ⟨some 11, some (10, true), .mv (.t 0)⟩, ⟨some 12, some (10, true), .mv (.t 2)⟩, ⟨some 13, some (10, true), .bin .leq (.t 11) (.t 12)⟩, ⟨some 14, none, .pick (.t 10) (.t 13) (.c (.bool false))⟩, ⟨some 6, none, .mv (.t 14)⟩]) (.ret))⟩
def K_impl_within : Keeps := []
theorem r_impl_within : resolveF Try.prog Try.f74 K_impl_within = some F_impl_within := by kernel_rfl
noncomputable def X_impl_within : Ctx := fun _ => none
theorem co_impl_within : CtxOk Try.prog X_impl_within := CtxOk.nil
theorem cx_impl_within : True := trivial
noncomputable def S_impl_within : ByV := ⟨none, false, semF X_impl_within F_impl_within none false⟩
noncomputable def G_impl_within : CK := .byv S_impl_within
theorem sg_impl_within (args : List AV) : S_impl_within.sem args = semF X_impl_within F_impl_within none false args := rfl
theorem cl_impl_within (args : List AV) (hp : Hp) : callS G_impl_within args hp = byvS S_impl_within args hp := callS_byv rfl rfl args hp
theorem ok_impl_within : InlOk Try.prog 74 (callS G_impl_within) := byv_none co_impl_within Try.func74 r_impl_within rfl (fun _ _ h => h)
/- 132 slices_Index_int_int calls []  -/
def B0_slices_Index_int_int : RC :=
  .seq (.reg [⟨some 9, none, .bin .lss (.t 8) (.t 7)⟩]) (.seq (.cond (.t 9) (.skip) (.exit 0)) (.seq (.block 1 (.seq (.reg [⟨some 10, none, .mv (.t 8)⟩, ⟨some 5, none, .mv (.t 10)⟩]) (.seq (.reg [⟨some 11, none, .mv (.t 1)⟩, ⟨some 12, none, .mv (.t 0)⟩, ⟨some 13, none, .mv (.t 5)⟩, ⟨some 14, none, .ia 1 (.t 12) (.t 13)⟩, ⟨some 15, none, .ld 1 false (.t 14)⟩, ⟨some 16, none, .bin .eql (.t 11) (.t 15)⟩]) (.cond (.t 16) (.seq (.reg [⟨some 17, none, .mv (.t 5)⟩, ⟨some 4, none, .mv (.t 17)⟩]) (.ret)) (.skip))))) (.reg [⟨some 18, none, .bin .add (.t 8) (.c (.int .i64 1))⟩, ⟨some 8, none, .mv (.t 18)⟩])))
def F_slices_Index_int_int : RF := ⟨19, 2, [.t 4],
  .seq (.reg [⟨some 4, none, .mv (.c (.int .i64 0))⟩]) (.seq (.seq (.reg [⟨some 6, none, .mv (.t 0)⟩, ⟨some 7, none, .len false (.t 6)⟩, ⟨some 8, none, .mv (.c (.int .i64 0))⟩]) (.block 0 (.loop [0, 1, 7, 8] [(1, []), (0, [4])] B0_slices_Index_int_int))) (.seq (.reg [⟨some 4, none, .mv (.c (.int .i64 (-1)))⟩]) (.ret)))⟩
def K_slices_Index_int_int : Keeps := [([0, 1, 7, 8], [(1, []), (0, [4])])]
theorem r_slices_Index_int_int : resolveF Try.prog Try.f132 K_slices_Index_int_int = some F_slices_Index_int_int := by kernel_rfl
noncomputable def X_slices_Index_int_int : Ctx := fun _ => none
theorem co_slices_Index_int_int : CtxOk Try.prog X_slices_Index_int_int := CtxOk.nil
theorem cx_slices_Index_int_int : True := trivial
noncomputable def S_slices_Index_int_int : ByV := ⟨none, false, semF X_slices_Index_int_int F_slices_Index_int_int none false⟩
noncomputable def G_slices_Index_int_int : CK := .byv S_slices_Index_int_int
theorem sg_slices_Index_int_int (args : List AV) : S_slices_Index_int_int.sem args = semF X_slices_Index_int_int F_slices_Index_int_int none false args := rfl
theorem cl_slices_Index_int_int (args : List AV) (hp : Hp) : callS G_slices_Index_int_int args hp = byvS S_slices_Index_int_int args hp := callS_byv rfl rfl args hp
theorem ok_slices_Index_int_int : InlOk Try.prog 132 (callS G_slices_Index_int_int) := byv_none co_slices_Index_int_int Try.func132 r_slices_Index_int_int rfl (fun _ _ h => h)
/- 84 slices_Contains_int_int calls [slices_Index_int_int]  -/
def F_slices_Contains_int_int : RF := ⟨9, 2, [.t 4],
  .seq (.reg [⟨some 4, none, .mv (.c (.bool false))⟩]) (.seq (.reg [⟨some 5, none, .mv (.t 0)⟩, ⟨some 6, none, .mv (.t 1)⟩, ⟨some 7, none, .call 132 [(.t 5), (.t 6)]⟩, ⟨some 8, none, .bin .geq (.t 7) (.c (.int .i64 0))⟩, ⟨some 4, none, .mv (.t 8)⟩]) (.ret))⟩
def K_slices_Contains_int_int : Keeps := []
theorem r_slices_Contains_int_int : resolveF Try.prog Try.f84 K_slices_Contains_int_int = some F_slices_Contains_int_int := by kernel_rfl
noncomputable def X_slices_Contains_int_int : Ctx := Ctx.cons 132 G_slices_Index_int_int (fun _ => none)
theorem co_slices_Contains_int_int : CtxOk Try.prog X_slices_Contains_int_int := CtxOk.cons (CtxOk.nil) ok_slices_Index_int_int
theorem cx_slices_Contains_int_int : ((∀ args hp, callX X_slices_Contains_int_int 132 args hp = callS G_slices_Index_int_int args hp) ∧ (trC (X_slices_Contains_int_int 132) = false)) := ⟨fun _ _ => rfl, rfl⟩
noncomputable def S_slices_Contains_int_int : ByV := ⟨none, false, semF X_slices_Contains_int_int F_slices_Contains_int_int none false⟩
noncomputable def G_slices_Contains_int_int : CK := .byv S_slices_Contains_int_int
theorem sg_slices_Contains_int_int (args : List AV) : S_slices_Contains_int_int.sem args = semF X_slices_Contains_int_int F_slices_Contains_int_int none false args := rfl
theorem cl_slices_Contains_int_int (args : List AV) (hp : Hp) : callS G_slices_Contains_int_int args hp = byvS S_slices_Contains_int_int args hp := callS_byv rfl rfl args hp
theorem ok_slices_Contains_int_int : InlOk Try.prog 84 (callS G_slices_Contains_int_int) := byv_none co_slices_Contains_int_int Try.func84 r_slices_Contains_int_int rfl (fun _ _ h => h)
/- 35 impl_GateOk calls [impl_inGate, impl_within, slices_Contains_int_int]  -/
def B0_impl_GateOk : RC :=
  .seq (.reg [⟨some 11, none, .bin .lss (.t 10) (.t 9)⟩]) (.seq (.cond (.t 11) (.skip) (.exit 0)) (.seq (.block 1 (.seq (.reg [⟨some 12, none, .mv (.t 10)⟩, ⟨some 13, none, .ia 1 (.t 8) (.t 10)⟩, ⟨some 14, none, .ld 1 false (.t 13)⟩, ⟨some 4, none, .mv (.t 12)⟩, ⟨some 5, none, .mv (.t 14)⟩]) (.seq (.reg [⟨some 15, none, .mv (.t 5)⟩, ⟨some 16, none, .call 74 [(.t 15), (.c (.int .i64 0)), (.c (.int .i64 3))]⟩, ⟨some 17, none, .un .not (.t 16)⟩, ⟨some 18, none, .mv (.t 17)⟩, ⟨some 19, some (18, false), .mv (.t 3)⟩, ⟨some 20, some (18, false), .mv (.t 4)⟩, ⟨some 21, some (18, false), .slc false 1 (.t 19) none (some (.t 20))⟩, ⟨some 22, some (18, false), .mv (.t 5)⟩, ⟨some 23, some (18, false), .call 84 [(.t 21), (.t 22)]⟩, ⟨some 24, none, .pick (.t 18) (.c (.bool true)) (.t 23)⟩]) (.cond (.t 24) (.seq (.reg [⟨some 2, none, .mv (.c (.bool false))⟩]) (.ret)) (.skip))))) (.reg [⟨some 25, none, .bin .add (.t 10) (.c (.int .i64 1))⟩, ⟨some 10, none, .mv (.t 25)⟩])))
def F_impl_GateOk : RF := ⟨41, 1, [.t 2],
  .seq (.reg [⟨some 1, none, .box (.t 0)⟩, ⟨some 2, none, .mv (.c (.bool false))⟩]) (.seq (.reg [⟨some 6, none, .ld 3 true (.t 1)⟩, ⟨some 7, none, .call 85 [(.t 6)]⟩, ⟨some 3, none, .mv (.t 7)⟩]) (.seq (.seq (.reg [⟨some 8, none, .mv (.t 3)⟩, ⟨some 9, none, .len false (.t 8)⟩, ⟨some 10, none, .mv (.c (.int .i64 0))⟩]) (.block 0 (.loop [1, 3, 8, 9, 10] [(1, [1]), (0, [2])] B0_impl_GateOk))) (.seq (.reg [⟨some 26, none, .fa 2 (.t 1)⟩, ⟨some 27, none, .ld 1 false (.t 26)⟩, ⟨some 28, none, .len false (.t 27)⟩, ⟨some 29, none, .bin .leq (.t 28) (.c (.int .i64 2))⟩, ⟨some 30, none, .mv (.t 29)⟩, ⟨some 31, some (30, true), .fa 0 (.t 1)⟩, ⟨some 32, some (30, true), .ld 1 false (.t 31)⟩, ⟨some 33, some (30, true), .bin .neq (.t 32) (.c (.int .i64 (-1)))⟩, ⟨some 34, some (30, true), .mv (.t 33)⟩, ⟨some 35, some (34, false), .fa 1 (.t 1)⟩, ⟨some 36, some (34, false), .ld 1 false (.t 35)⟩, ⟨some 37, some (34, false), .len false (.t 36)⟩, ⟨some 38, some (34, false), .bin .eql (.t 37) (.c (.int .i64 0))⟩, ⟨some 39, some (30, true), .pick (.t 34) (.c (.bool true)) (.t 38)⟩, ⟨some 40, none, .pick (.t 30) (.t 39) (.c (.bool false))⟩, ⟨some 2, none, .mv (.t 40)⟩]) (.ret))))⟩
def K_impl_GateOk : Keeps := [([1, 3, 8, 9, 10], [(1, [1]), (0, [2])])]
theorem r_impl_GateOk : resolveF Try.prog Try.f35 K_impl_GateOk = some F_impl_GateOk := by kernel_rfl
noncomputable def X_impl_GateOk : Ctx := Ctx.cons 85 G_impl_inGate (Ctx.cons 74 G_impl_within (Ctx.cons 84 G_slices_Contains_int_int (fun _ => none)))
theorem co_impl_GateOk : CtxOk Try.prog X_impl_GateOk := CtxOk.cons (CtxOk.cons (CtxOk.cons (CtxOk.nil) ok_slices_Contains_int_int) ok_impl_within) ok_impl_inGate
theorem cx_impl_GateOk : ((∀ args hp, callX X_impl_GateOk 85 args hp = callS G_impl_inGate args hp) ∧ (trC (X_impl_GateOk 85) = false)) ∧ ((∀ args hp, callX X_impl_GateOk 74 args hp = callS G_impl_within args hp) ∧ (trC (X_impl_GateOk 74) = false)) ∧ ((∀ args hp, callX X_impl_GateOk 84 args hp = callS G_slices_Contains_int_int args hp) ∧ (trC (X_impl_GateOk 84) = false)) := ⟨⟨fun _ _ => rfl, rfl⟩, ⟨fun _ _ => rfl, rfl⟩, ⟨fun _ _ => rfl, rfl⟩⟩
noncomputable def S_impl_GateOk : ByV := ⟨none, false, semF X_impl_GateOk F_impl_GateOk none false⟩
noncomputable def G_impl_GateOk : CK := .byv S_impl_GateOk
theorem sg_impl_GateOk (args : List AV) : S_impl_GateOk.sem args = semF X_impl_GateOk F_impl_GateOk none false args := rfl
theorem cl_impl_GateOk (args : List AV) (hp : Hp) : callS G_impl_GateOk args hp = byvS S_impl_GateOk args hp := callS_byv rfl rfl args hp
theorem ok_impl_GateOk : InlOk Try.prog 35 (callS G_impl_GateOk) := byv_none co_impl_GateOk Try.func35 r_impl_GateOk rfl (fun _ _ h => h)
/- 27 impl_Leave calls [impl_copyGate, impl_GateOk]  -/
def F_impl_Leave : RF := ⟨33, 1, [.cell 2 3 true, .t 3],
  .seq (.reg [⟨some 1, none, .box (.t 0)⟩, ⟨some 2, none, .new [(.int .i64 0), (.nil 1), (.nil 1)]⟩, ⟨some 3, none, .mv (.c (.int .i64 0))⟩]) (.seq (.reg [⟨some 5, none, .ld 3 true (.t 1)⟩, ⟨some 6, none, .call 83 [(.t 5)]⟩, ⟨some 4, none, .new [(.int .i64 0), (.nil 1), (.nil 1)]⟩, ⟨none, none, .st 3 (.t 4) (.t 6)⟩]) (.seq (.seq (.reg [⟨some 7, none, .ld 3 true (.t 1)⟩, ⟨some 8, none, .call 35 [(.t 7)]⟩, ⟨some 9, none, .un .not (.t 8)⟩, ⟨some 10, none, .mv (.t 9)⟩, ⟨some 11, some (10, false), .fa 0 (.t 1)⟩, ⟨some 12, some (10, false), .ld 1 false (.t 11)⟩, ⟨some 13, some (10, false), .bin .eql (.t 12) (.c (.int .i64 (-1)))⟩, ⟨some 14, none, .pick (.t 10) (.c (.bool true)) (.t 13)⟩]) (.cond (.t 14) (.seq (.reg [⟨some 15, none, .ld 3 true (.t 4)⟩, ⟨none, none, .st 3 (.t 2) (.t 15)⟩, ⟨some 3, none, .mv (.c (.int .i64 (-1)))⟩]) (.ret)) (.skip))) (.seq (.reg [⟨some 16, none, .fa 0 (.t 4)⟩, ⟨none, none, .st 1 (.t 16) (.c (.int .i64 (-1)))⟩]) (.seq (.seq (.reg [⟨some 17, none, .fa 1 (.t 4)⟩, ⟨some 18, none, .ld 1 false (.t 17)⟩, ⟨some 19, none, .len false (.t 18)⟩, ⟨some 20, none, .bin .gtr (.t 19) (.c (.int .i64 0))⟩]) (.cond (.t 20) (.regd [(0, ⟨some 21, none, .fa 1 (.t 4)⟩), (1, ⟨some 22, none, .ld 1 false (.t 21)⟩), (1, ⟨some 23, none, .ia 1 (.t 22) (.c (.int .i64 0))⟩), (1, ⟨some 24, none, .ld 1 false (.t 23)⟩), (0, ⟨some 25, none, .fa 1 (.t 4)⟩), (1, ⟨some 26, none, .ld 1 false (.t 25)⟩), (2, ⟨some 27, none, .slc false 1 (.t 26) (some (.c (.int .i64 1))) none⟩), (0, ⟨some 28, none, .fa 0 (.t 4)⟩), (2, ⟨none, none, .st 1 (.t 28) (.t 24)⟩), (0, ⟨some 29, none, .fa 1 (.t 4)⟩), (1, ⟨none, none, .st 1 (.t 29) (.t 27)⟩)] [(6, 8)]) (.skip))) (.seq (.regd [(1, ⟨some 30, none, .ld 3 true (.t 4)⟩), (0, ⟨some 31, none, .fa 0 (.t 4)⟩), (2, ⟨some 32, none, .ld 1 false (.t 31)⟩), (2, ⟨none, none, .st 3 (.t 2) (.t 30)⟩), (0, ⟨some 3, none, .mv (.t 32)⟩)] [(2, 3)]) (.ret))))))⟩
def K_impl_Leave : Keeps := []
theorem r_impl_Leave : resolveF Try.prog Try.f27 K_impl_Leave = some F_impl_Leave := by kernel_rfl
noncomputable def X_impl_Leave : Ctx := Ctx.cons 83 G_impl_copyGate (Ctx.cons 35 G_impl_GateOk (fun _ => none))
theorem co_impl_Leave : CtxOk Try.prog X_impl_Leave := CtxOk.cons (CtxOk.cons (CtxOk.nil) ok_impl_GateOk) ok_impl_copyGate
theorem cx_impl_Leave : ((∀ args hp, callX X_impl_Leave 83 args hp = callS G_impl_copyGate args hp) ∧ (trC (X_impl_Leave 83) = false)) ∧ ((∀ args hp, callX X_impl_Leave 35 args hp = callS G_impl_GateOk args hp) ∧ (trC (X_impl_Leave 35) = false)) := ⟨⟨fun _ _ => rfl, rfl⟩, ⟨fun _ _ => rfl, rfl⟩⟩
noncomputable def S_impl_Leave : ByV := ⟨none, false, semF X_impl_Leave F_impl_Leave none false⟩
noncomputable def G_impl_Leave : CK := .byv S_impl_Leave
theorem sg_impl_Leave (args : List AV) : S_impl_Leave.sem args = semF X_impl_Leave F_impl_Leave none false args := rfl
theorem cl_impl_Leave (args : List AV) (hp : Hp) : callS G_impl_Leave args hp = byvS S_impl_Leave args hp := callS_byv rfl rfl args hp
theorem ok_impl_Leave : InlOk Try.prog 27 (callS G_impl_Leave) := byv_none co_impl_Leave Try.func27 r_impl_Leave rfl (fun _ _ h => h)
/- 31 impl_ContinueAt calls [impl_copyGate, impl_GateOk, impl_within, impl_Leave]  -/
def F_impl_ContinueAt : RF := ⟨50, 2, [.cell 4 3 true, .t 5],
  .seq (.reg [⟨some 2, none, .box (.t 0)⟩, ⟨some 4, none, .new [(.int .i64 0), (.nil 1), (.nil 1)]⟩, ⟨some 5, none, .mv (.c (.int .i64 0))⟩]) (.seq (.reg [⟨some 7, none, .ld 3 true (.t 2)⟩, ⟨some 8, none, .call 83 [(.t 7)]⟩, ⟨some 6, none, .new [(.int .i64 0), (.nil 1), (.nil 1)]⟩, ⟨none, none, .st 3 (.t 6) (.t 8)⟩]) (.seq (.seq (.reg [⟨some 9, none, .ld 3 true (.t 2)⟩, ⟨some 10, none, .call 35 [(.t 9)]⟩, ⟨some 11, none, .un .not (.t 10)⟩, ⟨some 12, none, .mv (.t 11)⟩, ⟨some 13, some (12, false), .fa 0 (.t 2)⟩, ⟨some 14, some (12, false), .ld 1 false (.t 13)⟩, ⟨some 15, some (12, false), .bin .eql (.t 14) (.c (.int .i64 (-1)))⟩, ⟨some 16, none, .pick (.t 12) (.c (.bool true)) (.t 15)⟩, ⟨some 17, none, .mv (.t 16)⟩, ⟨some 18, some (17, false), .mv (.t 1)⟩, ⟨some 19, some (17, false), .fa 2 (.t 2)⟩, ⟨some 20, some (17, false), .ld 1 false (.t 19)⟩, ⟨some 21, some (17, false), .len false (.t 20)⟩, ⟨some 22, some (17, false), .bin .sub (.t 21) (.c (.int .i64 1))⟩, ⟨some 23, some (17, false), .call 74 [(.t 18), (.c (.int .i64 0)), (.t 22)]⟩, ⟨some 24, some (17, false), .un .not (.t 23)⟩, ⟨some 25, none, .pick (.t 17) (.c (.bool true)) (.t 24)⟩]) (.cond (.t 25) (.seq (.reg [⟨some 26, none, .ld 3 true (.t 6)⟩, ⟨none, none, .st 3 (.t 4) (.t 26)⟩, ⟨some 5, none, .mv (.c (.int .i64 (-1)))⟩]) (.ret)) (.skip))) (.seq (.seq (.reg [⟨some 27, none, .fa 2 (.t 2)⟩, ⟨some 28, none, .ld 1 false (.t 27)⟩, ⟨some 29, none, .mv (.t 1)⟩, ⟨some 30, none, .ia 1 (.t 28) (.t 29)⟩, ⟨some 31, none, .ld 1 false (.t 30)⟩, ⟨some 32, none, .bin .eql (.t 31) (.c (.int .i64 (-1)))⟩]) (.cond (.t 32) (.seq (.reg [⟨some 33, none, .ld 3 true (.t 2)⟩, ⟨some 34, none, .call 27 [(.t 33)]⟩, ⟨some 35, none, .ex (.t 34) 0⟩, ⟨some 36, none, .ex (.t 34) 1⟩, ⟨none, none, .st 3 (.t 4) (.t 35)⟩, ⟨some 5, none, .mv (.t 36)⟩]) (.ret)) (.skip))) (.seq (.regd [(0, ⟨some 37, none, .fa 2 (.t 6)⟩), (1, ⟨some 38, none, .ld 1 false (.t 37)⟩), (0, ⟨some 39, none, .mv (.t 1)⟩), (0, ⟨some 40, none, .fa 2 (.t 2)⟩), (1, ⟨some 41, none, .ld 1 false (.t 40)⟩), (0, ⟨some 42, none, .mv (.t 1)⟩), (1, ⟨some 43, none, .ia 1 (.t 41) (.t 42)⟩), (1, ⟨some 44, none, .ld 1 false (.t 43)⟩), (0, ⟨some 45, none, .fa 0 (.t 6)⟩), (1, ⟨none, none, .st 1 (.t 45) (.t 44)⟩), (1, ⟨some 46, none, .ia 1 (.t 38) (.t 39)⟩), (1, ⟨none, none, .st 1 (.t 46) (.c (.int .i64 (-1)))⟩)] []) (.seq (.regd [(1, ⟨some 47, none, .ld 3 true (.t 6)⟩), (0, ⟨some 48, none, .fa 0 (.t 6)⟩), (2, ⟨some 49, none, .ld 1 false (.t 48)⟩), (2, ⟨none, none, .st 3 (.t 4) (.t 47)⟩), (0, ⟨some 5, none, .mv (.t 49)⟩)] [(2, 3)]) (.ret))))))⟩
def K_impl_ContinueAt : Keeps := []
theorem r_impl_ContinueAt : resolveF Try.prog Try.f31 K_impl_ContinueAt = some F_impl_ContinueAt := by kernel_rfl
noncomputable def X_impl_ContinueAt : Ctx := Ctx.cons 83 G_impl_copyGate (Ctx.cons 35 G_impl_GateOk (Ctx.cons 74 G_impl_within (Ctx.cons 27 G_impl_Leave (fun _ => none))))
theorem co_impl_ContinueAt : CtxOk Try.prog X_impl_ContinueAt := CtxOk.cons (CtxOk.cons (CtxOk.cons (CtxOk.cons (CtxOk.nil) ok_impl_Leave) ok_impl_within) ok_impl_GateOk) ok_impl_copyGate
theorem cx_impl_ContinueAt : ((∀ args hp, callX X_impl_ContinueAt 83 args hp = callS G_impl_copyGate args hp) ∧ (trC (X_impl_ContinueAt 83) = false)) ∧ ((∀ args hp, callX X_impl_ContinueAt 35 args hp = callS G_impl_GateOk args hp) ∧ (trC (X_impl_ContinueAt 35) = false)) ∧ ((∀ args hp, callX X_impl_ContinueAt 74 args hp = callS G_impl_within args hp) ∧ (trC (X_impl_ContinueAt 74) = false)) ∧ ((∀ args hp, callX X_impl_ContinueAt 27 args hp = callS G_impl_Leave args hp) ∧ (trC (X_impl_ContinueAt 27) = false)) := ⟨⟨fun _ _ => rfl, rfl⟩, ⟨fun _ _ => rfl, rfl⟩, ⟨fun _ _ => rfl, rfl⟩, ⟨fun _ _ => rfl, rfl⟩⟩
noncomputable def S_impl_ContinueAt : ByV := ⟨none, false, semF X_impl_ContinueAt F_impl_ContinueAt none false⟩
noncomputable def G_impl_ContinueAt : CK := .byv S_impl_ContinueAt
theorem sg_impl_ContinueAt (args : List AV) : S_impl_ContinueAt.sem args = semF X_impl_ContinueAt F_impl_ContinueAt none false args := rfl
theorem cl_impl_ContinueAt (args : List AV) (hp : Hp) : callS G_impl_ContinueAt args hp = byvS S_impl_ContinueAt args hp := callS_byv rfl rfl args hp
theorem ok_impl_ContinueAt : InlOk Try.prog 31 (callS G_impl_ContinueAt) := byv_none co_impl_ContinueAt Try.func31 r_impl_ContinueAt rfl (fun _ _ h => h)
/- 53 laws_eqIntS calls []  -/
def B0_laws_eqIntS : RC :=
  .seq (.seq (.reg [⟨some 11, none, .mv (.t 5)⟩, ⟨some 12, none, .mv (.t 0)⟩, ⟨some 13, none, .len false (.t 12)⟩, ⟨some 14, none, .bin .lss (.t 11) (.t 13)⟩]) (.cond (.t 14) (.skip) (.exit 0))) (.seq (.block 1 (.seq (.regd [(0, ⟨some 17, none, .mv (.t 0)⟩), (0, ⟨some 18, none, .mv (.t 5)⟩), (1, ⟨some 19, none, .ia 1 (.t 17) (.t 18)⟩), (1, ⟨some 20, none, .ld 1 false (.t 19)⟩), (0, ⟨some 21, none, .mv (.t 1)⟩), (0, ⟨some 22, none, .mv (.t 5)⟩), (1, ⟨some 23, none, .ia 1 (.t 21) (.t 22)⟩), (1, ⟨some 24, none, .ld 1 false (.t 23)⟩), (0, ⟨some 25, none, .bin .neq (.t 20) (.t 24)⟩)] []) (.cond (.t 25) (.seq (.reg [⟨some 4, none, .mv (.c (.bool false))⟩]) (.ret)) (.skip)))) (.reg [⟨some 15, none, .mv (.t 5)⟩, ⟨some 16, none, .bin .add (.t 15) (.c (.int .i64 1))⟩, ⟨some 5, none, .mv (.t 16)⟩]))
def F_laws_eqIntS : RF := ⟨26, 2, [.t 4],
  .seq (.reg [⟨some 4, none, .mv (.c (.bool false))⟩]) (.seq (.seq (.reg [⟨some 6, none, .mv (.t 0)⟩, ⟨some 7, none, .len false (.t 6)⟩, ⟨some 8, none, .mv (.t 1)⟩, ⟨some 9, none, .len false (.t 8)⟩, ⟨some 10, none, .bin .neq (.t 7) (.t 9)⟩]) (.cond (.t 10) (.seq (.reg [⟨some 4, none, .mv (.c (.bool false))⟩]) (.ret)) (.skip))) (.seq (.seq (.reg [⟨some 5, none, .mv (.c (.int .i64 0))⟩]) (.block 0 (.loop [0, 1, 5] [(1, []), (0, [4])] B0_laws_eqIntS))) (.seq (.reg [⟨some 4, none, .mv (.c (.bool true))⟩]) (.ret))))⟩
def K_laws_eqIntS : Keeps := [([0, 1, 5], [(1, []), (0, [4])])]
theorem r_laws_eqIntS : resolveF Try.prog Try.f53 K_laws_eqIntS = some F_laws_eqIntS := by kernel_rfl
noncomputable def X_laws_eqIntS : Ctx := fun _ => none
theorem co_laws_eqIntS : CtxOk Try.prog X_laws_eqIntS := CtxOk.nil
theorem cx_laws_eqIntS : True := trivial
noncomputable def S_laws_eqIntS : ByV := ⟨none, false, semF X_laws_eqIntS F_laws_eqIntS none false⟩
noncomputable def G_laws_eqIntS : CK := .byv S_laws_eqIntS
theorem sg_laws_eqIntS (args : List AV) : S_laws_eqIntS.sem args = semF X_laws_eqIntS F_laws_eqIntS none false args := rfl
theorem cl_laws_eqIntS (args : List AV) (hp : Hp) : callS G_laws_eqIntS args hp = byvS S_laws_eqIntS args hp := callS_byv rfl rfl args hp
theorem ok_laws_eqIntS : InlOk Try.prog 53 (callS G_laws_eqIntS) := byv_none co_laws_eqIntS Try.func53 r_laws_eqIntS rfl (fun _ _ h => h)
/- 23 laws_eqGate calls [laws_eqIntS]  -/
def F_laws_eqGate : RF := ⟨22, 2, [.t 4],
  .seq (.reg [⟨some 2, none, .box (.t 0)⟩, ⟨some 3, none, .box (.t 1)⟩, ⟨some 4, none, .mv (.c (.bool false))⟩]) (.seq (.seq (.reg [⟨some 5, none, .fa 0 (.t 2)⟩, ⟨some 6, none, .ld 1 false (.t 5)⟩, ⟨some 7, none, .fa 0 (.t 3)⟩, ⟨some 8, none, .ld 1 false (.t 7)⟩, ⟨some 9, none, .bin .neq (.t 6) (.t 8)⟩]) (.cond (.t 9) (.seq (.reg [⟨some 4, none, .mv (.c (.bool false))⟩]) (.ret)) (.skip))) (.seq (.seq (.reg [⟨some 10, none, .fa 1 (.t 2)⟩, ⟨some 11, none, .ld 1 false (.t 10)⟩, ⟨some 12, none, .fa 1 (.t 3)⟩, ⟨some 13, none, .ld 1 false (.t 12)⟩, ⟨some 14, none, .call 53 [(.t 11), (.t 13)]⟩, ⟨some 15, none, .un .not (.t 14)⟩]) (.cond (.t 15) (.seq (.reg [⟨some 4, none, .mv (.c (.bool false))⟩]) (.ret)) (.skip))) (.seq (.seq (.reg [⟨some 16, none, .fa 2 (.t 2)⟩, ⟨some 17, none, .ld 1 false (.t 16)⟩, ⟨some 18, none, .fa 2 (.t 3)⟩, ⟨some 19, none, .ld 1 false (.t 18)⟩, ⟨some 20, none, .call 53 [(.t 17), (.t 19)]⟩, ⟨some 21, none, .un .not (.t 20)⟩]) (.cond (.t 21) (.seq (.reg [⟨some 4, none, .mv (.c (.bool false))⟩]) (.ret)) (.skip))) (.seq (.reg [⟨some 4, none, .mv (.c (.bool true))⟩]) (.ret)))))⟩
def K_laws_eqGate : Keeps := []
theorem r_laws_eqGate : resolveF Try.prog Try.f23 K_laws_eqGate = some F_laws_eqGate := by kernel_rfl
noncomputable def X_laws_eqGate : Ctx := Ctx.cons 53 G_laws_eqIntS (fun _ => none)
theorem co_laws_eqGate : CtxOk Try.prog X_laws_eqGate := CtxOk.cons (CtxOk.nil) ok_laws_eqIntS
theorem cx_laws_eqGate : ((∀ args hp, callX X_laws_eqGate 53 args hp = callS G_laws_eqIntS args hp) ∧ (trC (X_laws_eqGate 53) = false)) := ⟨fun _ _ => rfl, rfl⟩
noncomputable def S_laws_eqGate : ByV := ⟨none, false, semF X_laws_eqGate F_laws_eqGate none false⟩
noncomputable def G_laws_eqGate : CK := .byv S_laws_eqGate
theorem sg_laws_eqGate (args : List AV) : S_laws_eqGate.sem args = semF X_laws_eqGate F_laws_eqGate none false args := rfl
theorem cl_laws_eqGate (args : List AV) (hp : Hp) : callS G_laws_eqGate args hp = byvS S_laws_eqGate args hp := callS_byv rfl rfl args hp
theorem ok_laws_eqGate : InlOk Try.prog 23 (callS G_laws_eqGate) := byv_none co_laws_eqGate Try.func23 r_laws_eqGate rfl (fun _ _ h => h)
/- 55 laws_markIntS calls []  -/
def B0_laws_markIntS : RC :=
  .seq (.seq (.reg [⟨some 6, none, .mv (.t 5)⟩, ⟨some 7, none, .mv (.t 0)⟩, ⟨some 8, none, .len false (.t 7)⟩, ⟨some 9, none, .bin .lss (.t 6) (.t 8)⟩]) (.cond (.t 9) (.skip) (.exit 0))) (.seq (.block 1 (.seq (.reg [⟨some 12, none, .mv (.t 0)⟩, ⟨some 13, none, .mv (.t 5)⟩, ⟨some 14, none, .mv (.t 1)⟩, ⟨some 15, none, .ia 1 (.t 12) (.t 13)⟩, ⟨none, none, .st 1 (.t 15) (.t 14)⟩]) (.reg [⟨some 16, none, .mv (.t 1)⟩, ⟨some 17, none, .bin .add (.t 16) (.c (.int .i64 1))⟩, ⟨some 1, none, .mv (.t 17)⟩]))) (.reg [⟨some 10, none, .mv (.t 5)⟩, ⟨some 11, none, .bin .add (.t 10) (.c (.int .i64 1))⟩, ⟨some 5, none, .mv (.t 11)⟩]))
def F_laws_markIntS : RF := ⟨19, 2, [.t 4],
  .seq (.reg [⟨some 4, none, .mv (.c (.int .i64 0))⟩]) (.seq (.seq (.reg [⟨some 5, none, .mv (.c (.int .i64 0))⟩]) (.block 0 (.loop [0, 1, 5] [(1, [1])] B0_laws_markIntS))) (.seq (.reg [⟨some 18, none, .mv (.t 1)⟩, ⟨some 4, none, .mv (.t 18)⟩]) (.ret)))⟩
def K_laws_markIntS : Keeps := [([0, 1, 5], [(1, [1])])]
theorem r_laws_markIntS : resolveF Try.prog Try.f55 K_laws_markIntS = some F_laws_markIntS := by kernel_rfl
noncomputable def X_laws_markIntS : Ctx := fun _ => none
theorem co_laws_markIntS : CtxOk Try.prog X_laws_markIntS := CtxOk.nil
theorem cx_laws_markIntS : True := trivial
noncomputable def S_laws_markIntS : ByV := ⟨some 0, false, semF X_laws_markIntS F_laws_markIntS (some 0) false⟩
noncomputable def G_laws_markIntS : CK := .byv S_laws_markIntS
theorem sg_laws_markIntS (args : List AV) : S_laws_markIntS.sem args = semF X_laws_markIntS F_laws_markIntS (some 0) false args := rfl
theorem cl_laws_markIntS (args : List AV) (hp : Hp) : callS G_laws_markIntS args hp = byvM S_laws_markIntS args hp := callS_byvM rfl args hp
theorem ok_laws_markIntS : InlOk Try.prog 55 (callS G_laws_markIntS) := byv_mark co_laws_markIntS Try.func55 r_laws_markIntS rfl (ro := false) (fun _ _ h => h)
/- 24 laws_markGate calls [laws_markIntS] inl -/
def F_laws_markGate : RF := ⟨14, 2, [.t 4],
  .seq (.reg [⟨some 2, none, .box (.t 0)⟩, ⟨some 4, none, .mv (.c (.int .i64 0))⟩]) (.seq (.reg [⟨some 5, none, .fa 1 (.t 2)⟩, ⟨some 6, none, .ld 1 false (.t 5)⟩, ⟨some 7, none, .mv (.t 1)⟩, ⟨some 8, none, .call 55 [(.t 6), (.t 7)]⟩, ⟨some 1, none, .mv (.t 8)⟩]) (.seq (.reg [⟨some 9, none, .fa 2 (.t 2)⟩, ⟨some 10, none, .ld 1 false (.t 9)⟩, ⟨some 11, none, .mv (.t 1)⟩, ⟨some 12, none, .call 55 [(.t 10), (.t 11)]⟩, ⟨some 1, none, .mv (.t 12)⟩]) (.seq (.reg [⟨some 13, none, .mv (.t 1)⟩, ⟨some 4, none, .mv (.t 13)⟩]) (.ret))))⟩
def K_laws_markGate : Keeps := []
theorem r_laws_markGate : resolveF Try.prog Try.f24 K_laws_markGate = some F_laws_markGate := by kernel_rfl
noncomputable def X_laws_markGate : Ctx := Ctx.cons 55 G_laws_markIntS (fun _ => none)
theorem co_laws_markGate : CtxOk Try.prog X_laws_markGate := CtxOk.cons (CtxOk.nil) ok_laws_markIntS
theorem cx_laws_markGate : ((∀ args hp, callX X_laws_markGate 55 args hp = callS G_laws_markIntS args hp) ∧ (trC (X_laws_markGate 55) = true)) := ⟨fun _ _ => rfl, rfl⟩
noncomputable def G_laws_markGate : CK := .inl (runF X_laws_markGate F_laws_markGate)
theorem cl_laws_markGate (args : List AV) (hp : Hp) : callS G_laws_markGate args hp = runF X_laws_markGate F_laws_markGate args hp := rfl
theorem ok_laws_markGate : InlOk Try.prog 24 (callS G_laws_markGate) := runF_ok co_laws_markGate Try.func24 r_laws_markGate
/- 56 laws_heldIntS calls []  -/
def B0_laws_heldIntS : RC :=
  .seq (.seq (.reg [⟨some 6, none, .mv (.t 5)⟩, ⟨some 7, none, .mv (.t 0)⟩, ⟨some 8, none, .len false (.t 7)⟩, ⟨some 9, none, .bin .lss (.t 6) (.t 8)⟩]) (.cond (.t 9) (.skip) (.exit 0))) (.seq (.block 1 (.seq (.seq (.reg [⟨some 12, none, .mv (.t 0)⟩, ⟨some 13, none, .mv (.t 5)⟩, ⟨some 14, none, .ia 1 (.t 12) (.t 13)⟩, ⟨some 15, none, .ld 1 false (.t 14)⟩, ⟨some 16, none, .mv (.t 1)⟩, ⟨some 17, none, .bin .neq (.t 15) (.t 16)⟩]) (.cond (.t 17) (.seq (.reg [⟨some 4, none, .mv (.c (.int .i64 (-1)))⟩]) (.ret)) (.skip))) (.reg [⟨some 18, none, .mv (.t 1)⟩, ⟨some 19, none, .bin .add (.t 18) (.c (.int .i64 1))⟩, ⟨some 1, none, .mv (.t 19)⟩]))) (.reg [⟨some 10, none, .mv (.t 5)⟩, ⟨some 11, none, .bin .add (.t 10) (.c (.int .i64 1))⟩, ⟨some 5, none, .mv (.t 11)⟩]))
def F_laws_heldIntS : RF := ⟨21, 2, [.t 4],
  .seq (.reg [⟨some 4, none, .mv (.c (.int .i64 0))⟩]) (.seq (.seq (.reg [⟨some 5, none, .mv (.c (.int .i64 0))⟩]) (.block 0 (.loop [0, 1, 5] [(1, [1]), (0, [4])] B0_laws_heldIntS))) (.seq (.reg [⟨some 20, none, .mv (.t 1)⟩, ⟨some 4, none, .mv (.t 20)⟩]) (.ret)))⟩
def K_laws_heldIntS : Keeps := [([0, 1, 5], [(1, [1]), (0, [4])])]
theorem r_laws_heldIntS : resolveF Try.prog Try.f56 K_laws_heldIntS = some F_laws_heldIntS := by kernel_rfl
noncomputable def X_laws_heldIntS : Ctx := fun _ => none
theorem co_laws_heldIntS : CtxOk Try.prog X_laws_heldIntS := CtxOk.nil
theorem cx_laws_heldIntS : True := trivial
noncomputable def S_laws_heldIntS : ByV := ⟨none, false, semF X_laws_heldIntS F_laws_heldIntS none false⟩
noncomputable def G_laws_heldIntS : CK := .byv S_laws_heldIntS
theorem sg_laws_heldIntS (args : List AV) : S_laws_heldIntS.sem args = semF X_laws_heldIntS F_laws_heldIntS none false args := rfl
theorem cl_laws_heldIntS (args : List AV) (hp : Hp) : callS G_laws_heldIntS args hp = byvS S_laws_heldIntS args hp := callS_byv rfl rfl args hp
theorem ok_laws_heldIntS : InlOk Try.prog 56 (callS G_laws_heldIntS) := byv_none co_laws_heldIntS Try.func56 r_laws_heldIntS rfl (fun _ _ h => h)
/- 25 laws_heldGate calls [laws_heldIntS]  -/
def F_laws_heldGate : RF := ⟨18, 2, [.t 4],
  .seq (.reg [⟨some 2, none, .box (.t 0)⟩, ⟨some 4, none, .mv (.c (.int .i64 0))⟩]) (.seq (.reg [⟨some 5, none, .fa 1 (.t 2)⟩, ⟨some 6, none, .ld 1 false (.t 5)⟩, ⟨some 7, none, .mv (.t 1)⟩, ⟨some 8, none, .call 56 [(.t 6), (.t 7)]⟩, ⟨some 1, none, .mv (.t 8)⟩]) (.seq (.seq (.reg [⟨some 9, none, .mv (.t 1)⟩, ⟨some 10, none, .bin .lss (.t 9) (.c (.int .i64 0))⟩]) (.cond (.t 10) (.seq (.reg [⟨some 4, none, .mv (.c (.int .i64 (-1)))⟩]) (.ret)) (.skip))) (.seq (.reg [⟨some 11, none, .fa 2 (.t 2)⟩, ⟨some 12, none, .ld 1 false (.t 11)⟩, ⟨some 13, none, .mv (.t 1)⟩, ⟨some 14, none, .call 56 [(.t 12), (.t 13)]⟩, ⟨some 1, none, .mv (.t 14)⟩]) (.seq (.seq (.reg [⟨some 15, none, .mv (.t 1)⟩, ⟨some 16, none, .bin .lss (.t 15) (.c (.int .i64 0))⟩]) (.cond (.t 16) (.seq (.reg [⟨some 4, none, .mv (.c (.int .i64 (-1)))⟩]) (.ret)) (.skip))) (.seq (.reg [⟨some 17, none, .mv (.t 1)⟩, ⟨some 4, none, .mv (.t 17)⟩]) (.ret))))))⟩
def K_laws_heldGate : Keeps := []
theorem r_laws_heldGate : resolveF Try.prog Try.f25 K_laws_heldGate = some F_laws_heldGate := by kernel_rfl
noncomputable def X_laws_heldGate : Ctx := Ctx.cons 56 G_laws_heldIntS (fun _ => none)
theorem co_laws_heldGate : CtxOk Try.prog X_laws_heldGate := CtxOk.cons (CtxOk.nil) ok_laws_heldIntS
theorem cx_laws_heldGate : ((∀ args hp, callX X_laws_heldGate 56 args hp = callS G_laws_heldIntS args hp) ∧ (trC (X_laws_heldGate 56) = false)) := ⟨fun _ _ => rfl, rfl⟩
noncomputable def S_laws_heldGate : ByV := ⟨none, false, semF X_laws_heldGate F_laws_heldGate none false⟩
noncomputable def G_laws_heldGate : CK := .byv S_laws_heldGate
theorem sg_laws_heldGate (args : List AV) : S_laws_heldGate.sem args = semF X_laws_heldGate F_laws_heldGate none false args := rfl
theorem cl_laws_heldGate (args : List AV) (hp : Hp) : callS G_laws_heldGate args hp = byvS S_laws_heldGate args hp := callS_byv rfl rfl args hp
theorem ok_laws_heldGate : InlOk Try.prog 25 (callS G_laws_heldGate) := byv_none co_laws_heldGate Try.func25 r_laws_heldGate rfl (fun _ _ h => h)
/- 7 laws_FnExactContinueAt calls [laws_szGate, laws_toGate, spec_ContinueAt, impl_ContinueAt, laws_eqGate, laws_markGate, laws_heldGate]  -/
def F_laws_FnExactContinueAt : RF := ⟨101, 2, [.t 4],
  .seq (.reg [⟨some 2, none, .box (.t 0)⟩, ⟨some 4, none, .mv (.c (.bool false))⟩]) (.seq (.reg [⟨some 5, none, .mv (.c (.int .i64 1048576))⟩]) (.seq (.reg [⟨some 16, none, .ld 3 true (.t 2)⟩, ⟨some 17, none, .mv (.t 5)⟩, ⟨some 18, none, .call 19 [(.t 16), (.t 17)]⟩, ⟨some 5, none, .mv (.t 18)⟩]) (.seq (.seq (.reg [⟨some 19, none, .mv (.t 5)⟩, ⟨some 20, none, .bin .lss (.t 19) (.c (.int .i64 0))⟩]) (.cond (.t 20) (.seq (.reg [⟨some 4, none, .mv (.c (.bool true))⟩]) (.ret)) (.skip))) (.seq (.reg [⟨some 22, none, .ld 3 true (.t 2)⟩, ⟨some 23, none, .call 21 [(.t 22)]⟩, ⟨some 24, none, .mv (.t 1)⟩, ⟨some 25, none, .call 30 [(.t 23), (.t 24)]⟩, ⟨some 21, none, .mv (.t 25)⟩, ⟨some 26, none, .ex (.t 21) 0⟩, ⟨some 27, none, .ex (.t 21) 1⟩, ⟨some 6, none, .new [(.int .i64 0), (.nil 1), (.nil 1)]⟩, ⟨none, none, .st 3 (.t 6) (.t 26)⟩, ⟨some 7, none, .mv (.t 27)⟩]) (.seq (.reg [⟨some 28, none, .ld 3 true (.t 2)⟩, ⟨some 29, none, .call 21 [(.t 28)]⟩, ⟨some 8, none, .new [(.int .i64 0), (.nil 1), (.nil 1)]⟩, ⟨none, none, .st 3 (.t 8) (.t 29)⟩]) (.seq (.reg [⟨some 31, none, .ld 3 true (.t 8)⟩, ⟨some 32, none, .mv (.t 1)⟩, ⟨some 33, none, .call 31 [(.t 31), (.t 32)]⟩, ⟨some 30, none, .mv (.t 33)⟩, ⟨some 34, none, .ex (.t 30) 0⟩, ⟨some 35, none, .ex (.t 30) 1⟩, ⟨some 9, none, .new [(.int .i64 0), (.nil 1), (.nil 1)]⟩, ⟨none, none, .st 3 (.t 9) (.t 34)⟩, ⟨some 10, none, .mv (.t 35)⟩]) (.seq (.seq (.reg [⟨some 36, none, .ld 3 true (.t 9)⟩, ⟨some 37, none, .ld 3 true (.t 6)⟩, ⟨some 38, none, .call 23 [(.t 36), (.t 37)]⟩, ⟨some 39, none, .un .not (.t 38)⟩, ⟨some 40, none, .mv (.t 39)⟩, ⟨some 41, some (40, false), .mv (.t 10)⟩, ⟨some 42, some (40, false), .mv (.t 7)⟩, ⟨some 43, some (40, false), .bin .neq (.t 41) (.t 42)⟩, ⟨some 44, none, .pick (.t 40) (.c (.bool true)) (.t 43)⟩]) (.cond (.t 44) (.seq (.reg [⟨some 4, none, .mv (.c (.bool false))⟩]) (.ret)) (.skip))) (.seq (.seq (.regd [(2, ⟨some 45, none, .ld 3 true (.t 8)⟩), (1, ⟨some 46, none, .ld 3 true (.t 2)⟩), (2, ⟨some 47, none, .call 21 [(.t 46)]⟩), (1, ⟨some 48, none, .call 23 [(.t 45), (.t 47)]⟩), (0, ⟨some 49, none, .un .not (.t 48)⟩)] [(0, 2)]) (.cond (.t 49) (.seq (.reg [⟨some 4, none, .mv (.c (.bool false))⟩]) (.ret)) (.skip))) (.seq (.reg [⟨some 11, none, .mv (.c (.int .i64 1))⟩]) (.seq (.reg [⟨some 50, none, .ld 3 true (.t 8)⟩, ⟨some 51, none, .mv (.t 11)⟩, ⟨some 52, none, .call 24 [(.t 50), (.t 51)]⟩, ⟨some 11, none, .mv (.t 52)⟩]) (.seq (.seq (.reg [⟨some 53, none, .mv (.t 11)⟩, ⟨some 54, none, .bin .lss (.t 53) (.c (.int .i64 0))⟩, ⟨some 55, none, .mv (.t 54)⟩, ⟨some 56, some (55, false), .ld 3 true (.t 9)⟩, ⟨some 57, some (55, false), .ld 3 true (.t 6)⟩, ⟨some 58, some (55, false), .call 23 [(.t 56), (.t 57)]⟩, ⟨some 59, some (55, false), .un .not (.t 58)⟩, ⟨some 60, none, .pick (.t 55) (.c (.bool true)) (.t 59)⟩, ⟨some 61, none, .mv (.t 60)⟩, ⟨some 62, some (61, false), .mv (.t 10)⟩, ⟨some 63, some (61, false), .mv (.t 7)⟩, ⟨some 64, some (61, false), .bin .neq (.t 62) (.t 63)⟩, ⟨some 65, none, .pick (.t 61) (.c (.bool true)) (.t 64)⟩]) (.cond (.t 65) (.seq (.reg [⟨some 4, none, .mv (.c (.bool false))⟩]) (.ret)) (.skip))) (.seq (.reg [⟨some 12, none, .mv (.c (.int .i64 1))⟩]) (.seq (.reg [⟨some 66, none, .ld 3 true (.t 9)⟩, ⟨some 67, none, .mv (.t 12)⟩, ⟨some 68, none, .call 24 [(.t 66), (.t 67)]⟩, ⟨some 12, none, .mv (.t 68)⟩]) (.seq (.reg [⟨some 13, none, .mv (.c (.int .i64 1))⟩]) (.seq (.reg [⟨some 69, none, .ld 3 true (.t 9)⟩, ⟨some 70, none, .mv (.t 13)⟩, ⟨some 71, none, .call 25 [(.t 69), (.t 70)]⟩, ⟨some 13, none, .mv (.t 71)⟩]) (.seq (.seq (.reg [⟨some 72, none, .mv (.t 13)⟩, ⟨some 73, none, .bin .lss (.t 72) (.c (.int .i64 0))⟩]) (.cond (.t 73) (.seq (.reg [⟨some 4, none, .mv (.c (.bool false))⟩]) (.ret)) (.skip))) (.seq (.seq (.reg [⟨some 74, none, .mv (.t 13)⟩, ⟨some 75, none, .mv (.t 12)⟩, ⟨some 76, none, .bin .neq (.t 74) (.t 75)⟩]) (.cond (.t 76) (.seq (.reg [⟨some 4, none, .mv (.c (.bool false))⟩]) (.ret)) (.skip))) (.seq (.reg [⟨some 78, none, .ld 3 true (.t 2)⟩, ⟨some 79, none, .call 21 [(.t 78)]⟩, ⟨some 80, none, .mv (.t 1)⟩, ⟨some 81, none, .call 31 [(.t 79), (.t 80)]⟩, ⟨some 77, none, .mv (.t 81)⟩, ⟨some 82, none, .ex (.t 77) 0⟩, ⟨some 83, none, .ex (.t 77) 1⟩, ⟨some 14, none, .new [(.int .i64 0), (.nil 1), (.nil 1)]⟩, ⟨none, none, .st 3 (.t 14) (.t 82)⟩, ⟨some 15, none, .mv (.t 83)⟩]) (.seq (.seq (.reg [⟨some 84, none, .ld 3 true (.t 14)⟩, ⟨some 85, none, .ld 3 true (.t 6)⟩, ⟨some 86, none, .call 23 [(.t 84), (.t 85)]⟩, ⟨some 87, none, .un .not (.t 86)⟩, ⟨some 88, none, .mv (.t 87)⟩, ⟨some 89, some (88, false), .mv (.t 15)⟩, ⟨some 90, some (88, false), .mv (.t 7)⟩, ⟨some 91, some (88, false), .bin .neq (.t 89) (.t 90)⟩, ⟨some 92, none, .pick (.t 88) (.c (.bool true)) (.t 91)⟩]) (.cond (.t 92) (.seq (.reg [⟨some 4, none, .mv (.c (.bool false))⟩]) (.ret)) (.skip))) (.seq (.reg [⟨some 13, none, .mv (.c (.int .i64 1))⟩]) (.seq (.reg [⟨some 93, none, .ld 3 true (.t 9)⟩, ⟨some 94, none, .mv (.t 13)⟩, ⟨some 95, none, .call 25 [(.t 93), (.t 94)]⟩, ⟨some 13, none, .mv (.t 95)⟩]) (.seq (.seq (.reg [⟨some 96, none, .mv (.t 13)⟩, ⟨some 97, none, .bin .lss (.t 96) (.c (.int .i64 0))⟩]) (.cond (.t 97) (.seq (.reg [⟨some 4, none, .mv (.c (.bool false))⟩]) (.ret)) (.skip))) (.seq (.seq (.reg [⟨some 98, none, .mv (.t 13)⟩, ⟨some 99, none, .mv (.t 12)⟩, ⟨some 100, none, .bin .neq (.t 98) (.t 99)⟩]) (.cond (.t 100) (.seq (.reg [⟨some 4, none, .mv (.c (.bool false))⟩]) (.ret)) (.skip))) (.seq (.reg [⟨some 4, none, .mv (.c (.bool true))⟩]) (.ret)))))))))))))))))))))))))⟩
def K_laws_FnExactContinueAt : Keeps := []
theorem r_laws_FnExactContinueAt : resolveF Try.prog Try.f7 K_laws_FnExactContinueAt = some F_laws_FnExactContinueAt := by kernel_rfl
noncomputable def X_laws_FnExactContinueAt : Ctx := Ctx.cons 19 G_laws_szGate (Ctx.cons 21 G_laws_toGate (Ctx.cons 30 G_spec_ContinueAt (Ctx.cons 31 G_impl_ContinueAt (Ctx.cons 23 G_laws_eqGate (Ctx.cons 24 G_laws_markGate (Ctx.cons 25 G_laws_heldGate (fun _ => none)))))))
theorem co_laws_FnExactContinueAt : CtxOk Try.prog X_laws_FnExactContinueAt := CtxOk.cons (CtxOk.cons (CtxOk.cons (CtxOk.cons (CtxOk.cons (CtxOk.cons (CtxOk.cons (CtxOk.nil) ok_laws_heldGate) ok_laws_markGate) ok_laws_eqGate) ok_impl_ContinueAt) ok_spec_ContinueAt) ok_laws_toGate) ok_laws_szGate
theorem cx_laws_FnExactContinueAt : ((∀ args hp, callX X_laws_FnExactContinueAt 19 args hp = callS G_laws_szGate args hp) ∧ (trC (X_laws_FnExactContinueAt 19) = false)) ∧ ((∀ args hp, callX X_laws_FnExactContinueAt 21 args hp = callS G_laws_toGate args hp) ∧ (trC (X_laws_FnExactContinueAt 21) = false)) ∧ ((∀ args hp, callX X_laws_FnExactContinueAt 30 args hp = callS G_spec_ContinueAt args hp) ∧ (trC (X_laws_FnExactContinueAt 30) = false)) ∧ ((∀ args hp, callX X_laws_FnExactContinueAt 31 args hp = callS G_impl_ContinueAt args hp) ∧ (trC (X_laws_FnExactContinueAt 31) = false)) ∧ ((∀ args hp, callX X_laws_FnExactContinueAt 23 args hp = callS G_laws_eqGate args hp) ∧ (trC (X_laws_FnExactContinueAt 23) = false)) ∧ ((∀ args hp, callX X_laws_FnExactContinueAt 24 args hp = callS G_laws_markGate args hp) ∧ (trC (X_laws_FnExactContinueAt 24) = true)) ∧ ((∀ args hp, callX X_laws_FnExactContinueAt 25 args hp = callS G_laws_heldGate args hp) ∧ (trC (X_laws_FnExactContinueAt 25) = false)) := ⟨⟨fun _ _ => rfl, rfl⟩, ⟨fun _ _ => rfl, rfl⟩, ⟨fun _ _ => rfl, rfl⟩, ⟨fun _ _ => rfl, rfl⟩, ⟨fun _ _ => rfl, rfl⟩, ⟨fun _ _ => rfl, rfl⟩, ⟨fun _ _ => rfl, rfl⟩⟩
end Go.Proofs.Ytdbomppmpkjmhaa.AI
