/- The functions that the law FnExactPlaceOf reaches, in the reckoner's words. -/
import Derived.Test.YtcappoimcdfggaaAOpen2
import Derived.Test.YtcappoimcdfggaaChecked
import Derived.ProofKit
namespace Go.Proofs.Ytcappoimcdfggaa.AI
open Go.Proofs
set_option linter.all false
set_option maxRecDepth 100000
/- 75 laws_szLine calls []  -/
def F_laws_szLine : RF := ⟨20, 2, [.t 4],
  .seq (.reg [⟨some 2, none, .box (.t 0)⟩, ⟨some 4, none, .mv (.c (.int .i64 0))⟩]) (.seq (.reg [⟨some 5, none, .mv (.t 1)⟩, ⟨some 6, none, .fa 0 (.t 2)⟩, ⟨some 7, none, .ld 1 false (.t 6)⟩, ⟨some 8, none, .len true (.t 7)⟩, ⟨some 9, none, .bin .sub (.t 5) (.t 8)⟩, ⟨some 1, none, .mv (.t 9)⟩]) (.seq (.seq (.reg [⟨some 10, none, .mv (.t 1)⟩, ⟨some 11, none, .bin .lss (.t 10) (.c (.int .i64 0))⟩]) (.cond (.t 11) (.seq (.reg [⟨some 4, none, .mv (.c (.int .i64 (-1)))⟩]) (.ret)) (.skip))) (.seq (.reg [⟨some 12, none, .mv (.t 1)⟩, ⟨some 13, none, .fa 5 (.t 2)⟩, ⟨some 14, none, .ld 1 false (.t 13)⟩, ⟨some 15, none, .len true (.t 14)⟩, ⟨some 16, none, .bin .sub (.t 12) (.t 15)⟩, ⟨some 1, none, .mv (.t 16)⟩]) (.seq (.seq (.reg [⟨some 17, none, .mv (.t 1)⟩, ⟨some 18, none, .bin .lss (.t 17) (.c (.int .i64 0))⟩]) (.cond (.t 18) (.seq (.reg [⟨some 4, none, .mv (.c (.int .i64 (-1)))⟩]) (.ret)) (.skip))) (.seq (.reg [⟨some 19, none, .mv (.t 1)⟩, ⟨some 4, none, .mv (.t 19)⟩]) (.ret))))))⟩
def K_laws_szLine : Keeps := []
theorem r_laws_szLine : resolveF Try.prog Try.f75 K_laws_szLine = some F_laws_szLine := by kernel_rfl
noncomputable def X_laws_szLine : Ctx := fun _ => none
theorem co_laws_szLine : CtxOk Try.prog X_laws_szLine := CtxOk.nil
theorem cx_laws_szLine : True := trivial
noncomputable def S_laws_szLine : ByV := ⟨none, false, semF X_laws_szLine F_laws_szLine none false⟩
noncomputable def G_laws_szLine : CK := .byv S_laws_szLine
theorem sg_laws_szLine (args : List AV) : S_laws_szLine.sem args = semF X_laws_szLine F_laws_szLine none false args := rfl
theorem cl_laws_szLine (args : List AV) (hp : Hp) : callS G_laws_szLine args hp = byvS S_laws_szLine args hp := callS_byv rfl rfl args hp
theorem ok_laws_szLine : InlOk Try.prog 75 (callS G_laws_szLine) := byv_none co_laws_szLine Try.func75 r_laws_szLine rfl (fun _ _ h => h)
/- 41 laws_szLineS calls [laws_szLine]  -/
def B0_laws_szLineS : RC :=
  .seq (.seq (.reg [⟨some 12, none, .mv (.t 5)⟩, ⟨some 13, none, .mv (.t 0)⟩, ⟨some 14, none, .len false (.t 13)⟩, ⟨some 15, none, .bin .lss (.t 12) (.t 14)⟩]) (.cond (.t 15) (.skip) (.exit 0))) (.seq (.block 1 (.seq (.reg [⟨some 18, none, .mv (.t 0)⟩, ⟨some 19, none, .mv (.t 5)⟩, ⟨some 20, none, .ia 6 (.t 18) (.t 19)⟩, ⟨some 21, none, .ld 6 true (.t 20)⟩, ⟨some 22, none, .mv (.t 1)⟩, ⟨some 23, none, .call 75 [(.t 21), (.t 22)]⟩, ⟨some 1, none, .mv (.t 23)⟩]) (.seq (.reg [⟨some 24, none, .mv (.t 1)⟩, ⟨some 25, none, .bin .lss (.t 24) (.c (.int .i64 0))⟩]) (.cond (.t 25) (.seq (.reg [⟨some 4, none, .mv (.c (.int .i64 (-1)))⟩]) (.ret)) (.skip))))) (.reg [⟨some 16, none, .mv (.t 5)⟩, ⟨some 17, none, .bin .add (.t 16) (.c (.int .i64 1))⟩, ⟨some 5, none, .mv (.t 17)⟩]))
def F_laws_szLineS : RF := ⟨27, 2, [.t 4],
  .seq (.reg [⟨some 4, none, .mv (.c (.int .i64 0))⟩]) (.seq (.reg [⟨some 6, none, .mv (.t 1)⟩, ⟨some 7, none, .mv (.t 0)⟩, ⟨some 8, none, .len false (.t 7)⟩, ⟨some 9, none, .bin .sub (.t 6) (.t 8)⟩, ⟨some 1, none, .mv (.t 9)⟩]) (.seq (.seq (.reg [⟨some 10, none, .mv (.t 1)⟩, ⟨some 11, none, .bin .lss (.t 10) (.c (.int .i64 0))⟩]) (.cond (.t 11) (.seq (.reg [⟨some 4, none, .mv (.c (.int .i64 (-1)))⟩]) (.ret)) (.skip))) (.seq (.seq (.reg [⟨some 5, none, .mv (.c (.int .i64 0))⟩]) (.block 0 (.loop [0, 1, 5] [(1, [1]), (0, [4])] B0_laws_szLineS))) (.seq (.reg [⟨some 26, none, .mv (.t 1)⟩, ⟨some 4, none, .mv (.t 26)⟩]) (.ret)))))⟩
def K_laws_szLineS : Keeps := [([0, 1, 5], [(1, [1]), (0, [4])])]
theorem r_laws_szLineS : resolveF Try.prog Try.f41 K_laws_szLineS = some F_laws_szLineS := by kernel_rfl
noncomputable def X_laws_szLineS : Ctx := Ctx.cons 75 G_laws_szLine (fun _ => none)
theorem co_laws_szLineS : CtxOk Try.prog X_laws_szLineS := CtxOk.cons (CtxOk.nil) ok_laws_szLine
theorem cx_laws_szLineS : (∀ args hp, callX X_laws_szLineS 75 args hp = callS G_laws_szLine args hp) := fun _ _ => rfl
noncomputable def S_laws_szLineS : ByV := ⟨none, false, semF X_laws_szLineS F_laws_szLineS none false⟩
noncomputable def G_laws_szLineS : CK := .byv S_laws_szLineS
theorem sg_laws_szLineS (args : List AV) : S_laws_szLineS.sem args = semF X_laws_szLineS F_laws_szLineS none false args := rfl
theorem cl_laws_szLineS (args : List AV) (hp : Hp) : callS G_laws_szLineS args hp = byvS S_laws_szLineS args hp := callS_byv rfl rfl args hp
theorem ok_laws_szLineS : InlOk Try.prog 41 (callS G_laws_szLineS) := byv_none co_laws_szLineS Try.func41 r_laws_szLineS rfl (fun _ _ h => h)
/- 16 laws_toIns calls []  -/
def F_laws_toIns : RF := ⟨17, 1, [.cell 2 4 true],
  .seq (.reg [⟨some 1, none, .box (.t 0)⟩, ⟨some 2, none, .new [(.int .i64 0), (.int .i64 0), (.int .i64 0), (.int .i64 0)]⟩]) (.seq (.reg [⟨some 3, none, .new [(.int .i64 0), (.int .i64 0), (.int .i64 0), (.int .i64 0)]⟩]) (.seq (.reg [⟨some 4, none, .fa 0 (.t 1)⟩, ⟨some 5, none, .ld 1 false (.t 4)⟩, ⟨some 6, none, .fa 0 (.t 3)⟩, ⟨none, none, .st 1 (.t 6) (.t 5)⟩]) (.seq (.reg [⟨some 7, none, .fa 1 (.t 1)⟩, ⟨some 8, none, .ld 1 false (.t 7)⟩, ⟨some 9, none, .fa 1 (.t 3)⟩, ⟨none, none, .st 1 (.t 9) (.t 8)⟩]) (.seq (.reg [⟨some 10, none, .fa 2 (.t 1)⟩, ⟨some 11, none, .ld 1 false (.t 10)⟩, ⟨some 12, none, .fa 2 (.t 3)⟩, ⟨none, none, .st 1 (.t 12) (.t 11)⟩]) (.seq (.reg [⟨some 13, none, .fa 3 (.t 1)⟩, ⟨some 14, none, .ld 1 false (.t 13)⟩, ⟨some 15, none, .fa 3 (.t 3)⟩, ⟨none, none, .st 1 (.t 15) (.t 14)⟩]) (.seq (.reg [⟨some 16, none, .ld 4 true (.t 3)⟩, ⟨none, none, .st 4 (.t 2) (.t 16)⟩]) (.ret)))))))⟩
def K_laws_toIns : Keeps := []
theorem r_laws_toIns : resolveF Try.prog Try.f16 K_laws_toIns = some F_laws_toIns := by kernel_rfl
noncomputable def X_laws_toIns : Ctx := fun _ => none
theorem co_laws_toIns : CtxOk Try.prog X_laws_toIns := CtxOk.nil
theorem cx_laws_toIns : True := trivial
noncomputable def S_laws_toIns : ByV := ⟨none, false, semF X_laws_toIns F_laws_toIns none false⟩
noncomputable def G_laws_toIns : CK := .byv S_laws_toIns
theorem sg_laws_toIns (args : List AV) : S_laws_toIns.sem args = semF X_laws_toIns F_laws_toIns none false args := rfl
theorem cl_laws_toIns (args : List AV) (hp : Hp) : callS G_laws_toIns args hp = byvS S_laws_toIns args hp := callS_byv rfl rfl args hp
theorem ok_laws_toIns : InlOk Try.prog 16 (callS G_laws_toIns) := byv_none co_laws_toIns Try.func16 r_laws_toIns rfl (fun _ _ h => h)
/- 76 laws_toLine calls [laws_toIns]  -/
def F_laws_toLine : RF := ⟨15, 1, [.cell 2 6 true],
  .seq (.reg [⟨some 1, none, .box (.t 0)⟩, ⟨some 2, none, .new [(.str ⟨#[]⟩), (.int .i64 0), (.int .i64 0), (.int .i64 0), (.int .i64 0), (.str ⟨#[]⟩)]⟩]) (.seq (.reg [⟨some 3, none, .new [(.str ⟨#[]⟩), (.int .i64 0), (.int .i64 0), (.int .i64 0), (.int .i64 0), (.str ⟨#[]⟩)]⟩]) (.seq (.reg [⟨some 4, none, .fa 0 (.t 1)⟩, ⟨some 5, none, .ld 1 false (.t 4)⟩, ⟨some 6, none, .fa 0 (.t 3)⟩, ⟨none, none, .st 1 (.t 6) (.t 5)⟩]) (.seq (.reg [⟨some 7, none, .fa 1 (.t 1)⟩, ⟨some 8, none, .ld 4 true (.t 7)⟩, ⟨some 9, none, .call 16 [(.t 8)]⟩, ⟨some 10, none, .fa 1 (.t 3)⟩, ⟨none, none, .st 4 (.t 10) (.t 9)⟩]) (.seq (.reg [⟨some 11, none, .fa 5 (.t 1)⟩, ⟨some 12, none, .ld 1 false (.t 11)⟩, ⟨some 13, none, .fa 5 (.t 3)⟩, ⟨none, none, .st 1 (.t 13) (.t 12)⟩]) (.seq (.reg [⟨some 14, none, .ld 6 true (.t 3)⟩, ⟨none, none, .st 6 (.t 2) (.t 14)⟩]) (.ret))))))⟩
def K_laws_toLine : Keeps := []
theorem r_laws_toLine : resolveF Try.prog Try.f76 K_laws_toLine = some F_laws_toLine := by kernel_rfl
noncomputable def X_laws_toLine : Ctx := Ctx.cons 16 G_laws_toIns (fun _ => none)
theorem co_laws_toLine : CtxOk Try.prog X_laws_toLine := CtxOk.cons (CtxOk.nil) ok_laws_toIns
theorem cx_laws_toLine : (∀ args hp, callX X_laws_toLine 16 args hp = callS G_laws_toIns args hp) := fun _ _ => rfl
noncomputable def S_laws_toLine : ByV := ⟨none, false, semF X_laws_toLine F_laws_toLine none false⟩
noncomputable def G_laws_toLine : CK := .byv S_laws_toLine
theorem sg_laws_toLine (args : List AV) : S_laws_toLine.sem args = semF X_laws_toLine F_laws_toLine none false args := rfl
theorem cl_laws_toLine (args : List AV) (hp : Hp) : callS G_laws_toLine args hp = byvS S_laws_toLine args hp := callS_byv rfl rfl args hp
theorem ok_laws_toLine : InlOk Try.prog 76 (callS G_laws_toLine) := byv_none co_laws_toLine Try.func76 r_laws_toLine rfl (fun _ _ h => h)
/- 43 laws_toLineS calls [laws_toLine]  -/
def B0_laws_toLineS : RC :=
  .seq (.seq (.reg [⟨some 8, none, .mv (.t 4)⟩, ⟨some 9, none, .mv (.t 0)⟩, ⟨some 10, none, .len false (.t 9)⟩, ⟨some 11, none, .bin .lss (.t 8) (.t 10)⟩]) (.cond (.t 11) (.skip) (.exit 0))) (.seq (.block 1 (.reg [⟨some 14, none, .mv (.t 3)⟩, ⟨some 15, none, .mv (.t 4)⟩, ⟨some 16, none, .mv (.t 0)⟩, ⟨some 17, none, .mv (.t 4)⟩, ⟨some 18, none, .ia 6 (.t 16) (.t 17)⟩, ⟨some 19, none, .ld 6 true (.t 18)⟩, ⟨some 20, none, .call 76 [(.t 19)]⟩, ⟨some 21, none, .ia 6 (.t 14) (.t 15)⟩, ⟨none, none, .st 6 (.t 21) (.t 20)⟩])) (.reg [⟨some 12, none, .mv (.t 4)⟩, ⟨some 13, none, .bin .add (.t 12) (.c (.int .i64 1))⟩, ⟨some 4, none, .mv (.t 13)⟩]))
def F_laws_toLineS : RF := ⟨23, 1, [.t 2],
  .seq (.reg [⟨some 2, none, .mv (.c (.nil 6))⟩]) (.seq (.reg [⟨some 5, none, .mv (.t 0)⟩, ⟨some 6, none, .len false (.t 5)⟩, ⟨some 7, none, .mk 6 [(.str ⟨#[]⟩), (.int .i64 0), (.int .i64 0), (.int .i64 0), (.int .i64 0), (.str ⟨#[]⟩)] 64 (.t 6) (.t 6)⟩, ⟨some 3, none, .mv (.t 7)⟩]) (.seq (.seq (.reg [⟨some 4, none, .mv (.c (.int .i64 0))⟩]) (.block 0 (.loop [0, 3, 4] [(1, [3])] B0_laws_toLineS))) (.seq (.reg [⟨some 22, none, .mv (.t 3)⟩, ⟨some 2, none, .mv (.t 22)⟩]) (.ret))))⟩
def K_laws_toLineS : Keeps := [([0, 3, 4], [(1, [3])])]
theorem r_laws_toLineS : resolveF Try.prog Try.f43 K_laws_toLineS = some F_laws_toLineS := by kernel_rfl
noncomputable def X_laws_toLineS : Ctx := Ctx.cons 76 G_laws_toLine (fun _ => none)
theorem co_laws_toLineS : CtxOk Try.prog X_laws_toLineS := CtxOk.cons (CtxOk.nil) ok_laws_toLine
theorem cx_laws_toLineS : (∀ args hp, callX X_laws_toLineS 76 args hp = callS G_laws_toLine args hp) := fun _ _ => rfl
noncomputable def S_laws_toLineS : ByV := ⟨none, false, semF X_laws_toLineS F_laws_toLineS none false⟩
noncomputable def G_laws_toLineS : CK := .byv S_laws_toLineS
theorem sg_laws_toLineS (args : List AV) : S_laws_toLineS.sem args = semF X_laws_toLineS F_laws_toLineS none false args := rfl
theorem cl_laws_toLineS (args : List AV) (hp : Hp) : callS G_laws_toLineS args hp = byvS S_laws_toLineS args hp := callS_byv rfl rfl args hp
theorem ok_laws_toLineS : InlOk Try.prog 43 (callS G_laws_toLineS) := byv_none co_laws_toLineS Try.func43 r_laws_toLineS rfl (fun _ _ h => h)
/- 87 spec_l16First calls []  -/
def B0_spec_l16First : RC :=
  .seq (.seq (.reg [⟨some 6, none, .mv (.t 5)⟩, ⟨some 7, none, .mv (.t 0)⟩, ⟨some 8, none, .len false (.t 7)⟩, ⟨some 9, none, .bin .lss (.t 6) (.t 8)⟩]) (.cond (.t 9) (.skip) (.exit 0))) (.seq (.block 1 (.seq (.reg [⟨some 12, none, .mv (.t 0)⟩, ⟨some 13, none, .mv (.t 5)⟩, ⟨some 14, none, .ia 6 (.t 12) (.t 13)⟩, ⟨some 15, none, .fa 1 (.t 14)⟩, ⟨some 16, none, .fa 0 (.t 15)⟩, ⟨some 17, none, .ld 1 false (.t 16)⟩, ⟨some 18, none, .bin .eql (.t 17) (.c (.int .i64 0))⟩, ⟨some 19, none, .mv (.t 18)⟩, ⟨some 20, some (19, true), .mv (.t 0)⟩, ⟨some 21, some (19, true), .mv (.t 5)⟩, ⟨some 22, some (19, true), .ia 6 (.t 20) (.t 21)⟩, ⟨some 23, some (19, true), .fa 0 (.t 22)⟩, ⟨some 24, some (19, true), .ld 1 false (.t 23)⟩, ⟨some 25, some (19, true), .mv (.t 1)⟩, ⟨some 26, some (19, true), .bin .eql (.t 24) (.t 25)⟩, ⟨some 27, none, .pick (.t 19) (.t 26) (.c (.bool false))⟩]) (.cond (.t 27) (.seq (.reg [⟨some 28, none, .mv (.t 5)⟩, ⟨some 4, none, .mv (.t 28)⟩]) (.ret)) (.skip)))) (.reg [⟨some 10, none, .mv (.t 5)⟩, ⟨some 11, none, .bin .add (.t 10) (.c (.int .i64 1))⟩, ⟨some 5, none, .mv (.t 11)⟩]))
def F_spec_l16First : RF := ⟨29, 2, [.t 4],
  .seq (.reg [⟨some 4, none, .mv (.c (.int .i64 0))⟩]) (.seq (.seq (.reg [⟨some 5, none, .mv (.c (.int .i64 0))⟩]) (.block 0 (.loop [0, 1, 5] [(1, []), (0, [4])] B0_spec_l16First))) (.seq (.reg [⟨some 4, none, .mv (.c (.int .i64 (-1)))⟩]) (.ret)))⟩
def K_spec_l16First : Keeps := [([0, 1, 5], [(1, []), (0, [4])])]
theorem r_spec_l16First : resolveF Try.prog Try.f87 K_spec_l16First = some F_spec_l16First := by kernel_rfl
noncomputable def X_spec_l16First : Ctx := fun _ => none
theorem co_spec_l16First : CtxOk Try.prog X_spec_l16First := CtxOk.nil
theorem cx_spec_l16First : True := trivial
noncomputable def S_spec_l16First : ByV := ⟨none, false, semF X_spec_l16First F_spec_l16First none false⟩
noncomputable def G_spec_l16First : CK := .byv S_spec_l16First
theorem sg_spec_l16First (args : List AV) : S_spec_l16First.sem args = semF X_spec_l16First F_spec_l16First none false args := rfl
theorem cl_spec_l16First (args : List AV) (hp : Hp) : callS G_spec_l16First args hp = byvS S_spec_l16First args hp := callS_byv rfl rfl args hp
theorem ok_spec_l16First : InlOk Try.prog 87 (callS G_spec_l16First) := byv_none co_spec_l16First Try.func87 r_spec_l16First rfl (fun _ _ h => h)
/- 42 spec_CountOf calls []  -/
def B0_spec_CountOf : RC :=
  .seq (.seq (.reg [⟨some 5, none, .mv (.t 4)⟩, ⟨some 6, none, .mv (.t 0)⟩, ⟨some 7, none, .len false (.t 6)⟩, ⟨some 8, none, .bin .lss (.t 5) (.t 7)⟩]) (.cond (.t 8) (.skip) (.exit 0))) (.seq (.block 1 (.seq (.reg [⟨some 11, none, .mv (.t 0)⟩, ⟨some 12, none, .mv (.t 4)⟩, ⟨some 13, none, .ia 6 (.t 11) (.t 12)⟩, ⟨some 14, none, .fa 1 (.t 13)⟩, ⟨some 15, none, .fa 0 (.t 14)⟩, ⟨some 16, none, .ld 1 false (.t 15)⟩, ⟨some 17, none, .bin .neq (.t 16) (.c (.int .i64 0))⟩]) (.cond (.t 17) (.reg [⟨some 18, none, .mv (.t 3)⟩, ⟨some 19, none, .bin .add (.t 18) (.c (.int .i64 1))⟩, ⟨some 3, none, .mv (.t 19)⟩]) (.skip)))) (.reg [⟨some 9, none, .mv (.t 4)⟩, ⟨some 10, none, .bin .add (.t 9) (.c (.int .i64 1))⟩, ⟨some 4, none, .mv (.t 10)⟩]))
def F_spec_CountOf : RF := ⟨21, 1, [.t 2],
  .seq (.reg [⟨some 2, none, .mv (.c (.int .i64 0))⟩]) (.seq (.reg [⟨some 3, none, .mv (.c (.int .i64 0))⟩]) (.seq (.seq (.reg [⟨some 4, none, .mv (.c (.int .i64 0))⟩]) (.block 0 (.loop [0, 3, 4] [(1, [3])] B0_spec_CountOf))) (.seq (.reg [⟨some 20, none, .mv (.t 3)⟩, ⟨some 2, none, .mv (.t 20)⟩]) (.ret))))⟩
def K_spec_CountOf : Keeps := [([0, 3, 4], [(1, [3])])]
theorem r_spec_CountOf : resolveF Try.prog Try.f42 K_spec_CountOf = some F_spec_CountOf := by kernel_rfl
noncomputable def X_spec_CountOf : Ctx := fun _ => none
theorem co_spec_CountOf : CtxOk Try.prog X_spec_CountOf := CtxOk.nil
theorem cx_spec_CountOf : True := trivial
noncomputable def S_spec_CountOf : ByV := ⟨none, false, semF X_spec_CountOf F_spec_CountOf none false⟩
noncomputable def G_spec_CountOf : CK := .byv S_spec_CountOf
theorem sg_spec_CountOf (args : List AV) : S_spec_CountOf.sem args = semF X_spec_CountOf F_spec_CountOf none false args := rfl
theorem cl_spec_CountOf (args : List AV) (hp : Hp) : callS G_spec_CountOf args hp = byvS S_spec_CountOf args hp := callS_byv rfl rfl args hp
theorem ok_spec_CountOf : InlOk Try.prog 42 (callS G_spec_CountOf) := byv_none co_spec_CountOf Try.func42 r_spec_CountOf rfl (fun _ _ h => h)
/- 59 spec_PlaceOf calls [spec_l16First, spec_CountOf]  -/
def F_spec_PlaceOf : RF := ⟨15, 2, [.t 4],
  .seq (.reg [⟨some 4, none, .mv (.c (.int .i64 0))⟩]) (.seq (.reg [⟨some 6, none, .mv (.t 0)⟩, ⟨some 7, none, .mv (.t 1)⟩, ⟨some 8, none, .call 87 [(.t 6), (.t 7)]⟩, ⟨some 5, none, .mv (.t 8)⟩]) (.seq (.seq (.reg [⟨some 9, none, .mv (.t 5)⟩, ⟨some 10, none, .bin .lss (.t 9) (.c (.int .i64 0))⟩]) (.cond (.t 10) (.seq (.reg [⟨some 4, none, .mv (.c (.int .i64 (-1)))⟩]) (.ret)) (.skip))) (.seq (.reg [⟨some 11, none, .mv (.t 0)⟩, ⟨some 12, none, .mv (.t 5)⟩, ⟨some 13, none, .slc false 6 (.t 11) none (some (.t 12))⟩, ⟨some 14, none, .call 42 [(.t 13)]⟩, ⟨some 4, none, .mv (.t 14)⟩]) (.ret))))⟩
def K_spec_PlaceOf : Keeps := []
theorem r_spec_PlaceOf : resolveF Try.prog Try.f59 K_spec_PlaceOf = some F_spec_PlaceOf := by kernel_rfl
noncomputable def X_spec_PlaceOf : Ctx := Ctx.cons 87 G_spec_l16First (Ctx.cons 42 G_spec_CountOf (fun _ => none))
theorem co_spec_PlaceOf : CtxOk Try.prog X_spec_PlaceOf := CtxOk.cons (CtxOk.cons (CtxOk.nil) ok_spec_CountOf) ok_spec_l16First
theorem cx_spec_PlaceOf : (∀ args hp, callX X_spec_PlaceOf 87 args hp = callS G_spec_l16First args hp) ∧ (∀ args hp, callX X_spec_PlaceOf 42 args hp = callS G_spec_CountOf args hp) := ⟨fun _ _ => rfl, fun _ _ => rfl⟩
noncomputable def S_spec_PlaceOf : ByV := ⟨none, false, semF X_spec_PlaceOf F_spec_PlaceOf none false⟩
noncomputable def G_spec_PlaceOf : CK := .byv S_spec_PlaceOf
theorem sg_spec_PlaceOf (args : List AV) : S_spec_PlaceOf.sem args = semF X_spec_PlaceOf F_spec_PlaceOf none false args := rfl
theorem cl_spec_PlaceOf (args : List AV) (hp : Hp) : callS G_spec_PlaceOf args hp = byvS S_spec_PlaceOf args hp := callS_byv rfl rfl args hp
theorem ok_spec_PlaceOf : InlOk Try.prog 59 (callS G_spec_PlaceOf) := byv_none co_spec_PlaceOf Try.func59 r_spec_PlaceOf rfl (fun _ _ h => h)
/- 92 impl_labelAt_1 calls [] inl -/
def F_impl_labelAt_1 : RF := ⟨14, 2, [.t 3],
  .seq (.reg [⟨some 2, none, .box (.t 0)⟩, ⟨some 3, none, .mv (.c (.bool false))⟩]) (.seq (.reg [⟨some 4, none, .fa 1 (.t 2)⟩, ⟨some 5, none, .fa 0 (.t 4)⟩, ⟨some 6, none, .ld 1 false (.t 5)⟩, ⟨some 7, none, .bin .eql (.t 6) (.c (.int .i64 0))⟩, ⟨some 8, none, .mv (.t 7)⟩, ⟨some 9, some (8, true), .fa 0 (.t 2)⟩, ⟨some 10, some (8, true), .ld 1 false (.t 9)⟩, ⟨some 11, some (8, true), .ld 1 false (.t 1)⟩, ⟨some 12, some (8, true), .bin .eql (.t 10) (.t 11)⟩, ⟨some 13, none, .pick (.t 8) (.t 12) (.c (.bool false))⟩, ⟨some 3, none, .mv (.t 13)⟩]) (.ret))⟩
def K_impl_labelAt_1 : Keeps := []
theorem r_impl_labelAt_1 : resolveF Try.prog Try.f92 K_impl_labelAt_1 = some F_impl_labelAt_1 := by kernel_rfl
noncomputable def X_impl_labelAt_1 : Ctx := fun _ => none
theorem co_impl_labelAt_1 : CtxOk Try.prog X_impl_labelAt_1 := CtxOk.nil
theorem cx_impl_labelAt_1 : True := trivial
noncomputable def G_impl_labelAt_1 : CK := .inl (runF X_impl_labelAt_1 F_impl_labelAt_1)
theorem cl_impl_labelAt_1 (args : List AV) (hp : Hp) : callS G_impl_labelAt_1 args hp = runF X_impl_labelAt_1 F_impl_labelAt_1 args hp := rfl
theorem ok_impl_labelAt_1 : InlOk Try.prog 92 (callS G_impl_labelAt_1) := runF_ok co_impl_labelAt_1 Try.func92 r_impl_labelAt_1
/- 91 slices_IndexFunc_impl_Line_impl_Line calls [impl_labelAt_1]  -/
def B0_slices_IndexFunc_impl_Line_impl_Line : RC :=
  .seq (.reg [⟨some 9, none, .bin .lss (.t 8) (.t 7)⟩]) (.seq (.cond (.t 9) (.skip) (.exit 0)) (.seq (.block 1 (.seq (.reg [⟨some 10, none, .mv (.t 8)⟩, ⟨some 5, none, .mv (.t 10)⟩]) (.seq (.reg [⟨some 11, none, .mv (.t 1)⟩, ⟨some 12, none, .mv (.t 0)⟩, ⟨some 13, none, .mv (.t 5)⟩, ⟨some 14, none, .ia 6 (.t 12) (.t 13)⟩, ⟨some 15, none, .ld 6 true (.t 14)⟩, ⟨some 16, none, .callv (.t 11) [(.t 15)]⟩]) (.cond (.t 16) (.seq (.reg [⟨some 17, none, .mv (.t 5)⟩, ⟨some 4, none, .mv (.t 17)⟩]) (.ret)) (.skip))))) (.reg [⟨some 18, none, .bin .add (.t 8) (.c (.int .i64 1))⟩, ⟨some 8, none, .mv (.t 18)⟩])))
def F_slices_IndexFunc_impl_Line_impl_Line : RF := ⟨19, 2, [.t 4],
  .seq (.reg [⟨some 4, none, .mv (.c (.int .i64 0))⟩]) (.seq (.seq (.reg [⟨some 6, none, .mv (.t 0)⟩, ⟨some 7, none, .len false (.t 6)⟩, ⟨some 8, none, .mv (.c (.int .i64 0))⟩]) (.block 0 (.loop [0, 1, 7, 8] [(1, []), (0, [4])] B0_slices_IndexFunc_impl_Line_impl_Line))) (.seq (.reg [⟨some 4, none, .mv (.c (.int .i64 (-1)))⟩]) (.ret)))⟩
def K_slices_IndexFunc_impl_Line_impl_Line : Keeps := [([0, 1, 7, 8], [(1, []), (0, [4])])]
theorem r_slices_IndexFunc_impl_Line_impl_Line : resolveF Try.prog Try.f91 K_slices_IndexFunc_impl_Line_impl_Line = some F_slices_IndexFunc_impl_Line_impl_Line := by kernel_rfl
noncomputable def X_slices_IndexFunc_impl_Line_impl_Line : Ctx := Ctx.cons 92 G_impl_labelAt_1 (fun _ => none)
theorem co_slices_IndexFunc_impl_Line_impl_Line : CtxOk Try.prog X_slices_IndexFunc_impl_Line_impl_Line := CtxOk.cons (CtxOk.nil) ok_impl_labelAt_1
theorem cx_slices_IndexFunc_impl_Line_impl_Line : (∀ args hp, callX X_slices_IndexFunc_impl_Line_impl_Line 92 args hp = callS G_impl_labelAt_1 args hp) := fun _ _ => rfl
noncomputable def S_slices_IndexFunc_impl_Line_impl_Line : ByV := ⟨none, false, semF X_slices_IndexFunc_impl_Line_impl_Line F_slices_IndexFunc_impl_Line_impl_Line none false⟩
noncomputable def G_slices_IndexFunc_impl_Line_impl_Line : CK := .byv S_slices_IndexFunc_impl_Line_impl_Line
theorem sg_slices_IndexFunc_impl_Line_impl_Line (args : List AV) : S_slices_IndexFunc_impl_Line_impl_Line.sem args = semF X_slices_IndexFunc_impl_Line_impl_Line F_slices_IndexFunc_impl_Line_impl_Line none false args := rfl
theorem cl_slices_IndexFunc_impl_Line_impl_Line (args : List AV) (hp : Hp) : callS G_slices_IndexFunc_impl_Line_impl_Line args hp = byvS S_slices_IndexFunc_impl_Line_impl_Line args hp := callS_byv rfl rfl args hp
theorem ok_slices_IndexFunc_impl_Line_impl_Line : InlOk Try.prog 91 (callS G_slices_IndexFunc_impl_Line_impl_Line) := byv_none co_slices_IndexFunc_impl_Line_impl_Line Try.func91 r_slices_IndexFunc_impl_Line_impl_Line rfl (fun _ _ h => h)
/- 88 impl_labelAt calls [slices_IndexFunc_impl_Line_impl_Line]  -/
def F_impl_labelAt : RF := ⟨8, 2, [.t 4],
  .seq (.reg [⟨some 3, none, .box (.t 1)⟩, ⟨some 4, none, .mv (.c (.int .i64 0))⟩]) (.seq (.reg [⟨some 5, none, .mv (.t 0)⟩, ⟨some 6, none, .mkf 92 [(.t 3)]⟩, ⟨some 7, none, .call 91 [(.t 5), (.t 6)]⟩, ⟨some 4, none, .mv (.t 7)⟩]) (.ret))⟩
def K_impl_labelAt : Keeps := []
theorem r_impl_labelAt : resolveF Try.prog Try.f88 K_impl_labelAt = some F_impl_labelAt := by kernel_rfl
noncomputable def X_impl_labelAt : Ctx := Ctx.cons 91 G_slices_IndexFunc_impl_Line_impl_Line (fun _ => none)
theorem co_impl_labelAt : CtxOk Try.prog X_impl_labelAt := CtxOk.cons (CtxOk.nil) ok_slices_IndexFunc_impl_Line_impl_Line
theorem cx_impl_labelAt : (∀ args hp, callX X_impl_labelAt 91 args hp = callS G_slices_IndexFunc_impl_Line_impl_Line args hp) := fun _ _ => rfl
noncomputable def S_impl_labelAt : ByV := ⟨none, false, semF X_impl_labelAt F_impl_labelAt none false⟩
noncomputable def G_impl_labelAt : CK := .byv S_impl_labelAt
theorem sg_impl_labelAt (args : List AV) : S_impl_labelAt.sem args = semF X_impl_labelAt F_impl_labelAt none false args := rfl
theorem cl_impl_labelAt (args : List AV) (hp : Hp) : callS G_impl_labelAt args hp = byvS S_impl_labelAt args hp := callS_byv rfl rfl args hp
theorem ok_impl_labelAt : InlOk Try.prog 88 (callS G_impl_labelAt) := byv_none co_impl_labelAt Try.func88 r_impl_labelAt rfl (fun _ _ h => h)
/- 44 impl_CountOf calls []  -/
def B0_impl_CountOf : RC :=
  .seq (.reg [⟨some 9, none, .bin .lss (.t 8) (.t 7)⟩]) (.seq (.cond (.t 9) (.skip) (.exit 0)) (.seq (.block 1 (.seq (.reg [⟨some 10, none, .ia 6 (.t 6) (.t 8)⟩, ⟨some 11, none, .ld 6 true (.t 10)⟩, ⟨some 5, none, .new [(.str ⟨#[]⟩), (.int .i64 0), (.int .i64 0), (.int .i64 0), (.int .i64 0), (.str ⟨#[]⟩)]⟩, ⟨none, none, .st 6 (.t 5) (.t 11)⟩]) (.seq (.reg [⟨some 12, none, .fa 1 (.t 5)⟩, ⟨some 13, none, .fa 0 (.t 12)⟩, ⟨some 14, none, .ld 1 false (.t 13)⟩, ⟨some 15, none, .bin .neq (.t 14) (.c (.int .i64 0))⟩]) (.cond (.t 15) (.reg [⟨some 16, none, .mv (.t 3)⟩, ⟨some 17, none, .bin .add (.t 16) (.c (.int .i64 1))⟩, ⟨some 3, none, .mv (.t 17)⟩]) (.skip))))) (.reg [⟨some 18, none, .bin .add (.t 8) (.c (.int .i64 1))⟩, ⟨some 8, none, .mv (.t 18)⟩])))
def F_impl_CountOf : RF := ⟨20, 1, [.t 2],
  .seq (.reg [⟨some 2, none, .mv (.c (.int .i64 0))⟩]) (.seq (.reg [⟨some 3, none, .mv (.c (.int .i64 0))⟩]) (.seq (.seq (.reg [⟨some 6, none, .mv (.t 0)⟩, ⟨some 7, none, .len false (.t 6)⟩, ⟨some 8, none, .mv (.c (.int .i64 0))⟩]) (.block 0 (.loop [3, 6, 7, 8] [(1, [3])] B0_impl_CountOf))) (.seq (.reg [⟨some 19, none, .mv (.t 3)⟩, ⟨some 2, none, .mv (.t 19)⟩]) (.ret))))⟩
def K_impl_CountOf : Keeps := [([3, 6, 7, 8], [(1, [3])])]
theorem r_impl_CountOf : resolveF Try.prog Try.f44 K_impl_CountOf = some F_impl_CountOf := by kernel_rfl
noncomputable def X_impl_CountOf : Ctx := fun _ => none
theorem co_impl_CountOf : CtxOk Try.prog X_impl_CountOf := CtxOk.nil
theorem cx_impl_CountOf : True := trivial
noncomputable def S_impl_CountOf : ByV := ⟨none, false, semF X_impl_CountOf F_impl_CountOf none false⟩
noncomputable def G_impl_CountOf : CK := .byv S_impl_CountOf
theorem sg_impl_CountOf (args : List AV) : S_impl_CountOf.sem args = semF X_impl_CountOf F_impl_CountOf none false args := rfl
theorem cl_impl_CountOf (args : List AV) (hp : Hp) : callS G_impl_CountOf args hp = byvS S_impl_CountOf args hp := callS_byv rfl rfl args hp
theorem ok_impl_CountOf : InlOk Try.prog 44 (callS G_impl_CountOf) := byv_none co_impl_CountOf Try.func44 r_impl_CountOf rfl (fun _ _ h => h)
/- 60 impl_PlaceOf calls [impl_labelAt, impl_CountOf]  -/
def F_impl_PlaceOf : RF := ⟨15, 2, [.t 4],
  .seq (.reg [⟨some 4, none, .mv (.c (.int .i64 0))⟩]) (.seq (.reg [⟨some 6, none, .mv (.t 0)⟩, ⟨some 7, none, .mv (.t 1)⟩, ⟨some 8, none, .call 88 [(.t 6), (.t 7)]⟩, ⟨some 5, none, .mv (.t 8)⟩]) (.seq (.seq (.reg [⟨some 9, none, .mv (.t 5)⟩, ⟨some 10, none, .bin .lss (.t 9) (.c (.int .i64 0))⟩]) (.cond (.t 10) (.seq (.reg [⟨some 4, none, .mv (.c (.int .i64 (-1)))⟩]) (.ret)) (.skip))) (.seq (.reg [⟨some 11, none, .mv (.t 0)⟩, ⟨some 12, none, .mv (.t 5)⟩, ⟨some 13, none, .slc false 6 (.t 11) none (some (.t 12))⟩, ⟨some 14, none, .call 44 [(.t 13)]⟩, ⟨some 4, none, .mv (.t 14)⟩]) (.ret))))⟩
def K_impl_PlaceOf : Keeps := []
theorem r_impl_PlaceOf : resolveF Try.prog Try.f60 K_impl_PlaceOf = some F_impl_PlaceOf := by kernel_rfl
noncomputable def X_impl_PlaceOf : Ctx := Ctx.cons 88 G_impl_labelAt (Ctx.cons 44 G_impl_CountOf (fun _ => none))
theorem co_impl_PlaceOf : CtxOk Try.prog X_impl_PlaceOf := CtxOk.cons (CtxOk.cons (CtxOk.nil) ok_impl_CountOf) ok_impl_labelAt
theorem cx_impl_PlaceOf : (∀ args hp, callX X_impl_PlaceOf 88 args hp = callS G_impl_labelAt args hp) ∧ (∀ args hp, callX X_impl_PlaceOf 44 args hp = callS G_impl_CountOf args hp) := ⟨fun _ _ => rfl, fun _ _ => rfl⟩
noncomputable def S_impl_PlaceOf : ByV := ⟨none, false, semF X_impl_PlaceOf F_impl_PlaceOf none false⟩
noncomputable def G_impl_PlaceOf : CK := .byv S_impl_PlaceOf
theorem sg_impl_PlaceOf (args : List AV) : S_impl_PlaceOf.sem args = semF X_impl_PlaceOf F_impl_PlaceOf none false args := rfl
theorem cl_impl_PlaceOf (args : List AV) (hp : Hp) : callS G_impl_PlaceOf args hp = byvS S_impl_PlaceOf args hp := callS_byv rfl rfl args hp
theorem ok_impl_PlaceOf : InlOk Try.prog 60 (callS G_impl_PlaceOf) := byv_none co_impl_PlaceOf Try.func60 r_impl_PlaceOf rfl (fun _ _ h => h)
/- 27 laws_eqIns calls []  -/
def F_laws_eqIns : RF := ⟨25, 2, [.t 4],
  .seq (.reg [⟨some 2, none, .box (.t 0)⟩, ⟨some 3, none, .box (.t 1)⟩, ⟨some 4, none, .mv (.c (.bool false))⟩]) (.seq (.seq (.reg [⟨some 5, none, .fa 0 (.t 2)⟩, ⟨some 6, none, .ld 1 false (.t 5)⟩, ⟨some 7, none, .fa 0 (.t 3)⟩, ⟨some 8, none, .ld 1 false (.t 7)⟩, ⟨some 9, none, .bin .neq (.t 6) (.t 8)⟩]) (.cond (.t 9) (.seq (.reg [⟨some 4, none, .mv (.c (.bool false))⟩]) (.ret)) (.skip))) (.seq (.seq (.reg [⟨some 10, none, .fa 1 (.t 2)⟩, ⟨some 11, none, .ld 1 false (.t 10)⟩, ⟨some 12, none, .fa 1 (.t 3)⟩, ⟨some 13, none, .ld 1 false (.t 12)⟩, ⟨some 14, none, .bin .neq (.t 11) (.t 13)⟩]) (.cond (.t 14) (.seq (.reg [⟨some 4, none, .mv (.c (.bool false))⟩]) (.ret)) (.skip))) (.seq (.seq (.reg [⟨some 15, none, .fa 2 (.t 2)⟩, ⟨some 16, none, .ld 1 false (.t 15)⟩, ⟨some 17, none, .fa 2 (.t 3)⟩, ⟨some 18, none, .ld 1 false (.t 17)⟩, ⟨some 19, none, .bin .neq (.t 16) (.t 18)⟩]) (.cond (.t 19) (.seq (.reg [⟨some 4, none, .mv (.c (.bool false))⟩]) (.ret)) (.skip))) (.seq (.seq (.reg [⟨some 20, none, .fa 3 (.t 2)⟩, ⟨some 21, none, .ld 1 false (.t 20)⟩, ⟨some 22, none, .fa 3 (.t 3)⟩, ⟨some 23, none, .ld 1 false (.t 22)⟩, ⟨some 24, none, .bin .neq (.t 21) (.t 23)⟩]) (.cond (.t 24) (.seq (.reg [⟨some 4, none, .mv (.c (.bool false))⟩]) (.ret)) (.skip))) (.seq (.reg [⟨some 4, none, .mv (.c (.bool true))⟩]) (.ret))))))⟩
def K_laws_eqIns : Keeps := []
theorem r_laws_eqIns : resolveF Try.prog Try.f27 K_laws_eqIns = some F_laws_eqIns := by kernel_rfl
noncomputable def X_laws_eqIns : Ctx := fun _ => none
theorem co_laws_eqIns : CtxOk Try.prog X_laws_eqIns := CtxOk.nil
theorem cx_laws_eqIns : True := trivial
noncomputable def S_laws_eqIns : ByV := ⟨none, false, semF X_laws_eqIns F_laws_eqIns none false⟩
noncomputable def G_laws_eqIns : CK := .byv S_laws_eqIns
theorem sg_laws_eqIns (args : List AV) : S_laws_eqIns.sem args = semF X_laws_eqIns F_laws_eqIns none false args := rfl
theorem cl_laws_eqIns (args : List AV) (hp : Hp) : callS G_laws_eqIns args hp = byvS S_laws_eqIns args hp := callS_byv rfl rfl args hp
theorem ok_laws_eqIns : InlOk Try.prog 27 (callS G_laws_eqIns) := byv_none co_laws_eqIns Try.func27 r_laws_eqIns rfl (fun _ _ h => h)
/- 77 laws_eqLine calls [laws_eqIns]  -/
def F_laws_eqLine : RF := ⟨21, 2, [.t 4],
  .seq (.reg [⟨some 2, none, .box (.t 0)⟩, ⟨some 3, none, .box (.t 1)⟩, ⟨some 4, none, .mv (.c (.bool false))⟩]) (.seq (.seq (.reg [⟨some 5, none, .fa 0 (.t 2)⟩, ⟨some 6, none, .ld 1 false (.t 5)⟩, ⟨some 7, none, .fa 0 (.t 3)⟩, ⟨some 8, none, .ld 1 false (.t 7)⟩, ⟨some 9, none, .bin .neq (.t 6) (.t 8)⟩]) (.cond (.t 9) (.seq (.reg [⟨some 4, none, .mv (.c (.bool false))⟩]) (.ret)) (.skip))) (.seq (.seq (.reg [⟨some 10, none, .fa 1 (.t 2)⟩, ⟨some 11, none, .ld 4 true (.t 10)⟩, ⟨some 12, none, .fa 1 (.t 3)⟩, ⟨some 13, none, .ld 4 true (.t 12)⟩, ⟨some 14, none, .call 27 [(.t 11), (.t 13)]⟩, ⟨some 15, none, .un .not (.t 14)⟩]) (.cond (.t 15) (.seq (.reg [⟨some 4, none, .mv (.c (.bool false))⟩]) (.ret)) (.skip))) (.seq (.seq (.reg [⟨some 16, none, .fa 5 (.t 2)⟩, ⟨some 17, none, .ld 1 false (.t 16)⟩, ⟨some 18, none, .fa 5 (.t 3)⟩, ⟨some 19, none, .ld 1 false (.t 18)⟩, ⟨some 20, none, .bin .neq (.t 17) (.t 19)⟩]) (.cond (.t 20) (.seq (.reg [⟨some 4, none, .mv (.c (.bool false))⟩]) (.ret)) (.skip))) (.seq (.reg [⟨some 4, none, .mv (.c (.bool true))⟩]) (.ret)))))⟩
def K_laws_eqLine : Keeps := []
theorem r_laws_eqLine : resolveF Try.prog Try.f77 K_laws_eqLine = some F_laws_eqLine := by kernel_rfl
noncomputable def X_laws_eqLine : Ctx := Ctx.cons 27 G_laws_eqIns (fun _ => none)
theorem co_laws_eqLine : CtxOk Try.prog X_laws_eqLine := CtxOk.cons (CtxOk.nil) ok_laws_eqIns
theorem cx_laws_eqLine : (∀ args hp, callX X_laws_eqLine 27 args hp = callS G_laws_eqIns args hp) := fun _ _ => rfl
noncomputable def S_laws_eqLine : ByV := ⟨none, false, semF X_laws_eqLine F_laws_eqLine none false⟩
noncomputable def G_laws_eqLine : CK := .byv S_laws_eqLine
theorem sg_laws_eqLine (args : List AV) : S_laws_eqLine.sem args = semF X_laws_eqLine F_laws_eqLine none false args := rfl
theorem cl_laws_eqLine (args : List AV) (hp : Hp) : callS G_laws_eqLine args hp = byvS S_laws_eqLine args hp := callS_byv rfl rfl args hp
theorem ok_laws_eqLine : InlOk Try.prog 77 (callS G_laws_eqLine) := byv_none co_laws_eqLine Try.func77 r_laws_eqLine rfl (fun _ _ h => h)
/- 45 laws_eqLineS calls [laws_eqLine]  -/
def B0_laws_eqLineS : RC :=
  .seq (.seq (.reg [⟨some 11, none, .mv (.t 5)⟩, ⟨some 12, none, .mv (.t 0)⟩, ⟨some 13, none, .len false (.t 12)⟩, ⟨some 14, none, .bin .lss (.t 11) (.t 13)⟩]) (.cond (.t 14) (.skip) (.exit 0))) (.seq (.block 1 (.seq (.regd [(0, ⟨some 17, none, .mv (.t 0)⟩), (0, ⟨some 18, none, .mv (.t 5)⟩), (1, ⟨some 19, none, .ia 6 (.t 17) (.t 18)⟩), (1, ⟨some 20, none, .ld 6 true (.t 19)⟩), (0, ⟨some 21, none, .mv (.t 1)⟩), (0, ⟨some 22, none, .mv (.t 5)⟩), (1, ⟨some 23, none, .ia 6 (.t 21) (.t 22)⟩), (1, ⟨some 24, none, .ld 6 true (.t 23)⟩), (1, ⟨some 25, none, .call 77 [(.t 20), (.t 24)]⟩), (0, ⟨some 26, none, .un .not (.t 25)⟩)] []) (.cond (.t 26) (.seq (.reg [⟨some 4, none, .mv (.c (.bool false))⟩]) (.ret)) (.skip)))) (.reg [⟨some 15, none, .mv (.t 5)⟩, ⟨some 16, none, .bin .add (.t 15) (.c (.int .i64 1))⟩, ⟨some 5, none, .mv (.t 16)⟩]))
def F_laws_eqLineS : RF := ⟨27, 2, [.t 4],
  .seq (.reg [⟨some 4, none, .mv (.c (.bool false))⟩]) (.seq (.seq (.reg [⟨some 6, none, .mv (.t 0)⟩, ⟨some 7, none, .len false (.t 6)⟩, ⟨some 8, none, .mv (.t 1)⟩, ⟨some 9, none, .len false (.t 8)⟩, ⟨some 10, none, .bin .neq (.t 7) (.t 9)⟩]) (.cond (.t 10) (.seq (.reg [⟨some 4, none, .mv (.c (.bool false))⟩]) (.ret)) (.skip))) (.seq (.seq (.reg [⟨some 5, none, .mv (.c (.int .i64 0))⟩]) (.block 0 (.loop [0, 1, 5] [(1, []), (0, [4])] B0_laws_eqLineS))) (.seq (.reg [⟨some 4, none, .mv (.c (.bool true))⟩]) (.ret))))⟩
def K_laws_eqLineS : Keeps := [([0, 1, 5], [(1, []), (0, [4])])]
theorem r_laws_eqLineS : resolveF Try.prog Try.f45 K_laws_eqLineS = some F_laws_eqLineS := by kernel_rfl
noncomputable def X_laws_eqLineS : Ctx := Ctx.cons 77 G_laws_eqLine (fun _ => none)
theorem co_laws_eqLineS : CtxOk Try.prog X_laws_eqLineS := CtxOk.cons (CtxOk.nil) ok_laws_eqLine
theorem cx_laws_eqLineS : (∀ args hp, callX X_laws_eqLineS 77 args hp = callS G_laws_eqLine args hp) := fun _ _ => rfl
noncomputable def S_laws_eqLineS : ByV := ⟨none, false, semF X_laws_eqLineS F_laws_eqLineS none false⟩
noncomputable def G_laws_eqLineS : CK := .byv S_laws_eqLineS
theorem sg_laws_eqLineS (args : List AV) : S_laws_eqLineS.sem args = semF X_laws_eqLineS F_laws_eqLineS none false args := rfl
theorem cl_laws_eqLineS (args : List AV) (hp : Hp) : callS G_laws_eqLineS args hp = byvS S_laws_eqLineS args hp := callS_byv rfl rfl args hp
theorem ok_laws_eqLineS : InlOk Try.prog 45 (callS G_laws_eqLineS) := byv_none co_laws_eqLineS Try.func45 r_laws_eqLineS rfl (fun _ _ h => h)
/- 13 laws_FnExactPlaceOf calls [laws_szLineS, laws_toLineS, spec_PlaceOf, impl_PlaceOf, laws_eqLineS]  -/
def F_laws_FnExactPlaceOf : RF := ⟨34, 2, [.t 4],
  .seq (.reg [⟨some 4, none, .mv (.c (.bool false))⟩]) (.seq (.seq (.reg [⟨some 9, none, .mv (.t 1)⟩, ⟨some 10, none, .len true (.t 9)⟩, ⟨some 11, none, .bin .gtr (.t 10) (.c (.int .i64 1048576))⟩]) (.cond (.t 11) (.seq (.reg [⟨some 4, none, .mv (.c (.bool true))⟩]) (.ret)) (.skip))) (.seq (.reg [⟨some 5, none, .mv (.c (.int .i64 1048576))⟩]) (.seq (.reg [⟨some 12, none, .mv (.t 0)⟩, ⟨some 13, none, .mv (.t 5)⟩, ⟨some 14, none, .call 41 [(.t 12), (.t 13)]⟩, ⟨some 5, none, .mv (.t 14)⟩]) (.seq (.seq (.reg [⟨some 15, none, .mv (.t 5)⟩, ⟨some 16, none, .bin .lss (.t 15) (.c (.int .i64 0))⟩]) (.cond (.t 16) (.seq (.reg [⟨some 4, none, .mv (.c (.bool true))⟩]) (.ret)) (.skip))) (.seq (.reg [⟨some 17, none, .mv (.t 0)⟩, ⟨some 18, none, .call 43 [(.t 17)]⟩, ⟨some 19, none, .mv (.t 1)⟩, ⟨some 20, none, .call 59 [(.t 18), (.t 19)]⟩, ⟨some 6, none, .mv (.t 20)⟩]) (.seq (.reg [⟨some 21, none, .mv (.t 0)⟩, ⟨some 22, none, .call 43 [(.t 21)]⟩, ⟨some 7, none, .mv (.t 22)⟩]) (.seq (.reg [⟨some 23, none, .mv (.t 7)⟩, ⟨some 24, none, .mv (.t 1)⟩, ⟨some 25, none, .call 60 [(.t 23), (.t 24)]⟩, ⟨some 8, none, .mv (.t 25)⟩]) (.seq (.seq (.reg [⟨some 26, none, .mv (.t 8)⟩, ⟨some 27, none, .mv (.t 6)⟩, ⟨some 28, none, .bin .neq (.t 26) (.t 27)⟩]) (.cond (.t 28) (.seq (.reg [⟨some 4, none, .mv (.c (.bool false))⟩]) (.ret)) (.skip))) (.seq (.seq (.reg [⟨some 29, none, .mv (.t 7)⟩, ⟨some 30, none, .mv (.t 0)⟩, ⟨some 31, none, .call 43 [(.t 30)]⟩, ⟨some 32, none, .call 45 [(.t 29), (.t 31)]⟩, ⟨some 33, none, .un .not (.t 32)⟩]) (.cond (.t 33) (.seq (.reg [⟨some 4, none, .mv (.c (.bool false))⟩]) (.ret)) (.skip))) (.seq (.reg [⟨some 4, none, .mv (.c (.bool true))⟩]) (.ret)))))))))))⟩
def K_laws_FnExactPlaceOf : Keeps := []
theorem r_laws_FnExactPlaceOf : resolveF Try.prog Try.f13 K_laws_FnExactPlaceOf = some F_laws_FnExactPlaceOf := by kernel_rfl
noncomputable def X_laws_FnExactPlaceOf : Ctx := Ctx.cons 41 G_laws_szLineS (Ctx.cons 43 G_laws_toLineS (Ctx.cons 59 G_spec_PlaceOf (Ctx.cons 60 G_impl_PlaceOf (Ctx.cons 45 G_laws_eqLineS (fun _ => none)))))
theorem co_laws_FnExactPlaceOf : CtxOk Try.prog X_laws_FnExactPlaceOf := CtxOk.cons (CtxOk.cons (CtxOk.cons (CtxOk.cons (CtxOk.cons (CtxOk.nil) ok_laws_eqLineS) ok_impl_PlaceOf) ok_spec_PlaceOf) ok_laws_toLineS) ok_laws_szLineS
theorem cx_laws_FnExactPlaceOf : (∀ args hp, callX X_laws_FnExactPlaceOf 41 args hp = callS G_laws_szLineS args hp) ∧ (∀ args hp, callX X_laws_FnExactPlaceOf 43 args hp = callS G_laws_toLineS args hp) ∧ (∀ args hp, callX X_laws_FnExactPlaceOf 59 args hp = callS G_spec_PlaceOf args hp) ∧ (∀ args hp, callX X_laws_FnExactPlaceOf 60 args hp = callS G_impl_PlaceOf args hp) ∧ (∀ args hp, callX X_laws_FnExactPlaceOf 45 args hp = callS G_laws_eqLineS args hp) := ⟨fun _ _ => rfl, fun _ _ => rfl, fun _ _ => rfl, fun _ _ => rfl, fun _ _ => rfl⟩
end Go.Proofs.Ytcappoimcdfggaa.AI
