/- The functions that the law FnExactAssemble reaches, in the reckoner's words. -/
import Derived.Test.YtldmpjoddghdkaaAMapo3
import Derived.Test.YtldmpjoddghdkaaChecked
import Derived.ProofKit
namespace Go.Proofs.Ytldmpjoddghdkaa.AI
open Go.Proofs
set_option linter.all false
set_option maxRecDepth 100000
noncomputable section
instance : Tabs := ⟨fun _ => False, fun _ _ => True⟩
def F_laws_szLine : RF := ⟨20, 2, [.t 4],
  .seq (.reg [o 2 (.box (.t 0)), o 4 (.mv (.c (.int .i64 0)))]) (.seq (.reg [o 5 (.mv (.t 1)), o 6 (.fa 0 (.t 2)), o 7 (.ld 1 false (.t 6)), o 8 (.len true (.t 7)), o 9 (.bin .sub (.t 5) (.t 8)), o 1 (.mv (.t 9))]) (.seq (.seq (.reg [o 10 (.mv (.t 1)), o 11 (.bin .lss (.t 10) (.c (.int .i64 0)))]) (.cond (.t 11) (.seq (.reg [o 4 (.mv (.c (.int .i64 (-1))))]) (.ret)) (.skip))) (.seq (.reg [o 12 (.mv (.t 1)), o 13 (.fa 5 (.t 2)), o 14 (.ld 1 false (.t 13)), o 15 (.len true (.t 14)), o 16 (.bin .sub (.t 12) (.t 15)), o 1 (.mv (.t 16))]) (.seq (.seq (.reg [o 17 (.mv (.t 1)), o 18 (.bin .lss (.t 17) (.c (.int .i64 0)))]) (.cond (.t 18) (.seq (.reg [o 4 (.mv (.c (.int .i64 (-1))))]) (.ret)) (.skip))) (.seq (.reg [o 19 (.mv (.t 1)), o 4 (.mv (.t 19))]) (.ret))))))⟩
def K_laws_szLine : Keeps := []
theorem r_laws_szLine : resolveF Try.prog Try.f24 K_laws_szLine = some F_laws_szLine := by kernel_rfl
def X_laws_szLine : Ctx := fun _ => none
theorem co_laws_szLine : CtxOk Try.prog X_laws_szLine := CtxOk.nil
theorem cx_laws_szLine : True := trivial
def S_laws_szLine : ByV := ⟨none, false, semF X_laws_szLine F_laws_szLine none false⟩
def G_laws_szLine : CK := .byv S_laws_szLine
theorem sg_laws_szLine (args : List AV) : S_laws_szLine.sem args = semF X_laws_szLine F_laws_szLine none false args := rfl
theorem cl_laws_szLine (args hp) : callS G_laws_szLine args hp = byvS S_laws_szLine args hp := callS_byv rfl rfl args hp
theorem ok_laws_szLine : InlOk Try.prog 24 (callS G_laws_szLine) := byv_none co_laws_szLine Try.func24 r_laws_szLine rfl (fun _ _ h => h)
def B0_laws_szLineS : RC :=
  .seq (.seq (.reg [o 12 (.mv (.t 5)), o 13 (.mv (.t 0)), o 14 (.len false (.t 13)), o 15 (.bin .lss (.t 12) (.t 14))]) (.cond (.t 15) (.skip) (.exit 0))) (.seq (.block 1 (.seq (.reg [o 18 (.mv (.t 0)), o 19 (.mv (.t 5)), o 20 (.ia 6 (.t 18) (.t 19)), o 21 (.ld 6 true (.t 20)), o 22 (.mv (.t 1)), o 23 (.call 24 [(.t 21), (.t 22)]), o 1 (.mv (.t 23))]) (.seq (.reg [o 24 (.mv (.t 1)), o 25 (.bin .lss (.t 24) (.c (.int .i64 0)))]) (.cond (.t 25) (.seq (.reg [o 4 (.mv (.c (.int .i64 (-1))))]) (.ret)) (.skip))))) (.reg [o 16 (.mv (.t 5)), o 17 (.bin .add (.t 16) (.c (.int .i64 1))), o 5 (.mv (.t 17))]))
def F_laws_szLineS : RF := ⟨27, 2, [.t 4],
  .seq (.reg [o 4 (.mv (.c (.int .i64 0)))]) (.seq (.reg [o 6 (.mv (.t 1)), o 7 (.mv (.t 0)), o 8 (.len false (.t 7)), o 9 (.bin .sub (.t 6) (.t 8)), o 1 (.mv (.t 9))]) (.seq (.seq (.reg [o 10 (.mv (.t 1)), o 11 (.bin .lss (.t 10) (.c (.int .i64 0)))]) (.cond (.t 11) (.seq (.reg [o 4 (.mv (.c (.int .i64 (-1))))]) (.ret)) (.skip))) (.seq (.seq (.reg [o 5 (.mv (.c (.int .i64 0)))]) (.block 0 (.loop [0, 1, 5] [(1, [1]), (0, [4])] B0_laws_szLineS))) (.seq (.reg [o 26 (.mv (.t 1)), o 4 (.mv (.t 26))]) (.ret)))))⟩
def K_laws_szLineS : Keeps := [([0, 1, 5], [(1, [1]), (0, [4])])]
theorem r_laws_szLineS : resolveF Try.prog Try.f5 K_laws_szLineS = some F_laws_szLineS := by kernel_rfl
def X_laws_szLineS : Ctx := Ctx.cons 24 G_laws_szLine (fun _ => none)
theorem co_laws_szLineS : CtxOk Try.prog X_laws_szLineS := CtxOk.cons (CtxOk.nil) ok_laws_szLine
theorem cx_laws_szLineS : (CX X_laws_szLineS 24 G_laws_szLine false) := cxI rfl rfl
def S_laws_szLineS : ByV := ⟨none, false, semF X_laws_szLineS F_laws_szLineS none false⟩
def G_laws_szLineS : CK := .byv S_laws_szLineS
theorem sg_laws_szLineS (args : List AV) : S_laws_szLineS.sem args = semF X_laws_szLineS F_laws_szLineS none false args := rfl
theorem cl_laws_szLineS (args hp) : callS G_laws_szLineS args hp = byvS S_laws_szLineS args hp := callS_byv rfl rfl args hp
theorem ok_laws_szLineS : InlOk Try.prog 5 (callS G_laws_szLineS) := byv_none co_laws_szLineS Try.func5 r_laws_szLineS rfl (fun _ _ h => h)
def F_laws_toIns : RF := ⟨17, 1, [.cell 2 4 true],
  .seq (.reg [o 1 (.box (.t 0)), o 2 (.new [(.int .i64 0), (.int .i64 0), (.int .i64 0), (.int .i64 0)])]) (.seq (.reg [o 3 (.new [(.int .i64 0), (.int .i64 0), (.int .i64 0), (.int .i64 0)])]) (.seq (.reg [o 4 (.fa 0 (.t 1)), o 5 (.ld 1 false (.t 4)), o 6 (.fa 0 (.t 3)), ⟨none, none, .st 1 (.t 6) (.t 5)⟩]) (.seq (.reg [o 7 (.fa 1 (.t 1)), o 8 (.ld 1 false (.t 7)), o 9 (.fa 1 (.t 3)), ⟨none, none, .st 1 (.t 9) (.t 8)⟩]) (.seq (.reg [o 10 (.fa 2 (.t 1)), o 11 (.ld 1 false (.t 10)), o 12 (.fa 2 (.t 3)), ⟨none, none, .st 1 (.t 12) (.t 11)⟩]) (.seq (.reg [o 13 (.fa 3 (.t 1)), o 14 (.ld 1 false (.t 13)), o 15 (.fa 3 (.t 3)), ⟨none, none, .st 1 (.t 15) (.t 14)⟩]) (.seq (.reg [o 16 (.ld 4 true (.t 3)), ⟨none, none, .st 4 (.t 2) (.t 16)⟩]) (.ret)))))))⟩
def K_laws_toIns : Keeps := []
theorem r_laws_toIns : resolveF Try.prog Try.f40 K_laws_toIns = some F_laws_toIns := by kernel_rfl
def X_laws_toIns : Ctx := fun _ => none
theorem co_laws_toIns : CtxOk Try.prog X_laws_toIns := CtxOk.nil
theorem cx_laws_toIns : True := trivial
def S_laws_toIns : ByV := ⟨none, false, semF X_laws_toIns F_laws_toIns none false⟩
def G_laws_toIns : CK := .byv S_laws_toIns
theorem sg_laws_toIns (args : List AV) : S_laws_toIns.sem args = semF X_laws_toIns F_laws_toIns none false args := rfl
theorem cl_laws_toIns (args hp) : callS G_laws_toIns args hp = byvS S_laws_toIns args hp := callS_byv rfl rfl args hp
theorem ok_laws_toIns : InlOk Try.prog 40 (callS G_laws_toIns) := byv_none co_laws_toIns Try.func40 r_laws_toIns rfl (fun _ _ h => h)
def F_laws_toLine : RF := ⟨15, 1, [.cell 2 6 true],
  .seq (.reg [o 1 (.box (.t 0)), o 2 (.new [(.str ⟨#[]⟩), (.int .i64 0), (.int .i64 0), (.int .i64 0), (.int .i64 0), (.str ⟨#[]⟩)])]) (.seq (.reg [o 3 (.new [(.str ⟨#[]⟩), (.int .i64 0), (.int .i64 0), (.int .i64 0), (.int .i64 0), (.str ⟨#[]⟩)])]) (.seq (.reg [o 4 (.fa 0 (.t 1)), o 5 (.ld 1 false (.t 4)), o 6 (.fa 0 (.t 3)), ⟨none, none, .st 1 (.t 6) (.t 5)⟩]) (.seq (.reg [o 7 (.fa 1 (.t 1)), o 8 (.ld 4 true (.t 7)), o 9 (.call 40 [(.t 8)]), o 10 (.fa 1 (.t 3)), ⟨none, none, .st 4 (.t 10) (.t 9)⟩]) (.seq (.reg [o 11 (.fa 5 (.t 1)), o 12 (.ld 1 false (.t 11)), o 13 (.fa 5 (.t 3)), ⟨none, none, .st 1 (.t 13) (.t 12)⟩]) (.seq (.reg [o 14 (.ld 6 true (.t 3)), ⟨none, none, .st 6 (.t 2) (.t 14)⟩]) (.ret))))))⟩
def K_laws_toLine : Keeps := []
theorem r_laws_toLine : resolveF Try.prog Try.f26 K_laws_toLine = some F_laws_toLine := by kernel_rfl
def X_laws_toLine : Ctx := Ctx.cons 40 G_laws_toIns (fun _ => none)
theorem co_laws_toLine : CtxOk Try.prog X_laws_toLine := CtxOk.cons (CtxOk.nil) ok_laws_toIns
theorem cx_laws_toLine : (CX X_laws_toLine 40 G_laws_toIns false) := cxI rfl rfl
def S_laws_toLine : ByV := ⟨none, false, semF X_laws_toLine F_laws_toLine none false⟩
def G_laws_toLine : CK := .byv S_laws_toLine
theorem sg_laws_toLine (args : List AV) : S_laws_toLine.sem args = semF X_laws_toLine F_laws_toLine none false args := rfl
theorem cl_laws_toLine (args hp) : callS G_laws_toLine args hp = byvS S_laws_toLine args hp := callS_byv rfl rfl args hp
theorem ok_laws_toLine : InlOk Try.prog 26 (callS G_laws_toLine) := byv_none co_laws_toLine Try.func26 r_laws_toLine rfl (fun _ _ h => h)
def B0_laws_toLineS : RC :=
  .seq (.seq (.reg [o 8 (.mv (.t 4)), o 9 (.mv (.t 0)), o 10 (.len false (.t 9)), o 11 (.bin .lss (.t 8) (.t 10))]) (.cond (.t 11) (.skip) (.exit 0))) (.seq (.block 1 (.reg [o 14 (.mv (.t 3)), o 15 (.mv (.t 4)), o 16 (.mv (.t 0)), o 17 (.mv (.t 4)), o 18 (.ia 6 (.t 16) (.t 17)), o 19 (.ld 6 true (.t 18)), o 20 (.call 26 [(.t 19)]), o 21 (.ia 6 (.t 14) (.t 15)), ⟨none, none, .st 6 (.t 21) (.t 20)⟩])) (.reg [o 12 (.mv (.t 4)), o 13 (.bin .add (.t 12) (.c (.int .i64 1))), o 4 (.mv (.t 13))]))
def F_laws_toLineS : RF := ⟨23, 1, [.t 2],
  .seq (.reg [o 2 (.mv (.c (.nil 6)))]) (.seq (.reg [o 5 (.mv (.t 0)), o 6 (.len false (.t 5)), o 7 (.mk 6 [(.str ⟨#[]⟩), (.int .i64 0), (.int .i64 0), (.int .i64 0), (.int .i64 0), (.str ⟨#[]⟩)] 64 (.t 6) (.t 6)), o 3 (.mv (.t 7))]) (.seq (.seq (.reg [o 4 (.mv (.c (.int .i64 0)))]) (.block 0 (.loop [0, 3, 4] [(1, [3])] B0_laws_toLineS))) (.seq (.reg [o 22 (.mv (.t 3)), o 2 (.mv (.t 22))]) (.ret))))⟩
def K_laws_toLineS : Keeps := [([0, 3, 4], [(1, [3])])]
theorem r_laws_toLineS : resolveF Try.prog Try.f7 K_laws_toLineS = some F_laws_toLineS := by kernel_rfl
def X_laws_toLineS : Ctx := Ctx.cons 26 G_laws_toLine (fun _ => none)
theorem co_laws_toLineS : CtxOk Try.prog X_laws_toLineS := CtxOk.cons (CtxOk.nil) ok_laws_toLine
theorem cx_laws_toLineS : (CX X_laws_toLineS 26 G_laws_toLine false) := cxI rfl rfl
def S_laws_toLineS : ByV := ⟨none, false, semF X_laws_toLineS F_laws_toLineS none false⟩
def G_laws_toLineS : CK := .byv S_laws_toLineS
theorem sg_laws_toLineS (args : List AV) : S_laws_toLineS.sem args = semF X_laws_toLineS F_laws_toLineS none false args := rfl
theorem cl_laws_toLineS (args hp) : callS G_laws_toLineS args hp = byvS S_laws_toLineS args hp := callS_byv rfl rfl args hp
theorem ok_laws_toLineS : InlOk Try.prog 7 (callS G_laws_toLineS) := byv_none co_laws_toLineS Try.func7 r_laws_toLineS rfl (fun _ _ h => h)
def F_spec_l01In : RF := ⟨15, 3, [.t 6],
  .seq (.reg [o 6 (.mv (.c (.bool false)))]) (.seq (.reg [o 7 (.mv (.t 0)), o 8 (.mv (.t 1)), o 9 (.bin .geq (.t 7) (.t 8)), o 10 (.mv (.t 9)), ⟨some 11, some (10, true), .mv (.t 0)⟩, ⟨some 12, some (10, true), .mv (.t 2)⟩, ⟨some 13, some (10, true), .bin .leq (.t 11) (.t 12)⟩, o 14 (.pick (.t 10) (.t 13) (.c (.bool false))), o 6 (.mv (.t 14))]) (.ret))⟩
def K_spec_l01In : Keeps := []
theorem r_spec_l01In : resolveF Try.prog Try.f35 K_spec_l01In = some F_spec_l01In := by kernel_rfl
def X_spec_l01In : Ctx := fun _ => none
theorem co_spec_l01In : CtxOk Try.prog X_spec_l01In := CtxOk.nil
theorem cx_spec_l01In : True := trivial
def S_spec_l01In : ByV := ⟨none, false, semF X_spec_l01In F_spec_l01In none false⟩
def G_spec_l01In : CK := .byv S_spec_l01In
theorem sg_spec_l01In (args : List AV) : S_spec_l01In.sem args = semF X_spec_l01In F_spec_l01In none false args := rfl
theorem cl_spec_l01In (args hp) : callS G_spec_l01In args hp = byvS S_spec_l01In args hp := callS_byv rfl rfl args hp
theorem ok_spec_l01In : InlOk Try.prog 35 (callS G_spec_l01In) := byv_none co_spec_l01In Try.func35 r_spec_l01In rfl (fun _ _ h => h)
def B0_spec_l16First : RC :=
  .seq (.seq (.reg [o 6 (.mv (.t 5)), o 7 (.mv (.t 0)), o 8 (.len false (.t 7)), o 9 (.bin .lss (.t 6) (.t 8))]) (.cond (.t 9) (.skip) (.exit 0))) (.seq (.block 1 (.seq (.reg [o 12 (.mv (.t 0)), o 13 (.mv (.t 5)), o 14 (.ia 6 (.t 12) (.t 13)), o 15 (.fa 1 (.t 14)), o 16 (.fa 0 (.t 15)), o 17 (.ld 1 false (.t 16)), o 18 (.bin .eql (.t 17) (.c (.int .i64 0))), o 19 (.mv (.t 18)), ⟨some 20, some (19, true), .mv (.t 0)⟩, ⟨some 21, some (19, true), .mv (.t 5)⟩, ⟨some 22, some (19, true), .ia 6 (.t 20) (.t 21)⟩, ⟨some 23, some (19, true), .fa 0 (.t 22)⟩, ⟨some 24, some (19, true), .ld 1 false (.t 23)⟩, ⟨some 25, some (19, true), .mv (.t 1)⟩, ⟨some 26, some (19, true), .bin .eql (.t 24) (.t 25)⟩, o 27 (.pick (.t 19) (.t 26) (.c (.bool false)))]) (.cond (.t 27) (.seq (.reg [o 28 (.mv (.t 5)), o 4 (.mv (.t 28))]) (.ret)) (.skip)))) (.reg [o 10 (.mv (.t 5)), o 11 (.bin .add (.t 10) (.c (.int .i64 1))), o 5 (.mv (.t 11))]))
def F_spec_l16First : RF := ⟨29, 2, [.t 4],
  .seq (.reg [o 4 (.mv (.c (.int .i64 0)))]) (.seq (.seq (.reg [o 5 (.mv (.c (.int .i64 0)))]) (.block 0 (.loop [0, 1, 5] [(1, []), (0, [4])] B0_spec_l16First))) (.seq (.reg [o 4 (.mv (.c (.int .i64 (-1))))]) (.ret)))⟩
def K_spec_l16First : Keeps := [([0, 1, 5], [(1, []), (0, [4])])]
theorem r_spec_l16First : resolveF Try.prog Try.f33 K_spec_l16First = some F_spec_l16First := by kernel_rfl
def X_spec_l16First : Ctx := fun _ => none
theorem co_spec_l16First : CtxOk Try.prog X_spec_l16First := CtxOk.nil
theorem cx_spec_l16First : True := trivial
def S_spec_l16First : ByV := ⟨none, false, semF X_spec_l16First F_spec_l16First none false⟩
def G_spec_l16First : CK := .byv S_spec_l16First
theorem sg_spec_l16First (args : List AV) : S_spec_l16First.sem args = semF X_spec_l16First F_spec_l16First none false args := rfl
theorem cl_spec_l16First (args hp) : callS G_spec_l16First args hp = byvS S_spec_l16First args hp := callS_byv rfl rfl args hp
theorem ok_spec_l16First : InlOk Try.prog 33 (callS G_spec_l16First) := byv_none co_spec_l16First Try.func33 r_spec_l16First rfl (fun _ _ h => h)
def F_spec_InsOk : RF := ⟨71, 1, [.t 2],
  .seq (.reg [o 1 (.box (.t 0)), o 2 (.mv (.c (.bool false)))]) (.seq (.seq (.reg [o 3 (.fa 0 (.t 1)), o 4 (.ld 1 false (.t 3)), o 5 (.call 35 [(.t 4), (.c (.int .i64 1)), (.c (.int .i64 10))]), o 6 (.un .not (.t 5)), o 7 (.mv (.t 6)), ⟨some 8, some (7, false), .fa 1 (.t 1)⟩, ⟨some 9, some (7, false), .ld 1 false (.t 8)⟩, ⟨some 10, some (7, false), .call 35 [(.t 9), (.c (.int .i64 0)), (.c (.int .i64 7))]⟩, ⟨some 11, some (7, false), .un .not (.t 10)⟩, o 12 (.pick (.t 7) (.c (.bool true)) (.t 11)), o 13 (.mv (.t 12)), ⟨some 14, some (13, false), .fa 2 (.t 1)⟩, ⟨some 15, some (13, false), .ld 1 false (.t 14)⟩, ⟨some 16, some (13, false), .call 35 [(.t 15), (.c (.int .i64 0)), (.c (.int .i64 7))]⟩, ⟨some 17, some (13, false), .un .not (.t 16)⟩, o 18 (.pick (.t 13) (.c (.bool true)) (.t 17)), o 19 (.mv (.t 18)), ⟨some 20, some (19, false), .fa 3 (.t 1)⟩, ⟨some 21, some (19, false), .ld 1 false (.t 20)⟩, ⟨some 22, some (19, false), .call 35 [(.t 21), (.c (.int .i64 0)), (.c (.int .i64 4194303))]⟩, ⟨some 23, some (19, false), .un .not (.t 22)⟩, o 24 (.pick (.t 19) (.c (.bool true)) (.t 23))]) (.cond (.t 24) (.seq (.reg [o 2 (.mv (.c (.bool false)))]) (.ret)) (.skip))) (.seq (.seq (.reg [o 25 (.fa 0 (.t 1)), o 26 (.ld 1 false (.t 25)), o 27 (.bin .neq (.t 26) (.c (.int .i64 4))), o 28 (.mv (.t 27)), ⟨some 29, some (28, true), .fa 0 (.t 1)⟩, ⟨some 30, some (28, true), .ld 1 false (.t 29)⟩, ⟨some 31, some (28, true), .bin .neq (.t 30) (.c (.int .i64 10))⟩, o 32 (.pick (.t 28) (.t 31) (.c (.bool false))), o 33 (.mv (.t 32)), ⟨some 34, some (33, true), .fa 2 (.t 1)⟩, ⟨some 35, some (33, true), .ld 1 false (.t 34)⟩, ⟨some 36, some (33, true), .bin .neq (.t 35) (.c (.int .i64 0))⟩, o 37 (.pick (.t 33) (.t 36) (.c (.bool false)))]) (.cond (.t 37) (.seq (.reg [o 2 (.mv (.c (.bool false)))]) (.ret)) (.skip))) (.seq (.seq (.reg [o 38 (.fa 0 (.t 1)), o 39 (.ld 1 false (.t 38))]) (.block 0 (.seq (.reg [o 41 (.bin .eql (.t 39) (.c (.int .i64 1))), o 40 (.mv (.t 41))]) (.cond (.t 40) (.seq (.reg [o 42 (.fa 3 (.t 1)), o 43 (.ld 1 false (.t 42)), o 44 (.bin .leq (.t 43) (.c (.int .i64 1000000))), o 2 (.mv (.t 44))]) (.ret)) (.seq (.reg [o 46 (.bin .eql (.t 39) (.c (.int .i64 4))), o 45 (.mv (.t 46))]) (.cond (.t 45) (.seq (.reg [o 47 (.fa 3 (.t 1)), o 48 (.ld 1 false (.t 47)), o 49 (.call 35 [(.t 48), (.c (.int .i64 1)), (.c (.int .i64 9))]), o 2 (.mv (.t 49))]) (.ret)) (.seq (.seq (.reg [o 51 (.bin .eql (.t 39) (.c (.int .i64 5))), o 50 (.mv (.t 51))]) (.cond (.t 50) (.skip) (.reg [o 52 (.bin .eql (.t 39) (.c (.int .i64 6))), o 50 (.mv (.t 52))]))) (.cond (.t 50) (.seq (.reg [o 53 (.fa 3 (.t 1)), o 54 (.ld 1 false (.t 53)), o 55 (.bin .eql (.t 54) (.c (.int .i64 0))), o 2 (.mv (.t 55))]) (.ret)) (.seq (.reg [o 57 (.bin .eql (.t 39) (.c (.int .i64 8))), o 56 (.mv (.t 57))]) (.cond (.t 56) (.seq (.reg [o 58 (.fa 1 (.t 1)), o 59 (.ld 1 false (.t 58)), o 60 (.bin .eql (.t 59) (.c (.int .i64 0))), o 2 (.mv (.t 60))]) (.ret)) (.seq (.reg [o 62 (.bin .eql (.t 39) (.c (.int .i64 10))), o 61 (.mv (.t 62))]) (.cond (.t 61) (.seq (.reg [o 63 (.fa 1 (.t 1)), o 64 (.ld 1 false (.t 63)), o 65 (.call 35 [(.t 64), (.c (.int .i64 1)), (.c (.int .i64 7))]), o 66 (.mv (.t 65)), ⟨some 67, some (66, true), .fa 2 (.t 1)⟩, ⟨some 68, some (66, true), .ld 1 false (.t 67)⟩, ⟨some 69, some (66, true), .bin .eql (.t 68) (.c (.int .i64 0))⟩, o 70 (.pick (.t 66) (.t 69) (.c (.bool false))), o 2 (.mv (.t 70))]) (.ret)) (.skip))))))))))))) (.seq (.reg [o 2 (.mv (.c (.bool true)))]) (.ret)))))⟩
def K_spec_InsOk : Keeps := []
theorem r_spec_InsOk : resolveF Try.prog Try.f36 K_spec_InsOk = some F_spec_InsOk := by kernel_rfl
def X_spec_InsOk : Ctx := Ctx.cons 35 G_spec_l01In (fun _ => none)
theorem co_spec_InsOk : CtxOk Try.prog X_spec_InsOk := CtxOk.cons (CtxOk.nil) ok_spec_l01In
theorem cx_spec_InsOk : (CX X_spec_InsOk 35 G_spec_l01In false) := cxI rfl rfl
def S_spec_InsOk : ByV := ⟨none, false, semF X_spec_InsOk F_spec_InsOk none false⟩
def G_spec_InsOk : CK := .byv S_spec_InsOk
theorem sg_spec_InsOk (args : List AV) : S_spec_InsOk.sem args = semF X_spec_InsOk F_spec_InsOk none false args := rfl
theorem cl_spec_InsOk (args hp) : callS G_spec_InsOk args hp = byvS S_spec_InsOk args hp := callS_byv rfl rfl args hp
theorem ok_spec_InsOk : InlOk Try.prog 36 (callS G_spec_InsOk) := byv_none co_spec_InsOk Try.func36 r_spec_InsOk rfl (fun _ _ h => h)
def B0_spec_LinesOk : RC :=
  .seq (.seq (.reg [o 6 (.mv (.t 3)), o 7 (.mv (.t 0)), o 8 (.len false (.t 7)), o 9 (.bin .lss (.t 6) (.t 8))]) (.cond (.t 9) (.skip) (.exit 0))) (.seq (.block 1 (.seq (.reg [o 12 (.mv (.t 0)), o 13 (.mv (.t 3)), o 14 (.ia 6 (.t 12) (.t 13)), o 15 (.ld 6 true (.t 14)), o 4 (.new [(.str ⟨#[]⟩), (.int .i64 0), (.int .i64 0), (.int .i64 0), (.int .i64 0), (.str ⟨#[]⟩)]), ⟨none, none, .st 6 (.t 4) (.t 15)⟩]) (.seq (.seq (.reg [o 16 (.fa 1 (.t 4)), o 17 (.fa 0 (.t 16)), o 18 (.ld 1 false (.t 17)), o 19 (.bin .eql (.t 18) (.c (.int .i64 0)))]) (.cond (.t 19) (.seq (.seq (.reg [o 20 (.fa 1 (.t 4)), o 21 (.ld 4 true (.t 20)), o 22 (.build [(.int .i64 0), (.int .i64 0), (.int .i64 0), (.int .i64 0)] []), o 23 (.eqs true [(0, 1), (1, 1), (2, 1), (3, 1)] (.t 21) (.t 22)), o 24 (.mv (.t 23)), ⟨some 25, some (24, false), .fa 5 (.t 4)⟩, ⟨some 26, some (24, false), .ld 1 false (.t 25)⟩, ⟨some 27, some (24, false), .bin .neq (.t 26) (.c (.str ⟨#[]⟩))⟩, o 28 (.pick (.t 24) (.c (.bool true)) (.t 27)), o 29 (.mv (.t 28)), ⟨some 30, some (29, false), .fa 0 (.t 4)⟩, ⟨some 31, some (29, false), .ld 1 false (.t 30)⟩, ⟨some 32, some (29, false), .len true (.t 31)⟩, ⟨some 33, some (29, false), .call 35 [(.t 32), (.c (.int .i64 1)), (.c (.int .i64 12))]⟩, ⟨some 34, some (29, false), .un .not (.t 33)⟩, o 35 (.pick (.t 29) (.c (.bool true)) (.t 34)), o 36 (.mv (.t 35)), ⟨some 37, some (36, false), .mv (.t 0)⟩, ⟨some 38, some (36, false), .fa 0 (.t 4)⟩, ⟨some 39, some (36, false), .ld 1 false (.t 38)⟩, ⟨some 40, some (36, false), .call 33 [(.t 37), (.t 39)]⟩, ⟨some 41, some (36, false), .mv (.t 3)⟩, ⟨some 42, some (36, false), .bin .neq (.t 40) (.t 41)⟩, o 43 (.pick (.t 36) (.c (.bool true)) (.t 42))]) (.cond (.t 43) (.seq (.reg [o 2 (.mv (.c (.bool false)))]) (.ret)) (.skip))) (.exit 1)) (.skip))) (.seq (.reg [o 44 (.fa 1 (.t 4)), o 45 (.ld 4 true (.t 44)), o 5 (.new [(.int .i64 0), (.int .i64 0), (.int .i64 0), (.int .i64 0)]), ⟨none, none, .st 4 (.t 5) (.t 45)⟩]) (.seq (.seq (.reg [o 46 (.fa 5 (.t 4)), o 47 (.ld 1 false (.t 46)), o 48 (.bin .neq (.t 47) (.c (.str ⟨#[]⟩)))]) (.cond (.t 48) (.seq (.reg [o 49 (.fa 3 (.t 5)), ⟨none, none, .st 1 (.t 49) (.c (.int .i64 0))⟩]) (.seq (.reg [o 50 (.fa 0 (.t 5)), o 51 (.ld 1 false (.t 50)), o 52 (.bin .eql (.t 51) (.c (.int .i64 4)))]) (.cond (.t 52) (.reg [o 53 (.fa 1 (.t 4)), o 54 (.fa 3 (.t 53)), o 55 (.ld 1 false (.t 54)), o 56 (.fa 3 (.t 5)), ⟨none, none, .st 1 (.t 56) (.t 55)⟩]) (.skip)))) (.skip))) (.seq (.reg [o 57 (.fa 0 (.t 4)), o 58 (.ld 1 false (.t 57)), o 59 (.bin .neq (.t 58) (.c (.str ⟨#[]⟩))), o 60 (.mv (.t 59)), ⟨some 61, some (60, false), .ld 4 true (.t 5)⟩, ⟨some 62, some (60, false), .call 36 [(.t 61)]⟩, ⟨some 63, some (60, false), .un .not (.t 62)⟩, o 64 (.pick (.t 60) (.c (.bool true)) (.t 63)), o 65 (.mv (.t 64)), ⟨some 66, some (65, false), .fa 5 (.t 4)⟩, ⟨some 67, some (65, false), .ld 1 false (.t 66)⟩, ⟨some 68, some (65, false), .bin .neq (.t 67) (.c (.str ⟨#[]⟩))⟩, ⟨some 69, some (65, false), .mv (.t 68)⟩, ⟨some 70, some (69, true), .mv (.t 0)⟩, ⟨some 71, some (69, true), .fa 5 (.t 4)⟩, ⟨some 72, some (69, true), .ld 1 false (.t 71)⟩, ⟨some 73, some (69, true), .call 33 [(.t 70), (.t 72)]⟩, ⟨some 74, some (69, true), .bin .lss (.t 73) (.c (.int .i64 0))⟩, ⟨some 75, some (65, false), .pick (.t 69) (.t 74) (.c (.bool false))⟩, o 76 (.pick (.t 65) (.c (.bool true)) (.t 75))]) (.cond (.t 76) (.seq (.reg [o 2 (.mv (.c (.bool false)))]) (.ret)) (.skip)))))))) (.reg [o 10 (.mv (.t 3)), o 11 (.bin .add (.t 10) (.c (.int .i64 1))), o 3 (.mv (.t 11))]))
def F_spec_LinesOk : RF := ⟨80, 1, [.t 2],
  .seq (.reg [o 2 (.mv (.c (.bool false)))]) (.seq (.seq (.reg [o 3 (.mv (.c (.int .i64 0)))]) (.block 0 (.loop [0, 3] [(1, [0]), (0, [2])] B0_spec_LinesOk))) (.seq (.reg [o 77 (.mv (.t 0)), o 78 (.len false (.t 77)), o 79 (.bin .leq (.t 78) (.c (.int .i64 900))), o 2 (.mv (.t 79))]) (.ret)))⟩
def K_spec_LinesOk : Keeps := [([0, 3], [(1, [0]), (0, [2])])]
theorem r_spec_LinesOk : resolveF Try.prog Try.f23 K_spec_LinesOk = some F_spec_LinesOk := by kernel_rfl
def X_spec_LinesOk : Ctx := Ctx.cons 35 G_spec_l01In (Ctx.cons 33 G_spec_l16First (Ctx.cons 36 G_spec_InsOk (fun _ => none)))
theorem co_spec_LinesOk : CtxOk Try.prog X_spec_LinesOk := CtxOk.cons (CtxOk.cons (CtxOk.cons (CtxOk.nil) ok_spec_InsOk) ok_spec_l16First) ok_spec_l01In
theorem cx_spec_LinesOk : (CX X_spec_LinesOk 35 G_spec_l01In false) ∧ (CX X_spec_LinesOk 33 G_spec_l16First false) ∧ (CX X_spec_LinesOk 36 G_spec_InsOk false) := ⟨cxI rfl rfl, cxI rfl rfl, cxI rfl rfl⟩
def S_spec_LinesOk : ByV := ⟨none, false, semF X_spec_LinesOk F_spec_LinesOk none false⟩
def G_spec_LinesOk : CK := .byv S_spec_LinesOk
theorem sg_spec_LinesOk (args : List AV) : S_spec_LinesOk.sem args = semF X_spec_LinesOk F_spec_LinesOk none false args := rfl
theorem cl_spec_LinesOk (args hp) : callS G_spec_LinesOk args hp = byvS S_spec_LinesOk args hp := callS_byv rfl rfl args hp
theorem ok_spec_LinesOk : InlOk Try.prog 23 (callS G_spec_LinesOk) := byv_none co_spec_LinesOk Try.func23 r_spec_LinesOk rfl (fun _ _ h => h)
def B0_spec_CountOf : RC :=
  .seq (.seq (.reg [o 5 (.mv (.t 4)), o 6 (.mv (.t 0)), o 7 (.len false (.t 6)), o 8 (.bin .lss (.t 5) (.t 7))]) (.cond (.t 8) (.skip) (.exit 0))) (.seq (.block 1 (.seq (.reg [o 11 (.mv (.t 0)), o 12 (.mv (.t 4)), o 13 (.ia 6 (.t 11) (.t 12)), o 14 (.fa 1 (.t 13)), o 15 (.fa 0 (.t 14)), o 16 (.ld 1 false (.t 15)), o 17 (.bin .neq (.t 16) (.c (.int .i64 0)))]) (.cond (.t 17) (.reg [o 18 (.mv (.t 3)), o 19 (.bin .add (.t 18) (.c (.int .i64 1))), o 3 (.mv (.t 19))]) (.skip)))) (.reg [o 9 (.mv (.t 4)), o 10 (.bin .add (.t 9) (.c (.int .i64 1))), o 4 (.mv (.t 10))]))
def F_spec_CountOf : RF := ⟨21, 1, [.t 2],
  .seq (.reg [o 2 (.mv (.c (.int .i64 0)))]) (.seq (.reg [o 3 (.mv (.c (.int .i64 0)))]) (.seq (.seq (.reg [o 4 (.mv (.c (.int .i64 0)))]) (.block 0 (.loop [0, 3, 4] [(1, [3])] B0_spec_CountOf))) (.seq (.reg [o 20 (.mv (.t 3)), o 2 (.mv (.t 20))]) (.ret))))⟩
def K_spec_CountOf : Keeps := [([0, 3, 4], [(1, [3])])]
theorem r_spec_CountOf : resolveF Try.prog Try.f34 K_spec_CountOf = some F_spec_CountOf := by kernel_rfl
def X_spec_CountOf : Ctx := fun _ => none
theorem co_spec_CountOf : CtxOk Try.prog X_spec_CountOf := CtxOk.nil
theorem cx_spec_CountOf : True := trivial
def S_spec_CountOf : ByV := ⟨none, false, semF X_spec_CountOf F_spec_CountOf none false⟩
def G_spec_CountOf : CK := .byv S_spec_CountOf
theorem sg_spec_CountOf (args : List AV) : S_spec_CountOf.sem args = semF X_spec_CountOf F_spec_CountOf none false args := rfl
theorem cl_spec_CountOf (args hp) : callS G_spec_CountOf args hp = byvS S_spec_CountOf args hp := callS_byv rfl rfl args hp
theorem ok_spec_CountOf : InlOk Try.prog 34 (callS G_spec_CountOf) := byv_none co_spec_CountOf Try.func34 r_spec_CountOf rfl (fun _ _ h => h)
def F_spec_PlaceOf : RF := ⟨15, 2, [.t 4],
  .seq (.reg [o 4 (.mv (.c (.int .i64 0)))]) (.seq (.reg [o 6 (.mv (.t 0)), o 7 (.mv (.t 1)), o 8 (.call 33 [(.t 6), (.t 7)]), o 5 (.mv (.t 8))]) (.seq (.seq (.reg [o 9 (.mv (.t 5)), o 10 (.bin .lss (.t 9) (.c (.int .i64 0)))]) (.cond (.t 10) (.seq (.reg [o 4 (.mv (.c (.int .i64 (-1))))]) (.ret)) (.skip))) (.seq (.reg [o 11 (.mv (.t 0)), o 12 (.mv (.t 5)), o 13 (.slc false 6 (.t 11) none (some (.t 12))), o 14 (.call 34 [(.t 13)]), o 4 (.mv (.t 14))]) (.ret))))⟩
def K_spec_PlaceOf : Keeps := []
theorem r_spec_PlaceOf : resolveF Try.prog Try.f18 K_spec_PlaceOf = some F_spec_PlaceOf := by kernel_rfl
def X_spec_PlaceOf : Ctx := Ctx.cons 33 G_spec_l16First (Ctx.cons 34 G_spec_CountOf (fun _ => none))
theorem co_spec_PlaceOf : CtxOk Try.prog X_spec_PlaceOf := CtxOk.cons (CtxOk.cons (CtxOk.nil) ok_spec_CountOf) ok_spec_l16First
theorem cx_spec_PlaceOf : (CX X_spec_PlaceOf 33 G_spec_l16First false) ∧ (CX X_spec_PlaceOf 34 G_spec_CountOf false) := ⟨cxI rfl rfl, cxI rfl rfl⟩
def S_spec_PlaceOf : ByV := ⟨none, false, semF X_spec_PlaceOf F_spec_PlaceOf none false⟩
def G_spec_PlaceOf : CK := .byv S_spec_PlaceOf
theorem sg_spec_PlaceOf (args : List AV) : S_spec_PlaceOf.sem args = semF X_spec_PlaceOf F_spec_PlaceOf none false args := rfl
theorem cl_spec_PlaceOf (args hp) : callS G_spec_PlaceOf args hp = byvS S_spec_PlaceOf args hp := callS_byv rfl rfl args hp
theorem ok_spec_PlaceOf : InlOk Try.prog 18 (callS G_spec_PlaceOf) := byv_none co_spec_PlaceOf Try.func18 r_spec_PlaceOf rfl (fun _ _ h => h)
def F_spec_Encode : RF := ⟨21, 1, [.t 2, .t 3],
  .seq (.reg [o 1 (.box (.t 0)), o 2 (.mv (.c (.int .i64 0))), o 3 (.mv (.c (.bool false)))]) (.seq (.seq (.reg [o 4 (.ld 4 true (.t 1)), o 5 (.call 36 [(.t 4)]), o 6 (.un .not (.t 5))]) (.cond (.t 6) (.seq (.reg [o 2 (.mv (.c (.int .i64 0))), o 3 (.mv (.c (.bool false)))]) (.ret)) (.skip))) (.seq (.reg [o 7 (.fa 0 (.t 1)), o 8 (.ld 1 false (.t 7)), o 9 (.bin .shl (.t 8) (.c (.int .u64 28))), o 10 (.fa 1 (.t 1)), o 11 (.ld 1 false (.t 10)), o 12 (.bin .shl (.t 11) (.c (.int .u64 25))), o 13 (.bin .add (.t 9) (.t 12)), o 14 (.fa 2 (.t 1)), o 15 (.ld 1 false (.t 14)), o 16 (.bin .shl (.t 15) (.c (.int .u64 22))), o 17 (.bin .add (.t 13) (.t 16)), o 18 (.fa 3 (.t 1)), o 19 (.ld 1 false (.t 18)), o 20 (.bin .add (.t 17) (.t 19)), o 2 (.mv (.t 20)), o 3 (.mv (.c (.bool true)))]) (.ret)))⟩
def K_spec_Encode : Keeps := []
theorem r_spec_Encode : resolveF Try.prog Try.f25 K_spec_Encode = some F_spec_Encode := by kernel_rfl
def X_spec_Encode : Ctx := Ctx.cons 36 G_spec_InsOk (fun _ => none)
theorem co_spec_Encode : CtxOk Try.prog X_spec_Encode := CtxOk.cons (CtxOk.nil) ok_spec_InsOk
theorem cx_spec_Encode : (CX X_spec_Encode 36 G_spec_InsOk false) := cxI rfl rfl
def S_spec_Encode : ByV := ⟨none, false, semF X_spec_Encode F_spec_Encode none false⟩
def G_spec_Encode : CK := .byv S_spec_Encode
theorem sg_spec_Encode (args : List AV) : S_spec_Encode.sem args = semF X_spec_Encode F_spec_Encode none false args := rfl
theorem cl_spec_Encode (args hp) : callS G_spec_Encode args hp = byvS S_spec_Encode args hp := callS_byv rfl rfl args hp
theorem ok_spec_Encode : InlOk Try.prog 25 (callS G_spec_Encode) := byv_none co_spec_Encode Try.func25 r_spec_Encode rfl (fun _ _ h => h)
def B0_spec_Assemble : RC :=
  .seq (.seq (.reg [o 14 (.mv (.t 5)), o 15 (.mv (.t 0)), o 16 (.len false (.t 15)), o 17 (.bin .lss (.t 14) (.t 16))]) (.cond (.t 17) (.skip) (.exit 0))) (.seq (.block 1 (.seq (.reg [o 20 (.mv (.t 0)), o 21 (.mv (.t 5)), o 22 (.ia 6 (.t 20) (.t 21)), o 23 (.fa 1 (.t 22)), o 24 (.ld 4 true (.t 23)), o 6 (.new [(.int .i64 0), (.int .i64 0), (.int .i64 0), (.int .i64 0)]), ⟨none, none, .st 4 (.t 6) (.t 24)⟩]) (.seq (.seq (.reg [o 25 (.fa 0 (.t 6)), o 26 (.ld 1 false (.t 25)), o 27 (.bin .eql (.t 26) (.c (.int .i64 0)))]) (.cond (.t 27) (.exit 1) (.skip))) (.seq (.seq (.reg [o 28 (.mv (.t 0)), o 29 (.mv (.t 5)), o 30 (.ia 6 (.t 28) (.t 29)), o 31 (.fa 5 (.t 30)), o 32 (.ld 1 false (.t 31)), o 33 (.bin .neq (.t 32) (.c (.str ⟨#[]⟩)))]) (.cond (.t 33) (.reg [o 34 (.mv (.t 0)), o 35 (.mv (.t 0)), o 36 (.mv (.t 5)), o 37 (.ia 6 (.t 35) (.t 36)), o 38 (.fa 5 (.t 37)), o 39 (.ld 1 false (.t 38)), o 40 (.call 18 [(.t 34), (.t 39)]), o 41 (.fa 3 (.t 6)), ⟨none, none, .st 1 (.t 41) (.t 40)⟩]) (.skip))) (.seq (.reg [o 43 (.ld 4 true (.t 6)), o 44 (.call 25 [(.t 43)]), o 42 (.mv (.t 44)), o 45 (.ex (.t 42) 0), o 46 (.ex (.t 42) 1), o 7 (.mv (.t 45)), o 8 (.mv (.t 46))]) (.seq (.seq (.reg [o 47 (.mv (.t 8)), o 48 (.un .not (.t 47))]) (.cond (.t 48) (.seq (.reg [o 49 (.bsl 1 []), o 2 (.mv (.t 49)), o 3 (.mv (.c (.bool false)))]) (.ret)) (.skip))) (.reg [o 50 (.mv (.t 4)), o 51 (.mv (.t 7)), o 52 (.bsl 1 [(.t 51)]), o 53 (.app true 1 8 (.t 50) (.t 52)), o 4 (.mv (.t 53))]))))))) (.reg [o 18 (.mv (.t 5)), o 19 (.bin .add (.t 18) (.c (.int .i64 1))), o 5 (.mv (.t 19))]))
def F_spec_Assemble : RF := ⟨55, 1, [.t 2, .t 3],
  .seq (.reg [o 2 (.mv (.c (.nil 1))), o 3 (.mv (.c (.bool false)))]) (.seq (.reg [o 9 (.bsl 1 []), o 4 (.mv (.t 9))]) (.seq (.seq (.reg [o 10 (.mv (.t 0)), o 11 (.call 23 [(.t 10)]), o 12 (.un .not (.t 11))]) (.cond (.t 12) (.seq (.reg [o 13 (.mv (.t 4)), o 2 (.mv (.t 13)), o 3 (.mv (.c (.bool false)))]) (.ret)) (.skip))) (.seq (.seq (.reg [o 5 (.mv (.c (.int .i64 0)))]) (.block 0 (.loop [0, 4, 5] [(1, [4]), (0, [2, 3])] B0_spec_Assemble))) (.seq (.reg [o 54 (.mv (.t 4)), o 2 (.mv (.t 54)), o 3 (.mv (.c (.bool true)))]) (.ret)))))⟩
def K_spec_Assemble : Keeps := [([0, 4, 5], [(1, [4]), (0, [2, 3])])]
theorem r_spec_Assemble : resolveF Try.prog Try.f6 K_spec_Assemble = some F_spec_Assemble := by kernel_rfl
def X_spec_Assemble : Ctx := Ctx.cons 23 G_spec_LinesOk (Ctx.cons 18 G_spec_PlaceOf (Ctx.cons 25 G_spec_Encode (fun _ => none)))
theorem co_spec_Assemble : CtxOk Try.prog X_spec_Assemble := CtxOk.cons (CtxOk.cons (CtxOk.cons (CtxOk.nil) ok_spec_Encode) ok_spec_PlaceOf) ok_spec_LinesOk
theorem cx_spec_Assemble : (CX X_spec_Assemble 23 G_spec_LinesOk false) ∧ (CX X_spec_Assemble 18 G_spec_PlaceOf false) ∧ (CX X_spec_Assemble 25 G_spec_Encode false) := ⟨cxI rfl rfl, cxI rfl rfl, cxI rfl rfl⟩
def S_spec_Assemble : ByV := ⟨none, false, semF X_spec_Assemble F_spec_Assemble none false⟩
def G_spec_Assemble : CK := .byv S_spec_Assemble
theorem sg_spec_Assemble (args : List AV) : S_spec_Assemble.sem args = semF X_spec_Assemble F_spec_Assemble none false args := rfl
theorem cl_spec_Assemble (args hp) : callS G_spec_Assemble args hp = byvS S_spec_Assemble args hp := callS_byv rfl rfl args hp
theorem ok_spec_Assemble : InlOk Try.prog 6 (callS G_spec_Assemble) := byv_none co_spec_Assemble Try.func6 r_spec_Assemble rfl (fun _ _ h => h)
def F_impl_within : RF := ⟨15, 3, [.t 6],
  .seq (.reg [o 6 (.mv (.c (.bool false)))]) (.seq (.reg [o 7 (.mv (.t 0)), o 8 (.mv (.t 1)), o 9 (.bin .geq (.t 7) (.t 8)), o 10 (.mv (.t 9)), ⟨some 11, some (10, true), .mv (.t 0)⟩, ⟨some 12, some (10, true), .mv (.t 2)⟩, ⟨some 13, some (10, true), .bin .leq (.t 11) (.t 12)⟩, o 14 (.pick (.t 10) (.t 13) (.c (.bool false))), o 6 (.mv (.t 14))]) (.ret))⟩
def K_impl_within : Keeps := []
theorem r_impl_within : resolveF Try.prog Try.f38 K_impl_within = some F_impl_within := by kernel_rfl
def X_impl_within : Ctx := fun _ => none
theorem co_impl_within : CtxOk Try.prog X_impl_within := CtxOk.nil
theorem cx_impl_within : True := trivial
def S_impl_within : ByV := ⟨none, false, semF X_impl_within F_impl_within none false⟩
def G_impl_within : CK := .byv S_impl_within
theorem sg_impl_within (args : List AV) : S_impl_within.sem args = semF X_impl_within F_impl_within none false args := rfl
theorem cl_impl_within (args hp) : callS G_impl_within args hp = byvS S_impl_within args hp := callS_byv rfl rfl args hp
theorem ok_impl_within : InlOk Try.prog 38 (callS G_impl_within) := byv_none co_impl_within Try.func38 r_impl_within rfl (fun _ _ h => h)
def F_impl_labelAt_1 : RF := ⟨14, 2, [.t 3],
  .seq (.reg [o 2 (.box (.t 0)), o 3 (.mv (.c (.bool false)))]) (.seq (.reg [o 4 (.fa 1 (.t 2)), o 5 (.fa 0 (.t 4)), o 6 (.ld 1 false (.t 5)), o 7 (.bin .eql (.t 6) (.c (.int .i64 0))), o 8 (.mv (.t 7)), ⟨some 9, some (8, true), .fa 0 (.t 2)⟩, ⟨some 10, some (8, true), .ld 1 false (.t 9)⟩, ⟨some 11, some (8, true), .ld 1 false (.t 1)⟩, ⟨some 12, some (8, true), .bin .eql (.t 10) (.t 11)⟩, o 13 (.pick (.t 8) (.t 12) (.c (.bool false))), o 3 (.mv (.t 13))]) (.ret))⟩
def K_impl_labelAt_1 : Keeps := []
theorem r_impl_labelAt_1 : resolveF Try.prog Try.f46 K_impl_labelAt_1 = some F_impl_labelAt_1 := by kernel_rfl
def X_impl_labelAt_1 : Ctx := fun _ => none
theorem co_impl_labelAt_1 : CtxOk Try.prog X_impl_labelAt_1 := CtxOk.nil
theorem cx_impl_labelAt_1 : True := trivial
def G_impl_labelAt_1 : CK := .inl (runF X_impl_labelAt_1 F_impl_labelAt_1)
theorem cl_impl_labelAt_1 (args hp) : callS G_impl_labelAt_1 args hp = runF X_impl_labelAt_1 F_impl_labelAt_1 args hp := rfl
theorem ok_impl_labelAt_1 : InlOk Try.prog 46 (callS G_impl_labelAt_1) := runF_ok co_impl_labelAt_1 Try.func46 r_impl_labelAt_1
def B0_slices_IndexFunc_impl_Line_impl_Line : RC :=
  .seq (.reg [o 9 (.bin .lss (.t 8) (.t 7))]) (.seq (.cond (.t 9) (.skip) (.exit 0)) (.seq (.block 1 (.seq (.reg [o 10 (.mv (.t 8)), o 5 (.mv (.t 10))]) (.seq (.reg [o 11 (.mv (.t 1)), o 12 (.mv (.t 0)), o 13 (.mv (.t 5)), o 14 (.ia 6 (.t 12) (.t 13)), o 15 (.ld 6 true (.t 14)), o 16 (.callv (.t 11) [(.t 15)])]) (.cond (.t 16) (.seq (.reg [o 17 (.mv (.t 5)), o 4 (.mv (.t 17))]) (.ret)) (.skip))))) (.reg [o 18 (.bin .add (.t 8) (.c (.int .i64 1))), o 8 (.mv (.t 18))])))
def F_slices_IndexFunc_impl_Line_impl_Line : RF := ⟨19, 2, [.t 4],
  .seq (.reg [o 4 (.mv (.c (.int .i64 0)))]) (.seq (.seq (.reg [o 6 (.mv (.t 0)), o 7 (.len false (.t 6)), o 8 (.mv (.c (.int .i64 0)))]) (.block 0 (.loop [0, 1, 7, 8] [(1, []), (0, [4])] B0_slices_IndexFunc_impl_Line_impl_Line))) (.seq (.reg [o 4 (.mv (.c (.int .i64 (-1))))]) (.ret)))⟩
def K_slices_IndexFunc_impl_Line_impl_Line : Keeps := [([0, 1, 7, 8], [(1, []), (0, [4])])]
theorem r_slices_IndexFunc_impl_Line_impl_Line : resolveF Try.prog Try.f45 K_slices_IndexFunc_impl_Line_impl_Line = some F_slices_IndexFunc_impl_Line_impl_Line := by kernel_rfl
def X_slices_IndexFunc_impl_Line_impl_Line : Ctx := Ctx.cons 46 G_impl_labelAt_1 (fun _ => none)
theorem co_slices_IndexFunc_impl_Line_impl_Line : CtxOk Try.prog X_slices_IndexFunc_impl_Line_impl_Line := CtxOk.cons (CtxOk.nil) ok_impl_labelAt_1
theorem cx_slices_IndexFunc_impl_Line_impl_Line : (CX X_slices_IndexFunc_impl_Line_impl_Line 46 G_impl_labelAt_1 true) := cxI rfl rfl
def S_slices_IndexFunc_impl_Line_impl_Line : ByV := ⟨none, false, semF X_slices_IndexFunc_impl_Line_impl_Line F_slices_IndexFunc_impl_Line_impl_Line none false⟩
def G_slices_IndexFunc_impl_Line_impl_Line : CK := .byv S_slices_IndexFunc_impl_Line_impl_Line
theorem sg_slices_IndexFunc_impl_Line_impl_Line (args : List AV) : S_slices_IndexFunc_impl_Line_impl_Line.sem args = semF X_slices_IndexFunc_impl_Line_impl_Line F_slices_IndexFunc_impl_Line_impl_Line none false args := rfl
theorem cl_slices_IndexFunc_impl_Line_impl_Line (args hp) : callS G_slices_IndexFunc_impl_Line_impl_Line args hp = byvS S_slices_IndexFunc_impl_Line_impl_Line args hp := callS_byv rfl rfl args hp
theorem ok_slices_IndexFunc_impl_Line_impl_Line : InlOk Try.prog 45 (callS G_slices_IndexFunc_impl_Line_impl_Line) := byv_none co_slices_IndexFunc_impl_Line_impl_Line Try.func45 r_slices_IndexFunc_impl_Line_impl_Line rfl (fun _ _ h => h)
def F_impl_labelAt : RF := ⟨8, 2, [.t 4],
  .seq (.reg [o 3 (.box (.t 1)), o 4 (.mv (.c (.int .i64 0)))]) (.seq (.reg [o 5 (.mv (.t 0)), o 6 (.mkf 46 [(.t 3)]), o 7 (.call 45 [(.t 5), (.t 6)]), o 4 (.mv (.t 7))]) (.ret))⟩
def K_impl_labelAt : Keeps := []
theorem r_impl_labelAt : resolveF Try.prog Try.f32 K_impl_labelAt = some F_impl_labelAt := by kernel_rfl
def X_impl_labelAt : Ctx := Ctx.cons 45 G_slices_IndexFunc_impl_Line_impl_Line (fun _ => none)
theorem co_impl_labelAt : CtxOk Try.prog X_impl_labelAt := CtxOk.cons (CtxOk.nil) ok_slices_IndexFunc_impl_Line_impl_Line
theorem cx_impl_labelAt : (CX X_impl_labelAt 45 G_slices_IndexFunc_impl_Line_impl_Line false) := cxI rfl rfl
def S_impl_labelAt : ByV := ⟨none, false, semF X_impl_labelAt F_impl_labelAt none false⟩
def G_impl_labelAt : CK := .byv S_impl_labelAt
theorem sg_impl_labelAt (args : List AV) : S_impl_labelAt.sem args = semF X_impl_labelAt F_impl_labelAt none false args := rfl
theorem cl_impl_labelAt (args hp) : callS G_impl_labelAt args hp = byvS S_impl_labelAt args hp := callS_byv rfl rfl args hp
theorem ok_impl_labelAt : InlOk Try.prog 32 (callS G_impl_labelAt) := byv_none co_impl_labelAt Try.func32 r_impl_labelAt rfl (fun _ _ h => h)
def F_impl_InsOk : RF := ⟨63, 1, [.t 2],
  .seq (.reg [o 1 (.box (.t 0)), o 2 (.mv (.c (.bool false)))]) (.seq (.seq (.reg [o 3 (.fa 0 (.t 1)), o 4 (.ld 1 false (.t 3)), o 5 (.call 38 [(.t 4), (.c (.int .i64 1)), (.c (.int .i64 10))]), o 6 (.un .not (.t 5)), o 7 (.mv (.t 6)), ⟨some 8, some (7, false), .fa 1 (.t 1)⟩, ⟨some 9, some (7, false), .ld 1 false (.t 8)⟩, ⟨some 10, some (7, false), .call 38 [(.t 9), (.c (.int .i64 0)), (.c (.int .i64 7))]⟩, ⟨some 11, some (7, false), .un .not (.t 10)⟩, o 12 (.pick (.t 7) (.c (.bool true)) (.t 11)), o 13 (.mv (.t 12)), ⟨some 14, some (13, false), .fa 2 (.t 1)⟩, ⟨some 15, some (13, false), .ld 1 false (.t 14)⟩, ⟨some 16, some (13, false), .call 38 [(.t 15), (.c (.int .i64 0)), (.c (.int .i64 7))]⟩, ⟨some 17, some (13, false), .un .not (.t 16)⟩, o 18 (.pick (.t 13) (.c (.bool true)) (.t 17)), o 19 (.mv (.t 18)), ⟨some 20, some (19, false), .fa 3 (.t 1)⟩, ⟨some 21, some (19, false), .ld 1 false (.t 20)⟩, ⟨some 22, some (19, false), .call 38 [(.t 21), (.c (.int .i64 0)), (.c (.int .i64 4194303))]⟩, ⟨some 23, some (19, false), .un .not (.t 22)⟩, o 24 (.pick (.t 19) (.c (.bool true)) (.t 23)), o 25 (.mv (.t 24)), ⟨some 26, some (25, false), .fa 0 (.t 1)⟩, ⟨some 27, some (25, false), .ld 1 false (.t 26)⟩, ⟨some 28, some (25, false), .bin .neq (.t 27) (.c (.int .i64 4))⟩, ⟨some 29, some (25, false), .mv (.t 28)⟩, ⟨some 30, some (29, true), .fa 2 (.t 1)⟩, ⟨some 31, some (29, true), .ld 1 false (.t 30)⟩, ⟨some 32, some (29, true), .bin .neq (.t 31) (.c (.int .i64 0))⟩, ⟨some 33, some (25, false), .pick (.t 29) (.t 32) (.c (.bool false))⟩, o 34 (.pick (.t 25) (.c (.bool true)) (.t 33))]) (.cond (.t 34) (.seq (.reg [o 2 (.mv (.c (.bool false)))]) (.ret)) (.skip))) (.seq (.seq (.reg [o 35 (.fa 0 (.t 1)), o 36 (.ld 1 false (.t 35))]) (.block 0 (.seq (.reg [o 38 (.bin .eql (.t 36) (.c (.int .i64 1))), o 37 (.mv (.t 38))]) (.cond (.t 37) (.seq (.reg [o 39 (.fa 3 (.t 1)), o 40 (.ld 1 false (.t 39)), o 41 (.bin .leq (.t 40) (.c (.int .i64 1000000))), o 2 (.mv (.t 41))]) (.ret)) (.seq (.reg [o 43 (.bin .eql (.t 36) (.c (.int .i64 4))), o 42 (.mv (.t 43))]) (.cond (.t 42) (.seq (.reg [o 44 (.fa 3 (.t 1)), o 45 (.ld 1 false (.t 44)), o 46 (.call 38 [(.t 45), (.c (.int .i64 1)), (.c (.int .i64 9))]), o 2 (.mv (.t 46))]) (.ret)) (.seq (.seq (.reg [o 48 (.bin .eql (.t 36) (.c (.int .i64 5))), o 47 (.mv (.t 48))]) (.cond (.t 47) (.skip) (.reg [o 49 (.bin .eql (.t 36) (.c (.int .i64 6))), o 47 (.mv (.t 49))]))) (.cond (.t 47) (.seq (.reg [o 50 (.fa 3 (.t 1)), o 51 (.ld 1 false (.t 50)), o 52 (.bin .eql (.t 51) (.c (.int .i64 0))), o 2 (.mv (.t 52))]) (.ret)) (.seq (.reg [o 54 (.bin .eql (.t 36) (.c (.int .i64 8))), o 53 (.mv (.t 54))]) (.cond (.t 53) (.seq (.reg [o 55 (.fa 1 (.t 1)), o 56 (.ld 1 false (.t 55)), o 57 (.bin .eql (.t 56) (.c (.int .i64 0))), o 2 (.mv (.t 57))]) (.ret)) (.seq (.reg [o 59 (.bin .eql (.t 36) (.c (.int .i64 10))), o 58 (.mv (.t 59))]) (.cond (.t 58) (.seq (.reg [o 60 (.fa 1 (.t 1)), o 61 (.ld 1 false (.t 60)), o 62 (.bin .geq (.t 61) (.c (.int .i64 1))), o 2 (.mv (.t 62))]) (.ret)) (.skip))))))))))))) (.seq (.reg [o 2 (.mv (.c (.bool true)))]) (.ret))))⟩
def K_impl_InsOk : Keeps := []
theorem r_impl_InsOk : resolveF Try.prog Try.f39 K_impl_InsOk = some F_impl_InsOk := by kernel_rfl
def X_impl_InsOk : Ctx := Ctx.cons 38 G_impl_within (fun _ => none)
theorem co_impl_InsOk : CtxOk Try.prog X_impl_InsOk := CtxOk.cons (CtxOk.nil) ok_impl_within
theorem cx_impl_InsOk : (CX X_impl_InsOk 38 G_impl_within false) := cxI rfl rfl
def S_impl_InsOk : ByV := ⟨none, false, semF X_impl_InsOk F_impl_InsOk none false⟩
def G_impl_InsOk : CK := .byv S_impl_InsOk
theorem sg_impl_InsOk (args : List AV) : S_impl_InsOk.sem args = semF X_impl_InsOk F_impl_InsOk none false args := rfl
theorem cl_impl_InsOk (args hp) : callS G_impl_InsOk args hp = byvS S_impl_InsOk args hp := callS_byv rfl rfl args hp
theorem ok_impl_InsOk : InlOk Try.prog 39 (callS G_impl_InsOk) := byv_none co_impl_InsOk Try.func39 r_impl_InsOk rfl (fun _ _ h => h)
def B0_impl_LinesOk : RC :=
  .seq (.reg [o 9 (.bin .lss (.t 8) (.t 7))]) (.seq (.cond (.t 9) (.skip) (.exit 0)) (.seq (.block 1 (.seq (.reg [o 10 (.mv (.t 8)), o 11 (.ia 6 (.t 6) (.t 8)), o 12 (.ld 6 true (.t 11)), o 4 (.new [(.str ⟨#[]⟩), (.int .i64 0), (.int .i64 0), (.int .i64 0), (.int .i64 0), (.str ⟨#[]⟩)]), o 3 (.mv (.t 10)), ⟨none, none, .st 6 (.t 4) (.t 12)⟩]) (.seq (.seq (.reg [o 13 (.fa 1 (.t 4)), o 14 (.fa 0 (.t 13)), o 15 (.ld 1 false (.t 14)), o 16 (.bin .eql (.t 15) (.c (.int .i64 0)))]) (.cond (.t 16) (.seq (.seq (.reg [o 17 (.fa 1 (.t 4)), o 18 (.ld 4 true (.t 17)), o 19 (.build [(.int .i64 0), (.int .i64 0), (.int .i64 0), (.int .i64 0)] []), o 20 (.eqs true [(0, 1), (1, 1), (2, 1), (3, 1)] (.t 18) (.t 19)), o 21 (.mv (.t 20)), ⟨some 22, some (21, false), .fa 5 (.t 4)⟩, ⟨some 23, some (21, false), .ld 1 false (.t 22)⟩, ⟨some 24, some (21, false), .bin .neq (.t 23) (.c (.str ⟨#[]⟩))⟩, o 25 (.pick (.t 21) (.c (.bool true)) (.t 24)), o 26 (.mv (.t 25)), ⟨some 27, some (26, false), .fa 0 (.t 4)⟩, ⟨some 28, some (26, false), .ld 1 false (.t 27)⟩, ⟨some 29, some (26, false), .len true (.t 28)⟩, ⟨some 30, some (26, false), .call 38 [(.t 29), (.c (.int .i64 1)), (.c (.int .i64 12))]⟩, ⟨some 31, some (26, false), .un .not (.t 30)⟩, o 32 (.pick (.t 26) (.c (.bool true)) (.t 31)), o 33 (.mv (.t 32)), ⟨some 34, some (33, false), .mv (.t 0)⟩, ⟨some 35, some (33, false), .fa 0 (.t 4)⟩, ⟨some 36, some (33, false), .ld 1 false (.t 35)⟩, ⟨some 37, some (33, false), .call 32 [(.t 34), (.t 36)]⟩, ⟨some 38, some (33, false), .mv (.t 3)⟩, ⟨some 39, some (33, false), .bin .neq (.t 37) (.t 38)⟩, o 40 (.pick (.t 33) (.c (.bool true)) (.t 39))]) (.cond (.t 40) (.seq (.reg [o 2 (.mv (.c (.bool false)))]) (.ret)) (.skip))) (.exit 1)) (.skip))) (.seq (.reg [o 41 (.fa 1 (.t 4)), o 42 (.ld 4 true (.t 41)), o 5 (.new [(.int .i64 0), (.int .i64 0), (.int .i64 0), (.int .i64 0)]), ⟨none, none, .st 4 (.t 5) (.t 42)⟩]) (.seq (.seq (.reg [o 43 (.fa 5 (.t 4)), o 44 (.ld 1 false (.t 43)), o 45 (.bin .neq (.t 44) (.c (.str ⟨#[]⟩))), o 46 (.mv (.t 45)), ⟨some 47, some (46, true), .fa 0 (.t 5)⟩, ⟨some 48, some (46, true), .ld 1 false (.t 47)⟩, ⟨some 49, some (46, true), .bin .neq (.t 48) (.c (.int .i64 4))⟩, o 50 (.pick (.t 46) (.t 49) (.c (.bool false)))]) (.cond (.t 50) (.reg [o 51 (.fa 3 (.t 5)), ⟨none, none, .st 1 (.t 51) (.c (.int .i64 0))⟩]) (.skip))) (.seq (.reg [o 52 (.fa 0 (.t 4)), o 53 (.ld 1 false (.t 52)), o 54 (.bin .neq (.t 53) (.c (.str ⟨#[]⟩))), o 55 (.mv (.t 54)), ⟨some 56, some (55, false), .ld 4 true (.t 5)⟩, ⟨some 57, some (55, false), .call 39 [(.t 56)]⟩, ⟨some 58, some (55, false), .un .not (.t 57)⟩, o 59 (.pick (.t 55) (.c (.bool true)) (.t 58)), o 60 (.mv (.t 59)), ⟨some 61, some (60, false), .fa 5 (.t 4)⟩, ⟨some 62, some (60, false), .ld 1 false (.t 61)⟩, ⟨some 63, some (60, false), .bin .neq (.t 62) (.c (.str ⟨#[]⟩))⟩, ⟨some 64, some (60, false), .mv (.t 63)⟩, ⟨some 65, some (64, true), .mv (.t 0)⟩, ⟨some 66, some (64, true), .fa 5 (.t 4)⟩, ⟨some 67, some (64, true), .ld 1 false (.t 66)⟩, ⟨some 68, some (64, true), .call 32 [(.t 65), (.t 67)]⟩, ⟨some 69, some (64, true), .bin .lss (.t 68) (.c (.int .i64 0))⟩, ⟨some 70, some (60, false), .pick (.t 64) (.t 69) (.c (.bool false))⟩, o 71 (.pick (.t 60) (.c (.bool true)) (.t 70))]) (.cond (.t 71) (.seq (.reg [o 2 (.mv (.c (.bool false)))]) (.ret)) (.skip)))))))) (.reg [o 72 (.bin .add (.t 8) (.c (.int .i64 1))), o 8 (.mv (.t 72))])))
def F_impl_LinesOk : RF := ⟨76, 1, [.t 2],
  .seq (.reg [o 2 (.mv (.c (.bool false)))]) (.seq (.seq (.reg [o 6 (.mv (.t 0)), o 7 (.len false (.t 6)), o 8 (.mv (.c (.int .i64 0)))]) (.block 0 (.loop [0, 6, 7, 8] [(1, [0]), (0, [2])] B0_impl_LinesOk))) (.seq (.reg [o 73 (.mv (.t 0)), o 74 (.len false (.t 73)), o 75 (.bin .leq (.t 74) (.c (.int .i64 900))), o 2 (.mv (.t 75))]) (.ret)))⟩
def K_impl_LinesOk : Keeps := [([0, 6, 7, 8], [(1, [0]), (0, [2])])]
theorem r_impl_LinesOk : resolveF Try.prog Try.f21 K_impl_LinesOk = some F_impl_LinesOk := by kernel_rfl
def X_impl_LinesOk : Ctx := Ctx.cons 38 G_impl_within (Ctx.cons 32 G_impl_labelAt (Ctx.cons 39 G_impl_InsOk (fun _ => none)))
theorem co_impl_LinesOk : CtxOk Try.prog X_impl_LinesOk := CtxOk.cons (CtxOk.cons (CtxOk.cons (CtxOk.nil) ok_impl_InsOk) ok_impl_labelAt) ok_impl_within
theorem cx_impl_LinesOk : (CX X_impl_LinesOk 38 G_impl_within false) ∧ (CX X_impl_LinesOk 32 G_impl_labelAt false) ∧ (CX X_impl_LinesOk 39 G_impl_InsOk false) := ⟨cxI rfl rfl, cxI rfl rfl, cxI rfl rfl⟩
def S_impl_LinesOk : ByV := ⟨none, false, semF X_impl_LinesOk F_impl_LinesOk none false⟩
def G_impl_LinesOk : CK := .byv S_impl_LinesOk
theorem sg_impl_LinesOk (args : List AV) : S_impl_LinesOk.sem args = semF X_impl_LinesOk F_impl_LinesOk none false args := rfl
theorem cl_impl_LinesOk (args hp) : callS G_impl_LinesOk args hp = byvS S_impl_LinesOk args hp := callS_byv rfl rfl args hp
theorem ok_impl_LinesOk : InlOk Try.prog 21 (callS G_impl_LinesOk) := byv_none co_impl_LinesOk Try.func21 r_impl_LinesOk rfl (fun _ _ h => h)
def F_impl_Encode : RF := ⟨21, 1, [.t 2, .t 3],
  .seq (.reg [o 1 (.box (.t 0)), o 2 (.mv (.c (.int .i64 0))), o 3 (.mv (.c (.bool false)))]) (.seq (.seq (.reg [o 4 (.ld 4 true (.t 1)), o 5 (.call 39 [(.t 4)]), o 6 (.un .not (.t 5))]) (.cond (.t 6) (.seq (.reg [o 2 (.mv (.c (.int .i64 0))), o 3 (.mv (.c (.bool false)))]) (.ret)) (.skip))) (.seq (.reg [o 7 (.fa 0 (.t 1)), o 8 (.ld 1 false (.t 7)), o 9 (.bin .shl (.t 8) (.c (.int .u64 28))), o 10 (.fa 1 (.t 1)), o 11 (.ld 1 false (.t 10)), o 12 (.bin .shl (.t 11) (.c (.int .u64 25))), o 13 (.bin .add (.t 9) (.t 12)), o 14 (.fa 2 (.t 1)), o 15 (.ld 1 false (.t 14)), o 16 (.bin .shl (.t 15) (.c (.int .u64 22))), o 17 (.bin .add (.t 13) (.t 16)), o 18 (.fa 3 (.t 1)), o 19 (.ld 1 false (.t 18)), o 20 (.bin .add (.t 17) (.t 19)), o 2 (.mv (.t 20)), o 3 (.mv (.c (.bool true)))]) (.ret)))⟩
def K_impl_Encode : Keeps := []
theorem r_impl_Encode : resolveF Try.prog Try.f27 K_impl_Encode = some F_impl_Encode := by kernel_rfl
def X_impl_Encode : Ctx := Ctx.cons 39 G_impl_InsOk (fun _ => none)
theorem co_impl_Encode : CtxOk Try.prog X_impl_Encode := CtxOk.cons (CtxOk.nil) ok_impl_InsOk
theorem cx_impl_Encode : (CX X_impl_Encode 39 G_impl_InsOk false) := cxI rfl rfl
def S_impl_Encode : ByV := ⟨none, false, semF X_impl_Encode F_impl_Encode none false⟩
def G_impl_Encode : CK := .byv S_impl_Encode
theorem sg_impl_Encode (args : List AV) : S_impl_Encode.sem args = semF X_impl_Encode F_impl_Encode none false args := rfl
theorem cl_impl_Encode (args hp) : callS G_impl_Encode args hp = byvS S_impl_Encode args hp := callS_byv rfl rfl args hp
theorem ok_impl_Encode : InlOk Try.prog 27 (callS G_impl_Encode) := byv_none co_impl_Encode Try.func27 r_impl_Encode rfl (fun _ _ h => h)
def B0_impl_Assemble : RC :=
  .seq (.reg [o 21 (.bin .lss (.t 20) (.t 19))]) (.seq (.cond (.t 21) (.skip) (.exit 0)) (.seq (.block 1 (.seq (.reg [o 22 (.ia 6 (.t 18) (.t 20)), o 23 (.ld 6 true (.t 22)), o 7 (.new [(.str ⟨#[]⟩), (.int .i64 0), (.int .i64 0), (.int .i64 0), (.int .i64 0), (.str ⟨#[]⟩)]), ⟨none, none, .st 6 (.t 7) (.t 23)⟩]) (.seq (.reg [o 24 (.fa 1 (.t 7)), o 25 (.fa 0 (.t 24)), o 26 (.ld 1 false (.t 25)), o 27 (.bin .eql (.t 26) (.c (.int .i64 0)))]) (.cond (.t 27) (.reg [o 28 (.mv (.t 4)), o 29 (.fa 0 (.t 7)), o 30 (.ld 1 false (.t 29)), o 31 (.mv (.t 5)), o 68 (.call 1000001 [(.t 68), (.t 28), (.t 30), (.t 31)])]) (.reg [o 32 (.mv (.t 5)), o 33 (.bin .add (.t 32) (.c (.int .i64 1))), o 5 (.mv (.t 33))]))))) (.reg [o 34 (.bin .add (.t 20) (.c (.int .i64 1))), o 20 (.mv (.t 34))])))
def B1_impl_Assemble : RC :=
  .seq (.reg [o 38 (.bin .lss (.t 37) (.t 36))]) (.seq (.cond (.t 38) (.skip) (.exit 2)) (.seq (.block 3 (.seq (.reg [o 39 (.ia 6 (.t 35) (.t 37)), o 40 (.ld 6 true (.t 39)), o 10 (.new [(.str ⟨#[]⟩), (.int .i64 0), (.int .i64 0), (.int .i64 0), (.int .i64 0), (.str ⟨#[]⟩)]), ⟨none, none, .st 6 (.t 10) (.t 40)⟩]) (.seq (.seq (.reg [o 41 (.fa 1 (.t 10)), o 42 (.fa 0 (.t 41)), o 43 (.ld 1 false (.t 42)), o 44 (.bin .eql (.t 43) (.c (.int .i64 0)))]) (.cond (.t 44) (.exit 3) (.skip))) (.seq (.reg [o 45 (.fa 1 (.t 10)), o 46 (.ld 4 true (.t 45)), o 11 (.new [(.int .i64 0), (.int .i64 0), (.int .i64 0), (.int .i64 0)]), ⟨none, none, .st 4 (.t 11) (.t 46)⟩]) (.seq (.seq (.reg [o 47 (.fa 5 (.t 10)), o 48 (.ld 1 false (.t 47)), o 49 (.bin .neq (.t 48) (.c (.str ⟨#[]⟩)))]) (.cond (.t 49) (.reg [o 50 (.mv (.t 4)), o 51 (.fa 5 (.t 10)), o 52 (.ld 1 false (.t 51)), o 53 (.call 1000002 [(.t 68), (.t 50), (.t 52)]), o 54 (.fa 3 (.t 11)), ⟨none, none, .st 1 (.t 54) (.t 53)⟩]) (.skip))) (.seq (.reg [o 56 (.ld 4 true (.t 11)), o 57 (.call 27 [(.t 56)]), o 55 (.mv (.t 57)), o 58 (.ex (.t 55) 0), o 59 (.ex (.t 55) 1), o 12 (.mv (.t 58)), o 13 (.mv (.t 59))]) (.seq (.seq (.reg [o 60 (.mv (.t 13)), o 61 (.un .not (.t 60))]) (.cond (.t 61) (.seq (.reg [o 2 (.mv (.c (.nil 1))), o 3 (.mv (.c (.bool false)))]) (.ret)) (.skip))) (.reg [o 62 (.mv (.t 8)), o 63 (.mv (.t 12)), o 64 (.bsl 1 [(.t 63)]), o 65 (.app true 1 8 (.t 62) (.t 64)), o 8 (.mv (.t 65))])))))))) (.reg [o 66 (.bin .add (.t 37) (.c (.int .i64 1))), o 37 (.mv (.t 66))])))
def F_impl_Assemble : RF := ⟨68, 1, [.t 2, .t 3],
  .seq (.reg [o 2 (.mv (.c (.nil 1))), o 3 (.mv (.c (.bool false)))]) (.seq (.seq (.reg [o 14 (.mv (.t 0)), o 15 (.call 21 [(.t 14)]), o 16 (.un .not (.t 15))]) (.cond (.t 16) (.seq (.reg [o 2 (.mv (.c (.nil 1))), o 3 (.mv (.c (.bool false)))]) (.ret)) (.skip))) (.seq (.reg [o 68 (.call 1000000 [(.t 4), (.t 17), (.t 28), (.t 50), (.t 68)]), o 17 (.mv (.c (.bool true))), o 4 (.mv (.t 17))]) (.seq (.reg [o 5 (.mv (.c (.int .i64 0)))]) (.seq (.seq (.reg [o 18 (.mv (.t 0)), o 19 (.len false (.t 18)), o 20 (.mv (.c (.int .i64 0)))]) (.block 0 (.loop [0, 4, 5, 18, 19, 20, 68] [(1, [0, 4, 68])] B0_impl_Assemble))) (.seq (.reg [o 8 (.mv (.c (.nil 1)))]) (.seq (.seq (.reg [o 35 (.mv (.t 0)), o 36 (.len false (.t 35)), o 37 (.mv (.c (.int .i64 0)))]) (.block 2 (.loop [4, 8, 35, 36, 37, 68] [(3, [8]), (0, [2, 3])] B1_impl_Assemble))) (.seq (.reg [o 67 (.mv (.t 8)), o 2 (.mv (.t 67)), o 3 (.mv (.c (.bool true)))]) (.ret))))))))⟩
def K_impl_Assemble : Keeps := [([0, 4, 5, 18, 19, 20, 68], [(1, [0, 4, 68])]), ([4, 8, 35, 36, 37, 68], [(3, [8]), (0, [2, 3])])]
theorem r_impl_Assemble : resolveFM Try.prog Try.f8 K_impl_Assemble [4, 17, 28, 50, 68] 68 = some F_impl_Assemble := by kernel_rfl
def X_impl_Assemble : Ctx := Ctx.cons 21 G_impl_LinesOk (Ctx.cons 27 G_impl_Encode (fun _ => none))
theorem co_impl_Assemble : CtxOk Try.prog X_impl_Assemble := CtxOk.cons (CtxOk.cons (CtxOk.nil) ok_impl_Encode) ok_impl_LinesOk
def Y_impl_Assemble : Ctx := ctxM X_impl_Assemble
theorem cx_impl_Assemble : (CX Y_impl_Assemble 21 G_impl_LinesOk false) ∧ (CX Y_impl_Assemble 27 G_impl_Encode false) ∧ (CX Y_impl_Assemble 1000000 G_mapMk true) ∧ (CX Y_impl_Assemble 1000001 G_mapPut true) ∧ (CX Y_impl_Assemble 1000002 G_mapGet true) := ⟨cxI rfl rfl, cxI rfl rfl, cxI rfl rfl, cxI rfl rfl, cxI rfl rfl⟩
def S_impl_Assemble : ByV := ⟨none, false, semF Y_impl_Assemble F_impl_Assemble none false⟩
def G_impl_Assemble : CK := .byv S_impl_Assemble
theorem sg_impl_Assemble (args : List AV) : S_impl_Assemble.sem args = semF Y_impl_Assemble F_impl_Assemble none false args := rfl
theorem cl_impl_Assemble (args hp) : callS G_impl_Assemble args hp = byvS S_impl_Assemble args hp := callS_byv rfl rfl args hp
theorem ok_impl_Assemble : InlOk Try.prog 8 (callS G_impl_Assemble) := byv_noneM co_impl_Assemble Try.func8 r_impl_Assemble rfl rfl (fun _ _ h => h)
def B0_laws_eqIntS : RC :=
  .seq (.seq (.reg [o 11 (.mv (.t 5)), o 12 (.mv (.t 0)), o 13 (.len false (.t 12)), o 14 (.bin .lss (.t 11) (.t 13))]) (.cond (.t 14) (.skip) (.exit 0))) (.seq (.block 1 (.seq (.regd [(0, o 17 (.mv (.t 0))), (0, o 18 (.mv (.t 5))), (1, o 19 (.ia 1 (.t 17) (.t 18))), (1, o 20 (.ld 1 false (.t 19))), (0, o 21 (.mv (.t 1))), (0, o 22 (.mv (.t 5))), (1, o 23 (.ia 1 (.t 21) (.t 22))), (1, o 24 (.ld 1 false (.t 23))), (0, o 25 (.bin .neq (.t 20) (.t 24)))] []) (.cond (.t 25) (.seq (.reg [o 4 (.mv (.c (.bool false)))]) (.ret)) (.skip)))) (.reg [o 15 (.mv (.t 5)), o 16 (.bin .add (.t 15) (.c (.int .i64 1))), o 5 (.mv (.t 16))]))
def F_laws_eqIntS : RF := ⟨26, 2, [.t 4],
  .seq (.reg [o 4 (.mv (.c (.bool false)))]) (.seq (.seq (.reg [o 6 (.mv (.t 0)), o 7 (.len false (.t 6)), o 8 (.mv (.t 1)), o 9 (.len false (.t 8)), o 10 (.bin .neq (.t 7) (.t 9))]) (.cond (.t 10) (.seq (.reg [o 4 (.mv (.c (.bool false)))]) (.ret)) (.skip))) (.seq (.seq (.reg [o 5 (.mv (.c (.int .i64 0)))]) (.block 0 (.loop [0, 1, 5] [(1, []), (0, [4])] B0_laws_eqIntS))) (.seq (.reg [o 4 (.mv (.c (.bool true)))]) (.ret))))⟩
def K_laws_eqIntS : Keeps := [([0, 1, 5], [(1, []), (0, [4])])]
theorem r_laws_eqIntS : resolveF Try.prog Try.f9 K_laws_eqIntS = some F_laws_eqIntS := by kernel_rfl
def X_laws_eqIntS : Ctx := fun _ => none
theorem co_laws_eqIntS : CtxOk Try.prog X_laws_eqIntS := CtxOk.nil
theorem cx_laws_eqIntS : True := trivial
def S_laws_eqIntS : ByV := ⟨none, false, semF X_laws_eqIntS F_laws_eqIntS none false⟩
def G_laws_eqIntS : CK := .byv S_laws_eqIntS
theorem sg_laws_eqIntS (args : List AV) : S_laws_eqIntS.sem args = semF X_laws_eqIntS F_laws_eqIntS none false args := rfl
theorem cl_laws_eqIntS (args hp) : callS G_laws_eqIntS args hp = byvS S_laws_eqIntS args hp := callS_byv rfl rfl args hp
theorem ok_laws_eqIntS : InlOk Try.prog 9 (callS G_laws_eqIntS) := byv_none co_laws_eqIntS Try.func9 r_laws_eqIntS rfl (fun _ _ h => h)
def F_laws_eqIns : RF := ⟨25, 2, [.t 4],
  .seq (.reg [o 2 (.box (.t 0)), o 3 (.box (.t 1)), o 4 (.mv (.c (.bool false)))]) (.seq (.seq (.reg [o 5 (.fa 0 (.t 2)), o 6 (.ld 1 false (.t 5)), o 7 (.fa 0 (.t 3)), o 8 (.ld 1 false (.t 7)), o 9 (.bin .neq (.t 6) (.t 8))]) (.cond (.t 9) (.seq (.reg [o 4 (.mv (.c (.bool false)))]) (.ret)) (.skip))) (.seq (.seq (.reg [o 10 (.fa 1 (.t 2)), o 11 (.ld 1 false (.t 10)), o 12 (.fa 1 (.t 3)), o 13 (.ld 1 false (.t 12)), o 14 (.bin .neq (.t 11) (.t 13))]) (.cond (.t 14) (.seq (.reg [o 4 (.mv (.c (.bool false)))]) (.ret)) (.skip))) (.seq (.seq (.reg [o 15 (.fa 2 (.t 2)), o 16 (.ld 1 false (.t 15)), o 17 (.fa 2 (.t 3)), o 18 (.ld 1 false (.t 17)), o 19 (.bin .neq (.t 16) (.t 18))]) (.cond (.t 19) (.seq (.reg [o 4 (.mv (.c (.bool false)))]) (.ret)) (.skip))) (.seq (.seq (.reg [o 20 (.fa 3 (.t 2)), o 21 (.ld 1 false (.t 20)), o 22 (.fa 3 (.t 3)), o 23 (.ld 1 false (.t 22)), o 24 (.bin .neq (.t 21) (.t 23))]) (.cond (.t 24) (.seq (.reg [o 4 (.mv (.c (.bool false)))]) (.ret)) (.skip))) (.seq (.reg [o 4 (.mv (.c (.bool true)))]) (.ret))))))⟩
def K_laws_eqIns : Keeps := []
theorem r_laws_eqIns : resolveF Try.prog Try.f41 K_laws_eqIns = some F_laws_eqIns := by kernel_rfl
def X_laws_eqIns : Ctx := fun _ => none
theorem co_laws_eqIns : CtxOk Try.prog X_laws_eqIns := CtxOk.nil
theorem cx_laws_eqIns : True := trivial
def S_laws_eqIns : ByV := ⟨none, false, semF X_laws_eqIns F_laws_eqIns none false⟩
def G_laws_eqIns : CK := .byv S_laws_eqIns
theorem sg_laws_eqIns (args : List AV) : S_laws_eqIns.sem args = semF X_laws_eqIns F_laws_eqIns none false args := rfl
theorem cl_laws_eqIns (args hp) : callS G_laws_eqIns args hp = byvS S_laws_eqIns args hp := callS_byv rfl rfl args hp
theorem ok_laws_eqIns : InlOk Try.prog 41 (callS G_laws_eqIns) := byv_none co_laws_eqIns Try.func41 r_laws_eqIns rfl (fun _ _ h => h)
def F_laws_eqLine : RF := ⟨21, 2, [.t 4],
  .seq (.reg [o 2 (.box (.t 0)), o 3 (.box (.t 1)), o 4 (.mv (.c (.bool false)))]) (.seq (.seq (.reg [o 5 (.fa 0 (.t 2)), o 6 (.ld 1 false (.t 5)), o 7 (.fa 0 (.t 3)), o 8 (.ld 1 false (.t 7)), o 9 (.bin .neq (.t 6) (.t 8))]) (.cond (.t 9) (.seq (.reg [o 4 (.mv (.c (.bool false)))]) (.ret)) (.skip))) (.seq (.seq (.reg [o 10 (.fa 1 (.t 2)), o 11 (.ld 4 true (.t 10)), o 12 (.fa 1 (.t 3)), o 13 (.ld 4 true (.t 12)), o 14 (.call 41 [(.t 11), (.t 13)]), o 15 (.un .not (.t 14))]) (.cond (.t 15) (.seq (.reg [o 4 (.mv (.c (.bool false)))]) (.ret)) (.skip))) (.seq (.seq (.reg [o 16 (.fa 5 (.t 2)), o 17 (.ld 1 false (.t 16)), o 18 (.fa 5 (.t 3)), o 19 (.ld 1 false (.t 18)), o 20 (.bin .neq (.t 17) (.t 19))]) (.cond (.t 20) (.seq (.reg [o 4 (.mv (.c (.bool false)))]) (.ret)) (.skip))) (.seq (.reg [o 4 (.mv (.c (.bool true)))]) (.ret)))))⟩
def K_laws_eqLine : Keeps := []
theorem r_laws_eqLine : resolveF Try.prog Try.f28 K_laws_eqLine = some F_laws_eqLine := by kernel_rfl
def X_laws_eqLine : Ctx := Ctx.cons 41 G_laws_eqIns (fun _ => none)
theorem co_laws_eqLine : CtxOk Try.prog X_laws_eqLine := CtxOk.cons (CtxOk.nil) ok_laws_eqIns
theorem cx_laws_eqLine : (CX X_laws_eqLine 41 G_laws_eqIns false) := cxI rfl rfl
def S_laws_eqLine : ByV := ⟨none, false, semF X_laws_eqLine F_laws_eqLine none false⟩
def G_laws_eqLine : CK := .byv S_laws_eqLine
theorem sg_laws_eqLine (args : List AV) : S_laws_eqLine.sem args = semF X_laws_eqLine F_laws_eqLine none false args := rfl
theorem cl_laws_eqLine (args hp) : callS G_laws_eqLine args hp = byvS S_laws_eqLine args hp := callS_byv rfl rfl args hp
theorem ok_laws_eqLine : InlOk Try.prog 28 (callS G_laws_eqLine) := byv_none co_laws_eqLine Try.func28 r_laws_eqLine rfl (fun _ _ h => h)
def B0_laws_eqLineS : RC :=
  .seq (.seq (.reg [o 11 (.mv (.t 5)), o 12 (.mv (.t 0)), o 13 (.len false (.t 12)), o 14 (.bin .lss (.t 11) (.t 13))]) (.cond (.t 14) (.skip) (.exit 0))) (.seq (.block 1 (.seq (.regd [(0, o 17 (.mv (.t 0))), (0, o 18 (.mv (.t 5))), (1, o 19 (.ia 6 (.t 17) (.t 18))), (1, o 20 (.ld 6 true (.t 19))), (0, o 21 (.mv (.t 1))), (0, o 22 (.mv (.t 5))), (1, o 23 (.ia 6 (.t 21) (.t 22))), (1, o 24 (.ld 6 true (.t 23))), (1, o 25 (.call 28 [(.t 20), (.t 24)])), (0, o 26 (.un .not (.t 25)))] []) (.cond (.t 26) (.seq (.reg [o 4 (.mv (.c (.bool false)))]) (.ret)) (.skip)))) (.reg [o 15 (.mv (.t 5)), o 16 (.bin .add (.t 15) (.c (.int .i64 1))), o 5 (.mv (.t 16))]))
def F_laws_eqLineS : RF := ⟨27, 2, [.t 4],
  .seq (.reg [o 4 (.mv (.c (.bool false)))]) (.seq (.seq (.reg [o 6 (.mv (.t 0)), o 7 (.len false (.t 6)), o 8 (.mv (.t 1)), o 9 (.len false (.t 8)), o 10 (.bin .neq (.t 7) (.t 9))]) (.cond (.t 10) (.seq (.reg [o 4 (.mv (.c (.bool false)))]) (.ret)) (.skip))) (.seq (.seq (.reg [o 5 (.mv (.c (.int .i64 0)))]) (.block 0 (.loop [0, 1, 5] [(1, []), (0, [4])] B0_laws_eqLineS))) (.seq (.reg [o 4 (.mv (.c (.bool true)))]) (.ret))))⟩
def K_laws_eqLineS : Keeps := [([0, 1, 5], [(1, []), (0, [4])])]
theorem r_laws_eqLineS : resolveF Try.prog Try.f10 K_laws_eqLineS = some F_laws_eqLineS := by kernel_rfl
def X_laws_eqLineS : Ctx := Ctx.cons 28 G_laws_eqLine (fun _ => none)
theorem co_laws_eqLineS : CtxOk Try.prog X_laws_eqLineS := CtxOk.cons (CtxOk.nil) ok_laws_eqLine
theorem cx_laws_eqLineS : (CX X_laws_eqLineS 28 G_laws_eqLine false) := cxI rfl rfl
def S_laws_eqLineS : ByV := ⟨none, false, semF X_laws_eqLineS F_laws_eqLineS none false⟩
def G_laws_eqLineS : CK := .byv S_laws_eqLineS
theorem sg_laws_eqLineS (args : List AV) : S_laws_eqLineS.sem args = semF X_laws_eqLineS F_laws_eqLineS none false args := rfl
theorem cl_laws_eqLineS (args hp) : callS G_laws_eqLineS args hp = byvS S_laws_eqLineS args hp := callS_byv rfl rfl args hp
theorem ok_laws_eqLineS : InlOk Try.prog 10 (callS G_laws_eqLineS) := byv_none co_laws_eqLineS Try.func10 r_laws_eqLineS rfl (fun _ _ h => h)
def B0_laws_markText : RC :=
  .seq (.seq (.reg [o 6 (.mv (.t 0)), o 7 (.bin .gtr (.t 6) (.c (.int .i64 0)))]) (.cond (.t 7) (.skip) (.exit 0))) (.block 1 (.seq (.reg [o 8 (.mv (.t 0)), o 9 (.bin .rem (.t 8) (.c (.int .i64 10))), o 10 (.bin .add (.c (.int .i64 48)) (.t 9)), o 11 (.cvi .u8 (.t 10)), o 12 (.bsl 1 [(.t 11)]), o 13 (.b2s (.t 12)), o 14 (.mv (.t 3)), o 15 (.bin .add (.t 13) (.t 14)), o 3 (.mv (.t 15))]) (.reg [o 16 (.mv (.t 0)), o 17 (.bin .quo (.t 16) (.c (.int .i64 10))), o 0 (.mv (.t 17))])))
def F_laws_markText : RF := ⟨20, 1, [.t 2],
  .seq (.reg [o 2 (.mv (.c (.str ⟨#[]⟩)))]) (.seq (.seq (.reg [o 4 (.mv (.t 0)), o 5 (.bin .leq (.t 4) (.c (.int .i64 0)))]) (.cond (.t 5) (.seq (.reg [o 2 (.mv (.c (.str ⟨#[109, 48]⟩)))]) (.ret)) (.skip))) (.seq (.reg [o 3 (.mv (.c (.str ⟨#[]⟩)))]) (.seq (.block 0 (.loop [0, 3] [(1, [3])] B0_laws_markText)) (.seq (.reg [o 18 (.mv (.t 3)), o 19 (.bin .add (.c (.str ⟨#[109]⟩)) (.t 18)), o 2 (.mv (.t 19))]) (.ret)))))⟩
def K_laws_markText : Keeps := [([0, 3], [(1, [3])])]
theorem r_laws_markText : resolveF Try.prog Try.f29 K_laws_markText = some F_laws_markText := by kernel_rfl
def X_laws_markText : Ctx := fun _ => none
theorem co_laws_markText : CtxOk Try.prog X_laws_markText := CtxOk.nil
theorem cx_laws_markText : True := trivial
def S_laws_markText : ByV := ⟨none, false, semF X_laws_markText F_laws_markText none false⟩
def G_laws_markText : CK := .byv S_laws_markText
theorem sg_laws_markText (args : List AV) : S_laws_markText.sem args = semF X_laws_markText F_laws_markText none false args := rfl
theorem cl_laws_markText (args hp) : callS G_laws_markText args hp = byvS S_laws_markText args hp := callS_byv rfl rfl args hp
theorem ok_laws_markText : InlOk Try.prog 29 (callS G_laws_markText) := byv_none co_laws_markText Try.func29 r_laws_markText rfl (fun _ _ h => h)
def B0_laws_markLineS : RC :=
  .seq (.seq (.reg [o 6 (.mv (.t 5)), o 7 (.mv (.t 0)), o 8 (.len false (.t 7)), o 9 (.bin .lss (.t 6) (.t 8))]) (.cond (.t 9) (.skip) (.exit 0))) (.seq (.block 1 (.seq (.reg [o 12 (.mv (.t 0)), o 13 (.mv (.t 5)), o 14 (.mv (.t 1)), o 15 (.call 29 [(.t 14)]), o 16 (.ia 6 (.t 12) (.t 13)), o 17 (.fa 0 (.t 16)), ⟨none, none, .st 1 (.t 17) (.t 15)⟩]) (.seq (.reg [o 18 (.mv (.t 1)), o 19 (.bin .add (.t 18) (.c (.int .i64 1))), o 1 (.mv (.t 19))]) (.seq (.reg [o 20 (.mv (.t 0)), o 21 (.mv (.t 5)), o 22 (.mv (.t 1)), o 23 (.ia 6 (.t 20) (.t 21)), o 24 (.fa 1 (.t 23)), o 25 (.fa 0 (.t 24)), ⟨none, none, .st 1 (.t 25) (.t 22)⟩]) (.seq (.reg [o 26 (.mv (.t 1)), o 27 (.bin .add (.t 26) (.c (.int .i64 1))), o 1 (.mv (.t 27))]) (.seq (.reg [o 28 (.mv (.t 0)), o 29 (.mv (.t 5)), o 30 (.mv (.t 1)), o 31 (.ia 6 (.t 28) (.t 29)), o 32 (.fa 1 (.t 31)), o 33 (.fa 1 (.t 32)), ⟨none, none, .st 1 (.t 33) (.t 30)⟩]) (.seq (.reg [o 34 (.mv (.t 1)), o 35 (.bin .add (.t 34) (.c (.int .i64 1))), o 1 (.mv (.t 35))]) (.seq (.reg [o 36 (.mv (.t 0)), o 37 (.mv (.t 5)), o 38 (.mv (.t 1)), o 39 (.ia 6 (.t 36) (.t 37)), o 40 (.fa 1 (.t 39)), o 41 (.fa 2 (.t 40)), ⟨none, none, .st 1 (.t 41) (.t 38)⟩]) (.seq (.reg [o 42 (.mv (.t 1)), o 43 (.bin .add (.t 42) (.c (.int .i64 1))), o 1 (.mv (.t 43))]) (.seq (.reg [o 44 (.mv (.t 0)), o 45 (.mv (.t 5)), o 46 (.mv (.t 1)), o 47 (.ia 6 (.t 44) (.t 45)), o 48 (.fa 1 (.t 47)), o 49 (.fa 3 (.t 48)), ⟨none, none, .st 1 (.t 49) (.t 46)⟩]) (.seq (.reg [o 50 (.mv (.t 1)), o 51 (.bin .add (.t 50) (.c (.int .i64 1))), o 1 (.mv (.t 51))]) (.seq (.reg [o 52 (.mv (.t 0)), o 53 (.mv (.t 5)), o 54 (.mv (.t 1)), o 55 (.call 29 [(.t 54)]), o 56 (.ia 6 (.t 52) (.t 53)), o 57 (.fa 5 (.t 56)), ⟨none, none, .st 1 (.t 57) (.t 55)⟩]) (.reg [o 58 (.mv (.t 1)), o 59 (.bin .add (.t 58) (.c (.int .i64 1))), o 1 (.mv (.t 59))]))))))))))))) (.reg [o 10 (.mv (.t 5)), o 11 (.bin .add (.t 10) (.c (.int .i64 1))), o 5 (.mv (.t 11))]))
def F_laws_markLineS : RF := ⟨61, 2, [.t 4],
  .seq (.reg [o 4 (.mv (.c (.int .i64 0)))]) (.seq (.seq (.reg [o 5 (.mv (.c (.int .i64 0)))]) (.block 0 (.loop [0, 1, 5] [(1, [1])] B0_laws_markLineS))) (.seq (.reg [o 60 (.mv (.t 1)), o 4 (.mv (.t 60))]) (.ret)))⟩
def K_laws_markLineS : Keeps := [([0, 1, 5], [(1, [1])])]
theorem r_laws_markLineS : resolveF Try.prog Try.f11 K_laws_markLineS = some F_laws_markLineS := by kernel_rfl
def X_laws_markLineS : Ctx := Ctx.cons 29 G_laws_markText (fun _ => none)
theorem co_laws_markLineS : CtxOk Try.prog X_laws_markLineS := CtxOk.cons (CtxOk.nil) ok_laws_markText
theorem cx_laws_markLineS : (CX X_laws_markLineS 29 G_laws_markText false) := cxI rfl rfl
def S_laws_markLineS : ByV := ⟨some 0, false, semF X_laws_markLineS F_laws_markLineS (some 0) false⟩
def G_laws_markLineS : CK := .byv S_laws_markLineS
theorem sg_laws_markLineS (args : List AV) : S_laws_markLineS.sem args = semF X_laws_markLineS F_laws_markLineS (some 0) false args := rfl
theorem cl_laws_markLineS (args hp) : callS G_laws_markLineS args hp = byvM S_laws_markLineS args hp := callS_byvM rfl args hp
theorem ok_laws_markLineS : InlOk Try.prog 11 (callS G_laws_markLineS) := byv_mark co_laws_markLineS Try.func11 r_laws_markLineS rfl (ro := false) (fun _ _ h => h)
def B0_laws_markIntS : RC :=
  .seq (.seq (.reg [o 6 (.mv (.t 5)), o 7 (.mv (.t 0)), o 8 (.len false (.t 7)), o 9 (.bin .lss (.t 6) (.t 8))]) (.cond (.t 9) (.skip) (.exit 0))) (.seq (.block 1 (.seq (.reg [o 12 (.mv (.t 0)), o 13 (.mv (.t 5)), o 14 (.mv (.t 1)), o 15 (.ia 1 (.t 12) (.t 13)), ⟨none, none, .st 1 (.t 15) (.t 14)⟩]) (.reg [o 16 (.mv (.t 1)), o 17 (.bin .add (.t 16) (.c (.int .i64 1))), o 1 (.mv (.t 17))]))) (.reg [o 10 (.mv (.t 5)), o 11 (.bin .add (.t 10) (.c (.int .i64 1))), o 5 (.mv (.t 11))]))
def F_laws_markIntS : RF := ⟨19, 2, [.t 4],
  .seq (.reg [o 4 (.mv (.c (.int .i64 0)))]) (.seq (.seq (.reg [o 5 (.mv (.c (.int .i64 0)))]) (.block 0 (.loop [0, 1, 5] [(1, [1])] B0_laws_markIntS))) (.seq (.reg [o 18 (.mv (.t 1)), o 4 (.mv (.t 18))]) (.ret)))⟩
def K_laws_markIntS : Keeps := [([0, 1, 5], [(1, [1])])]
theorem r_laws_markIntS : resolveF Try.prog Try.f12 K_laws_markIntS = some F_laws_markIntS := by kernel_rfl
def X_laws_markIntS : Ctx := fun _ => none
theorem co_laws_markIntS : CtxOk Try.prog X_laws_markIntS := CtxOk.nil
theorem cx_laws_markIntS : True := trivial
def S_laws_markIntS : ByV := ⟨some 0, false, semF X_laws_markIntS F_laws_markIntS (some 0) false⟩
def G_laws_markIntS : CK := .byv S_laws_markIntS
theorem sg_laws_markIntS (args : List AV) : S_laws_markIntS.sem args = semF X_laws_markIntS F_laws_markIntS (some 0) false args := rfl
theorem cl_laws_markIntS (args hp) : callS G_laws_markIntS args hp = byvM S_laws_markIntS args hp := callS_byvM rfl args hp
theorem ok_laws_markIntS : InlOk Try.prog 12 (callS G_laws_markIntS) := byv_mark co_laws_markIntS Try.func12 r_laws_markIntS rfl (ro := false) (fun _ _ h => h)
def B0_laws_heldIntS : RC :=
  .seq (.seq (.reg [o 6 (.mv (.t 5)), o 7 (.mv (.t 0)), o 8 (.len false (.t 7)), o 9 (.bin .lss (.t 6) (.t 8))]) (.cond (.t 9) (.skip) (.exit 0))) (.seq (.block 1 (.seq (.seq (.reg [o 12 (.mv (.t 0)), o 13 (.mv (.t 5)), o 14 (.ia 1 (.t 12) (.t 13)), o 15 (.ld 1 false (.t 14)), o 16 (.mv (.t 1)), o 17 (.bin .neq (.t 15) (.t 16))]) (.cond (.t 17) (.seq (.reg [o 4 (.mv (.c (.int .i64 (-1))))]) (.ret)) (.skip))) (.reg [o 18 (.mv (.t 1)), o 19 (.bin .add (.t 18) (.c (.int .i64 1))), o 1 (.mv (.t 19))]))) (.reg [o 10 (.mv (.t 5)), o 11 (.bin .add (.t 10) (.c (.int .i64 1))), o 5 (.mv (.t 11))]))
def F_laws_heldIntS : RF := ⟨21, 2, [.t 4],
  .seq (.reg [o 4 (.mv (.c (.int .i64 0)))]) (.seq (.seq (.reg [o 5 (.mv (.c (.int .i64 0)))]) (.block 0 (.loop [0, 1, 5] [(1, [1]), (0, [4])] B0_laws_heldIntS))) (.seq (.reg [o 20 (.mv (.t 1)), o 4 (.mv (.t 20))]) (.ret)))⟩
def K_laws_heldIntS : Keeps := [([0, 1, 5], [(1, [1]), (0, [4])])]
theorem r_laws_heldIntS : resolveF Try.prog Try.f13 K_laws_heldIntS = some F_laws_heldIntS := by kernel_rfl
def X_laws_heldIntS : Ctx := fun _ => none
theorem co_laws_heldIntS : CtxOk Try.prog X_laws_heldIntS := CtxOk.nil
theorem cx_laws_heldIntS : True := trivial
def S_laws_heldIntS : ByV := ⟨none, false, semF X_laws_heldIntS F_laws_heldIntS none false⟩
def G_laws_heldIntS : CK := .byv S_laws_heldIntS
theorem sg_laws_heldIntS (args : List AV) : S_laws_heldIntS.sem args = semF X_laws_heldIntS F_laws_heldIntS none false args := rfl
theorem cl_laws_heldIntS (args hp) : callS G_laws_heldIntS args hp = byvS S_laws_heldIntS args hp := callS_byv rfl rfl args hp
theorem ok_laws_heldIntS : InlOk Try.prog 13 (callS G_laws_heldIntS) := byv_none co_laws_heldIntS Try.func13 r_laws_heldIntS rfl (fun _ _ h => h)
def F_laws_FnExactAssemble : RF := ⟨96, 1, [.t 2],
  .seq (.reg [o 2 (.mv (.c (.bool false)))]) (.seq (.reg [o 3 (.mv (.c (.int .i64 1048576)))]) (.seq (.reg [o 14 (.mv (.t 0)), o 15 (.mv (.t 3)), o 16 (.call 5 [(.t 14), (.t 15)]), o 3 (.mv (.t 16))]) (.seq (.seq (.reg [o 17 (.mv (.t 3)), o 18 (.bin .lss (.t 17) (.c (.int .i64 0)))]) (.cond (.t 18) (.seq (.reg [o 2 (.mv (.c (.bool true)))]) (.ret)) (.skip))) (.seq (.reg [o 20 (.mv (.t 0)), o 21 (.call 7 [(.t 20)]), o 22 (.call 6 [(.t 21)]), o 19 (.mv (.t 22)), o 23 (.ex (.t 19) 0), o 24 (.ex (.t 19) 1), o 4 (.mv (.t 23)), o 5 (.mv (.t 24))]) (.seq (.reg [o 25 (.mv (.t 0)), o 26 (.call 7 [(.t 25)]), o 6 (.mv (.t 26))]) (.seq (.reg [o 28 (.mv (.t 6)), o 29 (.call 8 [(.t 28)]), o 27 (.mv (.t 29)), o 30 (.ex (.t 27) 0), o 31 (.ex (.t 27) 1), o 7 (.mv (.t 30)), o 8 (.mv (.t 31))]) (.seq (.seq (.reg [o 32 (.mv (.t 7)), o 33 (.mv (.t 4)), o 34 (.call 9 [(.t 32), (.t 33)]), o 35 (.un .not (.t 34)), o 36 (.mv (.t 35)), ⟨some 37, some (36, false), .mv (.t 8)⟩, ⟨some 38, some (36, false), .mv (.t 5)⟩, ⟨some 39, some (36, false), .bib .neq (.t 37) (.t 38)⟩, o 40 (.pick (.t 36) (.c (.bool true)) (.t 39))]) (.cond (.t 40) (.seq (.reg [o 2 (.mv (.c (.bool false)))]) (.ret)) (.skip))) (.seq (.seq (.reg [o 41 (.mv (.t 6)), o 42 (.mv (.t 0)), o 43 (.call 7 [(.t 42)]), o 44 (.call 10 [(.t 41), (.t 43)]), o 45 (.un .not (.t 44))]) (.cond (.t 45) (.seq (.reg [o 2 (.mv (.c (.bool false)))]) (.ret)) (.skip))) (.seq (.reg [o 9 (.mv (.c (.int .i64 1)))]) (.seq (.reg [o 46 (.mv (.t 6)), o 47 (.mv (.t 9)), o 48 (.call 11 [(.t 46), (.t 47)]), o 9 (.mv (.t 48))]) (.seq (.seq (.reg [o 49 (.mv (.t 9)), o 50 (.bin .lss (.t 49) (.c (.int .i64 0))), o 51 (.mv (.t 50)), ⟨some 52, some (51, false), .mv (.t 7)⟩, ⟨some 53, some (51, false), .mv (.t 4)⟩, ⟨some 54, some (51, false), .call 9 [(.t 52), (.t 53)]⟩, ⟨some 55, some (51, false), .un .not (.t 54)⟩, o 56 (.pick (.t 51) (.c (.bool true)) (.t 55)), o 57 (.mv (.t 56)), ⟨some 58, some (57, false), .mv (.t 8)⟩, ⟨some 59, some (57, false), .mv (.t 5)⟩, ⟨some 60, some (57, false), .bib .neq (.t 58) (.t 59)⟩, o 61 (.pick (.t 57) (.c (.bool true)) (.t 60))]) (.cond (.t 61) (.seq (.reg [o 2 (.mv (.c (.bool false)))]) (.ret)) (.skip))) (.seq (.reg [o 10 (.mv (.c (.int .i64 1)))]) (.seq (.reg [o 62 (.mv (.t 7)), o 63 (.mv (.t 10)), o 64 (.call 12 [(.t 62), (.t 63)]), o 10 (.mv (.t 64))]) (.seq (.reg [o 11 (.mv (.c (.int .i64 1)))]) (.seq (.reg [o 65 (.mv (.t 7)), o 66 (.mv (.t 11)), o 67 (.call 13 [(.t 65), (.t 66)]), o 11 (.mv (.t 67))]) (.seq (.seq (.reg [o 68 (.mv (.t 11)), o 69 (.bin .lss (.t 68) (.c (.int .i64 0)))]) (.cond (.t 69) (.seq (.reg [o 2 (.mv (.c (.bool false)))]) (.ret)) (.skip))) (.seq (.seq (.reg [o 70 (.mv (.t 11)), o 71 (.mv (.t 10)), o 72 (.bin .neq (.t 70) (.t 71))]) (.cond (.t 72) (.seq (.reg [o 2 (.mv (.c (.bool false)))]) (.ret)) (.skip))) (.seq (.reg [o 74 (.mv (.t 0)), o 75 (.call 7 [(.t 74)]), o 76 (.call 8 [(.t 75)]), o 73 (.mv (.t 76)), o 77 (.ex (.t 73) 0), o 78 (.ex (.t 73) 1), o 12 (.mv (.t 77)), o 13 (.mv (.t 78))]) (.seq (.seq (.reg [o 79 (.mv (.t 12)), o 80 (.mv (.t 4)), o 81 (.call 9 [(.t 79), (.t 80)]), o 82 (.un .not (.t 81)), o 83 (.mv (.t 82)), ⟨some 84, some (83, false), .mv (.t 13)⟩, ⟨some 85, some (83, false), .mv (.t 5)⟩, ⟨some 86, some (83, false), .bib .neq (.t 84) (.t 85)⟩, o 87 (.pick (.t 83) (.c (.bool true)) (.t 86))]) (.cond (.t 87) (.seq (.reg [o 2 (.mv (.c (.bool false)))]) (.ret)) (.skip))) (.seq (.reg [o 11 (.mv (.c (.int .i64 1)))]) (.seq (.reg [o 88 (.mv (.t 7)), o 89 (.mv (.t 11)), o 90 (.call 13 [(.t 88), (.t 89)]), o 11 (.mv (.t 90))]) (.seq (.seq (.reg [o 91 (.mv (.t 11)), o 92 (.bin .lss (.t 91) (.c (.int .i64 0)))]) (.cond (.t 92) (.seq (.reg [o 2 (.mv (.c (.bool false)))]) (.ret)) (.skip))) (.seq (.seq (.reg [o 93 (.mv (.t 11)), o 94 (.mv (.t 10)), o 95 (.bin .neq (.t 93) (.t 94))]) (.cond (.t 95) (.seq (.reg [o 2 (.mv (.c (.bool false)))]) (.ret)) (.skip))) (.seq (.reg [o 2 (.mv (.c (.bool true)))]) (.ret)))))))))))))))))))))))))⟩
def K_laws_FnExactAssemble : Keeps := []
theorem r_laws_FnExactAssemble : resolveF Try.prog Try.f3 K_laws_FnExactAssemble = some F_laws_FnExactAssemble := by kernel_rfl
def X_laws_FnExactAssemble : Ctx := Ctx.cons 5 G_laws_szLineS (Ctx.cons 7 G_laws_toLineS (Ctx.cons 6 G_spec_Assemble (Ctx.cons 8 G_impl_Assemble (Ctx.cons 9 G_laws_eqIntS (Ctx.cons 10 G_laws_eqLineS (Ctx.cons 11 G_laws_markLineS (Ctx.cons 12 G_laws_markIntS (Ctx.cons 13 G_laws_heldIntS (fun _ => none)))))))))
theorem co_laws_FnExactAssemble : CtxOk Try.prog X_laws_FnExactAssemble := CtxOk.cons (CtxOk.cons (CtxOk.cons (CtxOk.cons (CtxOk.cons (CtxOk.cons (CtxOk.cons (CtxOk.cons (CtxOk.cons (CtxOk.nil) ok_laws_heldIntS) ok_laws_markIntS) ok_laws_markLineS) ok_laws_eqLineS) ok_laws_eqIntS) ok_impl_Assemble) ok_spec_Assemble) ok_laws_toLineS) ok_laws_szLineS
theorem cx_laws_FnExactAssemble : (CX X_laws_FnExactAssemble 5 G_laws_szLineS false) ∧ (CX X_laws_FnExactAssemble 7 G_laws_toLineS false) ∧ (CX X_laws_FnExactAssemble 6 G_spec_Assemble false) ∧ (CX X_laws_FnExactAssemble 8 G_impl_Assemble false) ∧ (CX X_laws_FnExactAssemble 9 G_laws_eqIntS false) ∧ (CX X_laws_FnExactAssemble 10 G_laws_eqLineS false) ∧ (CX X_laws_FnExactAssemble 11 G_laws_markLineS true) ∧ (CX X_laws_FnExactAssemble 12 G_laws_markIntS true) ∧ (CX X_laws_FnExactAssemble 13 G_laws_heldIntS false) := ⟨cxI rfl rfl, cxI rfl rfl, cxI rfl rfl, cxI rfl rfl, cxI rfl rfl, cxI rfl rfl, cxI rfl rfl, cxI rfl rfl, cxI rfl rfl⟩
end
end Go.Proofs.Ytldmpjoddghdkaa.AI
