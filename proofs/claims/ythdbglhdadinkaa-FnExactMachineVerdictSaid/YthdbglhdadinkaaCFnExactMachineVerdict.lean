/- The functions that the law FnExactMachineVerdict reaches, in the reckoner's words. -/
import Derived.Test.YthdbglhdadinkaaAOpen2
import Derived.Test.YthdbglhdadinkaaChecked
import Derived.ProofKit
namespace Go.Proofs.Ythdbglhdadinkaa.AI
open Go.Proofs
set_option linter.all false
set_option maxRecDepth 100000
/- 57 laws_szIntS calls []  -/
def F_laws_szIntS : RF := ⟨12, 2, [.t 4],
  .seq (.reg [⟨some 4, none, .mv (.c (.int .i64 0))⟩]) (.seq (.reg [⟨some 5, none, .mv (.t 1)⟩, ⟨some 6, none, .mv (.t 0)⟩, ⟨some 7, none, .len false (.t 6)⟩, ⟨some 8, none, .bin .sub (.t 5) (.t 7)⟩, ⟨some 1, none, .mv (.t 8)⟩]) (.seq (.seq (.reg [⟨some 9, none, .mv (.t 1)⟩, ⟨some 10, none, .bin .lss (.t 9) (.c (.int .i64 0))⟩]) (.cond (.t 10) (.seq (.reg [⟨some 4, none, .mv (.c (.int .i64 (-1)))⟩]) (.ret)) (.skip))) (.seq (.reg [⟨some 11, none, .mv (.t 1)⟩, ⟨some 4, none, .mv (.t 11)⟩]) (.ret))))⟩
def K_laws_szIntS : Keeps := []
theorem r_laws_szIntS : resolveF Try.prog Try.f57 K_laws_szIntS = some F_laws_szIntS := by kernel_rfl
noncomputable def X_laws_szIntS : Ctx := fun _ => none
theorem co_laws_szIntS : CtxOk Try.prog X_laws_szIntS := CtxOk.nil
theorem cx_laws_szIntS : True := trivial
noncomputable def S_laws_szIntS : ByV := ⟨none, false, semF X_laws_szIntS F_laws_szIntS none false⟩
noncomputable def G_laws_szIntS : CK := .byv S_laws_szIntS
theorem sg_laws_szIntS (args : List AV) : S_laws_szIntS.sem args = semF X_laws_szIntS F_laws_szIntS none false args := rfl
theorem cl_laws_szIntS (args : List AV) (hp : Hp) : callS G_laws_szIntS args hp = byvS S_laws_szIntS args hp := callS_byv rfl rfl args hp
theorem ok_laws_szIntS : InlOk Try.prog 57 (callS G_laws_szIntS) := byv_none co_laws_szIntS Try.func57 r_laws_szIntS rfl (fun _ _ h => h)
/- 56 laws_szImage calls [laws_szIntS]  -/
def F_laws_szImage : RF := ⟨18, 2, [.t 4],
  .seq (.reg [⟨some 2, none, .box (.t 0)⟩, ⟨some 4, none, .mv (.c (.int .i64 0))⟩]) (.seq (.reg [⟨some 5, none, .fa 0 (.t 2)⟩, ⟨some 6, none, .ld 1 false (.t 5)⟩, ⟨some 7, none, .mv (.t 1)⟩, ⟨some 8, none, .call 57 [(.t 6), (.t 7)]⟩, ⟨some 1, none, .mv (.t 8)⟩]) (.seq (.seq (.reg [⟨some 9, none, .mv (.t 1)⟩, ⟨some 10, none, .bin .lss (.t 9) (.c (.int .i64 0))⟩]) (.cond (.t 10) (.seq (.reg [⟨some 4, none, .mv (.c (.int .i64 (-1)))⟩]) (.ret)) (.skip))) (.seq (.reg [⟨some 11, none, .fa 1 (.t 2)⟩, ⟨some 12, none, .ld 1 false (.t 11)⟩, ⟨some 13, none, .mv (.t 1)⟩, ⟨some 14, none, .call 57 [(.t 12), (.t 13)]⟩, ⟨some 1, none, .mv (.t 14)⟩]) (.seq (.seq (.reg [⟨some 15, none, .mv (.t 1)⟩, ⟨some 16, none, .bin .lss (.t 15) (.c (.int .i64 0))⟩]) (.cond (.t 16) (.seq (.reg [⟨some 4, none, .mv (.c (.int .i64 (-1)))⟩]) (.ret)) (.skip))) (.seq (.reg [⟨some 17, none, .mv (.t 1)⟩, ⟨some 4, none, .mv (.t 17)⟩]) (.ret))))))⟩
def K_laws_szImage : Keeps := []
theorem r_laws_szImage : resolveF Try.prog Try.f56 K_laws_szImage = some F_laws_szImage := by kernel_rfl
noncomputable def X_laws_szImage : Ctx := Ctx.cons 57 G_laws_szIntS (fun _ => none)
theorem co_laws_szImage : CtxOk Try.prog X_laws_szImage := CtxOk.cons (CtxOk.nil) ok_laws_szIntS
theorem cx_laws_szImage : ((∀ args hp, callX X_laws_szImage 57 args hp = callS G_laws_szIntS args hp) ∧ (trC (X_laws_szImage 57) = false)) := ⟨fun _ _ => rfl, rfl⟩
noncomputable def S_laws_szImage : ByV := ⟨none, false, semF X_laws_szImage F_laws_szImage none false⟩
noncomputable def G_laws_szImage : CK := .byv S_laws_szImage
theorem sg_laws_szImage (args : List AV) : S_laws_szImage.sem args = semF X_laws_szImage F_laws_szImage none false args := rfl
theorem cl_laws_szImage (args : List AV) (hp : Hp) : callS G_laws_szImage args hp = byvS S_laws_szImage args hp := callS_byv rfl rfl args hp
theorem ok_laws_szImage : InlOk Try.prog 56 (callS G_laws_szImage) := byv_none co_laws_szImage Try.func56 r_laws_szImage rfl (fun _ _ h => h)
/- 24 laws_szCore calls [laws_szIntS]  -/
def F_laws_szCore : RF := ⟨12, 2, [.t 4],
  .seq (.reg [⟨some 2, none, .box (.t 0)⟩, ⟨some 4, none, .mv (.c (.int .i64 0))⟩]) (.seq (.reg [⟨some 5, none, .fa 0 (.t 2)⟩, ⟨some 6, none, .ld 1 false (.t 5)⟩, ⟨some 7, none, .mv (.t 1)⟩, ⟨some 8, none, .call 57 [(.t 6), (.t 7)]⟩, ⟨some 1, none, .mv (.t 8)⟩]) (.seq (.seq (.reg [⟨some 9, none, .mv (.t 1)⟩, ⟨some 10, none, .bin .lss (.t 9) (.c (.int .i64 0))⟩]) (.cond (.t 10) (.seq (.reg [⟨some 4, none, .mv (.c (.int .i64 (-1)))⟩]) (.ret)) (.skip))) (.seq (.reg [⟨some 11, none, .mv (.t 1)⟩, ⟨some 4, none, .mv (.t 11)⟩]) (.ret))))⟩
def K_laws_szCore : Keeps := []
theorem r_laws_szCore : resolveF Try.prog Try.f24 K_laws_szCore = some F_laws_szCore := by kernel_rfl
noncomputable def X_laws_szCore : Ctx := Ctx.cons 57 G_laws_szIntS (fun _ => none)
theorem co_laws_szCore : CtxOk Try.prog X_laws_szCore := CtxOk.cons (CtxOk.nil) ok_laws_szIntS
theorem cx_laws_szCore : ((∀ args hp, callX X_laws_szCore 57 args hp = callS G_laws_szIntS args hp) ∧ (trC (X_laws_szCore 57) = false)) := ⟨fun _ _ => rfl, rfl⟩
noncomputable def S_laws_szCore : ByV := ⟨none, false, semF X_laws_szCore F_laws_szCore none false⟩
noncomputable def G_laws_szCore : CK := .byv S_laws_szCore
theorem sg_laws_szCore (args : List AV) : S_laws_szCore.sem args = semF X_laws_szCore F_laws_szCore none false args := rfl
theorem cl_laws_szCore (args : List AV) (hp : Hp) : callS G_laws_szCore args hp = byvS S_laws_szCore args hp := callS_byv rfl rfl args hp
theorem ok_laws_szCore : InlOk Try.prog 24 (callS G_laws_szCore) := byv_none co_laws_szCore Try.func24 r_laws_szCore rfl (fun _ _ h => h)
/- 58 laws_szCoreS calls [laws_szCore]  -/
def B0_laws_szCoreS : RC :=
  .seq (.seq (.reg [⟨some 12, none, .mv (.t 5)⟩, ⟨some 13, none, .mv (.t 0)⟩, ⟨some 14, none, .len false (.t 13)⟩, ⟨some 15, none, .bin .lss (.t 12) (.t 14)⟩]) (.cond (.t 15) (.skip) (.exit 0))) (.seq (.block 1 (.seq (.reg [⟨some 18, none, .mv (.t 0)⟩, ⟨some 19, none, .mv (.t 5)⟩, ⟨some 20, none, .ia 3 (.t 18) (.t 19)⟩, ⟨some 21, none, .ld 3 true (.t 20)⟩, ⟨some 22, none, .mv (.t 1)⟩, ⟨some 23, none, .call 24 [(.t 21), (.t 22)]⟩, ⟨some 1, none, .mv (.t 23)⟩]) (.seq (.reg [⟨some 24, none, .mv (.t 1)⟩, ⟨some 25, none, .bin .lss (.t 24) (.c (.int .i64 0))⟩]) (.cond (.t 25) (.seq (.reg [⟨some 4, none, .mv (.c (.int .i64 (-1)))⟩]) (.ret)) (.skip))))) (.reg [⟨some 16, none, .mv (.t 5)⟩, ⟨some 17, none, .bin .add (.t 16) (.c (.int .i64 1))⟩, ⟨some 5, none, .mv (.t 17)⟩]))
def F_laws_szCoreS : RF := ⟨27, 2, [.t 4],
  .seq (.reg [⟨some 4, none, .mv (.c (.int .i64 0))⟩]) (.seq (.reg [⟨some 6, none, .mv (.t 1)⟩, ⟨some 7, none, .mv (.t 0)⟩, ⟨some 8, none, .len false (.t 7)⟩, ⟨some 9, none, .bin .sub (.t 6) (.t 8)⟩, ⟨some 1, none, .mv (.t 9)⟩]) (.seq (.seq (.reg [⟨some 10, none, .mv (.t 1)⟩, ⟨some 11, none, .bin .lss (.t 10) (.c (.int .i64 0))⟩]) (.cond (.t 11) (.seq (.reg [⟨some 4, none, .mv (.c (.int .i64 (-1)))⟩]) (.ret)) (.skip))) (.seq (.seq (.reg [⟨some 5, none, .mv (.c (.int .i64 0))⟩]) (.block 0 (.loop [0, 1, 5] [(1, [1]), (0, [4])] B0_laws_szCoreS))) (.seq (.reg [⟨some 26, none, .mv (.t 1)⟩, ⟨some 4, none, .mv (.t 26)⟩]) (.ret)))))⟩
def K_laws_szCoreS : Keeps := [([0, 1, 5], [(1, [1]), (0, [4])])]
theorem r_laws_szCoreS : resolveF Try.prog Try.f58 K_laws_szCoreS = some F_laws_szCoreS := by kernel_rfl
noncomputable def X_laws_szCoreS : Ctx := Ctx.cons 24 G_laws_szCore (fun _ => none)
theorem co_laws_szCoreS : CtxOk Try.prog X_laws_szCoreS := CtxOk.cons (CtxOk.nil) ok_laws_szCore
theorem cx_laws_szCoreS : ((∀ args hp, callX X_laws_szCoreS 24 args hp = callS G_laws_szCore args hp) ∧ (trC (X_laws_szCoreS 24) = false)) := ⟨fun _ _ => rfl, rfl⟩
noncomputable def S_laws_szCoreS : ByV := ⟨none, false, semF X_laws_szCoreS F_laws_szCoreS none false⟩
noncomputable def G_laws_szCoreS : CK := .byv S_laws_szCoreS
theorem sg_laws_szCoreS (args : List AV) : S_laws_szCoreS.sem args = semF X_laws_szCoreS F_laws_szCoreS none false args := rfl
theorem cl_laws_szCoreS (args : List AV) (hp : Hp) : callS G_laws_szCoreS args hp = byvS S_laws_szCoreS args hp := callS_byv rfl rfl args hp
theorem ok_laws_szCoreS : InlOk Try.prog 58 (callS G_laws_szCoreS) := byv_none co_laws_szCoreS Try.func58 r_laws_szCoreS rfl (fun _ _ h => h)
/- 131 laws_szGate calls [laws_szIntS]  -/
def F_laws_szGate : RF := ⟨18, 2, [.t 4],
  .seq (.reg [⟨some 2, none, .box (.t 0)⟩, ⟨some 4, none, .mv (.c (.int .i64 0))⟩]) (.seq (.reg [⟨some 5, none, .fa 1 (.t 2)⟩, ⟨some 6, none, .ld 1 false (.t 5)⟩, ⟨some 7, none, .mv (.t 1)⟩, ⟨some 8, none, .call 57 [(.t 6), (.t 7)]⟩, ⟨some 1, none, .mv (.t 8)⟩]) (.seq (.seq (.reg [⟨some 9, none, .mv (.t 1)⟩, ⟨some 10, none, .bin .lss (.t 9) (.c (.int .i64 0))⟩]) (.cond (.t 10) (.seq (.reg [⟨some 4, none, .mv (.c (.int .i64 (-1)))⟩]) (.ret)) (.skip))) (.seq (.reg [⟨some 11, none, .fa 2 (.t 2)⟩, ⟨some 12, none, .ld 1 false (.t 11)⟩, ⟨some 13, none, .mv (.t 1)⟩, ⟨some 14, none, .call 57 [(.t 12), (.t 13)]⟩, ⟨some 1, none, .mv (.t 14)⟩]) (.seq (.seq (.reg [⟨some 15, none, .mv (.t 1)⟩, ⟨some 16, none, .bin .lss (.t 15) (.c (.int .i64 0))⟩]) (.cond (.t 16) (.seq (.reg [⟨some 4, none, .mv (.c (.int .i64 (-1)))⟩]) (.ret)) (.skip))) (.seq (.reg [⟨some 17, none, .mv (.t 1)⟩, ⟨some 4, none, .mv (.t 17)⟩]) (.ret))))))⟩
def K_laws_szGate : Keeps := []
theorem r_laws_szGate : resolveF Try.prog Try.f131 K_laws_szGate = some F_laws_szGate := by kernel_rfl
noncomputable def X_laws_szGate : Ctx := Ctx.cons 57 G_laws_szIntS (fun _ => none)
theorem co_laws_szGate : CtxOk Try.prog X_laws_szGate := CtxOk.cons (CtxOk.nil) ok_laws_szIntS
theorem cx_laws_szGate : ((∀ args hp, callX X_laws_szGate 57 args hp = callS G_laws_szIntS args hp) ∧ (trC (X_laws_szGate 57) = false)) := ⟨fun _ _ => rfl, rfl⟩
noncomputable def S_laws_szGate : ByV := ⟨none, false, semF X_laws_szGate F_laws_szGate none false⟩
noncomputable def G_laws_szGate : CK := .byv S_laws_szGate
theorem sg_laws_szGate (args : List AV) : S_laws_szGate.sem args = semF X_laws_szGate F_laws_szGate none false args := rfl
theorem cl_laws_szGate (args : List AV) (hp : Hp) : callS G_laws_szGate args hp = byvS S_laws_szGate args hp := callS_byv rfl rfl args hp
theorem ok_laws_szGate : InlOk Try.prog 131 (callS G_laws_szGate) := byv_none co_laws_szGate Try.func131 r_laws_szGate rfl (fun _ _ h => h)
/- 73 laws_szGateS calls [laws_szGate]  -/
def B0_laws_szGateS : RC :=
  .seq (.seq (.reg [⟨some 12, none, .mv (.t 5)⟩, ⟨some 13, none, .mv (.t 0)⟩, ⟨some 14, none, .len false (.t 13)⟩, ⟨some 15, none, .bin .lss (.t 12) (.t 14)⟩]) (.cond (.t 15) (.skip) (.exit 0))) (.seq (.block 1 (.seq (.reg [⟨some 18, none, .mv (.t 0)⟩, ⟨some 19, none, .mv (.t 5)⟩, ⟨some 20, none, .ia 3 (.t 18) (.t 19)⟩, ⟨some 21, none, .ld 3 true (.t 20)⟩, ⟨some 22, none, .mv (.t 1)⟩, ⟨some 23, none, .call 131 [(.t 21), (.t 22)]⟩, ⟨some 1, none, .mv (.t 23)⟩]) (.seq (.reg [⟨some 24, none, .mv (.t 1)⟩, ⟨some 25, none, .bin .lss (.t 24) (.c (.int .i64 0))⟩]) (.cond (.t 25) (.seq (.reg [⟨some 4, none, .mv (.c (.int .i64 (-1)))⟩]) (.ret)) (.skip))))) (.reg [⟨some 16, none, .mv (.t 5)⟩, ⟨some 17, none, .bin .add (.t 16) (.c (.int .i64 1))⟩, ⟨some 5, none, .mv (.t 17)⟩]))
def F_laws_szGateS : RF := ⟨27, 2, [.t 4],
  .seq (.reg [⟨some 4, none, .mv (.c (.int .i64 0))⟩]) (.seq (.reg [⟨some 6, none, .mv (.t 1)⟩, ⟨some 7, none, .mv (.t 0)⟩, ⟨some 8, none, .len false (.t 7)⟩, ⟨some 9, none, .bin .sub (.t 6) (.t 8)⟩, ⟨some 1, none, .mv (.t 9)⟩]) (.seq (.seq (.reg [⟨some 10, none, .mv (.t 1)⟩, ⟨some 11, none, .bin .lss (.t 10) (.c (.int .i64 0))⟩]) (.cond (.t 11) (.seq (.reg [⟨some 4, none, .mv (.c (.int .i64 (-1)))⟩]) (.ret)) (.skip))) (.seq (.seq (.reg [⟨some 5, none, .mv (.c (.int .i64 0))⟩]) (.block 0 (.loop [0, 1, 5] [(1, [1]), (0, [4])] B0_laws_szGateS))) (.seq (.reg [⟨some 26, none, .mv (.t 1)⟩, ⟨some 4, none, .mv (.t 26)⟩]) (.ret)))))⟩
def K_laws_szGateS : Keeps := [([0, 1, 5], [(1, [1]), (0, [4])])]
theorem r_laws_szGateS : resolveF Try.prog Try.f73 K_laws_szGateS = some F_laws_szGateS := by kernel_rfl
noncomputable def X_laws_szGateS : Ctx := Ctx.cons 131 G_laws_szGate (fun _ => none)
theorem co_laws_szGateS : CtxOk Try.prog X_laws_szGateS := CtxOk.cons (CtxOk.nil) ok_laws_szGate
theorem cx_laws_szGateS : ((∀ args hp, callX X_laws_szGateS 131 args hp = callS G_laws_szGate args hp) ∧ (trC (X_laws_szGateS 131) = false)) := ⟨fun _ _ => rfl, rfl⟩
noncomputable def S_laws_szGateS : ByV := ⟨none, false, semF X_laws_szGateS F_laws_szGateS none false⟩
noncomputable def G_laws_szGateS : CK := .byv S_laws_szGateS
theorem sg_laws_szGateS (args : List AV) : S_laws_szGateS.sem args = semF X_laws_szGateS F_laws_szGateS none false args := rfl
theorem cl_laws_szGateS (args : List AV) (hp : Hp) : callS G_laws_szGateS args hp = byvS S_laws_szGateS args hp := callS_byv rfl rfl args hp
theorem ok_laws_szGateS : InlOk Try.prog 73 (callS G_laws_szGateS) := byv_none co_laws_szGateS Try.func73 r_laws_szGateS rfl (fun _ _ h => h)
/- 74 laws_szBoolS calls []  -/
def F_laws_szBoolS : RF := ⟨12, 2, [.t 4],
  .seq (.reg [⟨some 4, none, .mv (.c (.int .i64 0))⟩]) (.seq (.reg [⟨some 5, none, .mv (.t 1)⟩, ⟨some 6, none, .mv (.t 0)⟩, ⟨some 7, none, .len false (.t 6)⟩, ⟨some 8, none, .bin .sub (.t 5) (.t 7)⟩, ⟨some 1, none, .mv (.t 8)⟩]) (.seq (.seq (.reg [⟨some 9, none, .mv (.t 1)⟩, ⟨some 10, none, .bin .lss (.t 9) (.c (.int .i64 0))⟩]) (.cond (.t 10) (.seq (.reg [⟨some 4, none, .mv (.c (.int .i64 (-1)))⟩]) (.ret)) (.skip))) (.seq (.reg [⟨some 11, none, .mv (.t 1)⟩, ⟨some 4, none, .mv (.t 11)⟩]) (.ret))))⟩
def K_laws_szBoolS : Keeps := []
theorem r_laws_szBoolS : resolveF Try.prog Try.f74 K_laws_szBoolS = some F_laws_szBoolS := by kernel_rfl
noncomputable def X_laws_szBoolS : Ctx := fun _ => none
theorem co_laws_szBoolS : CtxOk Try.prog X_laws_szBoolS := CtxOk.nil
theorem cx_laws_szBoolS : True := trivial
noncomputable def S_laws_szBoolS : ByV := ⟨none, false, semF X_laws_szBoolS F_laws_szBoolS none false⟩
noncomputable def G_laws_szBoolS : CK := .byv S_laws_szBoolS
theorem sg_laws_szBoolS (args : List AV) : S_laws_szBoolS.sem args = semF X_laws_szBoolS F_laws_szBoolS none false args := rfl
theorem cl_laws_szBoolS (args : List AV) (hp : Hp) : callS G_laws_szBoolS args hp = byvS S_laws_szBoolS args hp := callS_byv rfl rfl args hp
theorem ok_laws_szBoolS : InlOk Try.prog 74 (callS G_laws_szBoolS) := byv_none co_laws_szBoolS Try.func74 r_laws_szBoolS rfl (fun _ _ h => h)
/- 23 laws_szKernel calls [laws_szGateS, laws_szIntS, laws_szCoreS, laws_szBoolS]  -/
def F_laws_szKernel : RF := ⟨30, 2, [.t 4],
  .seq (.reg [⟨some 2, none, .box (.t 0)⟩, ⟨some 4, none, .mv (.c (.int .i64 0))⟩]) (.seq (.reg [⟨some 5, none, .fa 0 (.t 2)⟩, ⟨some 6, none, .ld 1 false (.t 5)⟩, ⟨some 7, none, .mv (.t 1)⟩, ⟨some 8, none, .call 73 [(.t 6), (.t 7)]⟩, ⟨some 1, none, .mv (.t 8)⟩]) (.seq (.seq (.reg [⟨some 9, none, .mv (.t 1)⟩, ⟨some 10, none, .bin .lss (.t 9) (.c (.int .i64 0))⟩]) (.cond (.t 10) (.seq (.reg [⟨some 4, none, .mv (.c (.int .i64 (-1)))⟩]) (.ret)) (.skip))) (.seq (.reg [⟨some 11, none, .fa 1 (.t 2)⟩, ⟨some 12, none, .ld 1 false (.t 11)⟩, ⟨some 13, none, .mv (.t 1)⟩, ⟨some 14, none, .call 57 [(.t 12), (.t 13)]⟩, ⟨some 1, none, .mv (.t 14)⟩]) (.seq (.seq (.reg [⟨some 15, none, .mv (.t 1)⟩, ⟨some 16, none, .bin .lss (.t 15) (.c (.int .i64 0))⟩]) (.cond (.t 16) (.seq (.reg [⟨some 4, none, .mv (.c (.int .i64 (-1)))⟩]) (.ret)) (.skip))) (.seq (.reg [⟨some 17, none, .fa 2 (.t 2)⟩, ⟨some 18, none, .ld 1 false (.t 17)⟩, ⟨some 19, none, .mv (.t 1)⟩, ⟨some 20, none, .call 58 [(.t 18), (.t 19)]⟩, ⟨some 1, none, .mv (.t 20)⟩]) (.seq (.seq (.reg [⟨some 21, none, .mv (.t 1)⟩, ⟨some 22, none, .bin .lss (.t 21) (.c (.int .i64 0))⟩]) (.cond (.t 22) (.seq (.reg [⟨some 4, none, .mv (.c (.int .i64 (-1)))⟩]) (.ret)) (.skip))) (.seq (.reg [⟨some 23, none, .fa 3 (.t 2)⟩, ⟨some 24, none, .ld 1 false (.t 23)⟩, ⟨some 25, none, .mv (.t 1)⟩, ⟨some 26, none, .call 74 [(.t 24), (.t 25)]⟩, ⟨some 1, none, .mv (.t 26)⟩]) (.seq (.seq (.reg [⟨some 27, none, .mv (.t 1)⟩, ⟨some 28, none, .bin .lss (.t 27) (.c (.int .i64 0))⟩]) (.cond (.t 28) (.seq (.reg [⟨some 4, none, .mv (.c (.int .i64 (-1)))⟩]) (.ret)) (.skip))) (.seq (.reg [⟨some 29, none, .mv (.t 1)⟩, ⟨some 4, none, .mv (.t 29)⟩]) (.ret))))))))))⟩
def K_laws_szKernel : Keeps := []
theorem r_laws_szKernel : resolveF Try.prog Try.f23 K_laws_szKernel = some F_laws_szKernel := by kernel_rfl
noncomputable def X_laws_szKernel : Ctx := Ctx.cons 73 G_laws_szGateS (Ctx.cons 57 G_laws_szIntS (Ctx.cons 58 G_laws_szCoreS (Ctx.cons 74 G_laws_szBoolS (fun _ => none))))
theorem co_laws_szKernel : CtxOk Try.prog X_laws_szKernel := CtxOk.cons (CtxOk.cons (CtxOk.cons (CtxOk.cons (CtxOk.nil) ok_laws_szBoolS) ok_laws_szCoreS) ok_laws_szIntS) ok_laws_szGateS
theorem cx_laws_szKernel : ((∀ args hp, callX X_laws_szKernel 73 args hp = callS G_laws_szGateS args hp) ∧ (trC (X_laws_szKernel 73) = false)) ∧ ((∀ args hp, callX X_laws_szKernel 57 args hp = callS G_laws_szIntS args hp) ∧ (trC (X_laws_szKernel 57) = false)) ∧ ((∀ args hp, callX X_laws_szKernel 58 args hp = callS G_laws_szCoreS args hp) ∧ (trC (X_laws_szKernel 58) = false)) ∧ ((∀ args hp, callX X_laws_szKernel 74 args hp = callS G_laws_szBoolS args hp) ∧ (trC (X_laws_szKernel 74) = false)) := ⟨⟨fun _ _ => rfl, rfl⟩, ⟨fun _ _ => rfl, rfl⟩, ⟨fun _ _ => rfl, rfl⟩, ⟨fun _ _ => rfl, rfl⟩⟩
noncomputable def S_laws_szKernel : ByV := ⟨none, false, semF X_laws_szKernel F_laws_szKernel none false⟩
noncomputable def G_laws_szKernel : CK := .byv S_laws_szKernel
theorem sg_laws_szKernel (args : List AV) : S_laws_szKernel.sem args = semF X_laws_szKernel F_laws_szKernel none false args := rfl
theorem cl_laws_szKernel (args : List AV) (hp : Hp) : callS G_laws_szKernel args hp = byvS S_laws_szKernel args hp := callS_byv rfl rfl args hp
theorem ok_laws_szKernel : InlOk Try.prog 23 (callS G_laws_szKernel) := byv_none co_laws_szKernel Try.func23 r_laws_szKernel rfl (fun _ _ h => h)
/- 59 laws_szEventS calls []  -/
def F_laws_szEventS : RF := ⟨12, 2, [.t 4],
  .seq (.reg [⟨some 4, none, .mv (.c (.int .i64 0))⟩]) (.seq (.reg [⟨some 5, none, .mv (.t 1)⟩, ⟨some 6, none, .mv (.t 0)⟩, ⟨some 7, none, .len false (.t 6)⟩, ⟨some 8, none, .bin .sub (.t 5) (.t 7)⟩, ⟨some 1, none, .mv (.t 8)⟩]) (.seq (.seq (.reg [⟨some 9, none, .mv (.t 1)⟩, ⟨some 10, none, .bin .lss (.t 9) (.c (.int .i64 0))⟩]) (.cond (.t 10) (.seq (.reg [⟨some 4, none, .mv (.c (.int .i64 (-1)))⟩]) (.ret)) (.skip))) (.seq (.reg [⟨some 11, none, .mv (.t 1)⟩, ⟨some 4, none, .mv (.t 11)⟩]) (.ret))))⟩
def K_laws_szEventS : Keeps := []
theorem r_laws_szEventS : resolveF Try.prog Try.f59 K_laws_szEventS = some F_laws_szEventS := by kernel_rfl
noncomputable def X_laws_szEventS : Ctx := fun _ => none
theorem co_laws_szEventS : CtxOk Try.prog X_laws_szEventS := CtxOk.nil
theorem cx_laws_szEventS : True := trivial
noncomputable def S_laws_szEventS : ByV := ⟨none, false, semF X_laws_szEventS F_laws_szEventS none false⟩
noncomputable def G_laws_szEventS : CK := .byv S_laws_szEventS
theorem sg_laws_szEventS (args : List AV) : S_laws_szEventS.sem args = semF X_laws_szEventS F_laws_szEventS none false args := rfl
theorem cl_laws_szEventS (args : List AV) (hp : Hp) : callS G_laws_szEventS args hp = byvS S_laws_szEventS args hp := callS_byv rfl rfl args hp
theorem ok_laws_szEventS : InlOk Try.prog 59 (callS G_laws_szEventS) := byv_none co_laws_szEventS Try.func59 r_laws_szEventS rfl (fun _ _ h => h)
/- 13 laws_szMachine calls [laws_szImage, laws_szIntS, laws_szCoreS, laws_szKernel, laws_szEventS]  -/
def F_laws_szMachine : RF := ⟨42, 2, [.t 4],
  .seq (.reg [⟨some 2, none, .box (.t 0)⟩, ⟨some 4, none, .mv (.c (.int .i64 0))⟩]) (.seq (.reg [⟨some 5, none, .fa 0 (.t 2)⟩, ⟨some 6, none, .ld 3 true (.t 5)⟩, ⟨some 7, none, .mv (.t 1)⟩, ⟨some 8, none, .call 56 [(.t 6), (.t 7)]⟩, ⟨some 1, none, .mv (.t 8)⟩]) (.seq (.seq (.reg [⟨some 9, none, .mv (.t 1)⟩, ⟨some 10, none, .bin .lss (.t 9) (.c (.int .i64 0))⟩]) (.cond (.t 10) (.seq (.reg [⟨some 4, none, .mv (.c (.int .i64 (-1)))⟩]) (.ret)) (.skip))) (.seq (.reg [⟨some 11, none, .fa 3 (.t 2)⟩, ⟨some 12, none, .ld 1 false (.t 11)⟩, ⟨some 13, none, .mv (.t 1)⟩, ⟨some 14, none, .call 57 [(.t 12), (.t 13)]⟩, ⟨some 1, none, .mv (.t 14)⟩]) (.seq (.seq (.reg [⟨some 15, none, .mv (.t 1)⟩, ⟨some 16, none, .bin .lss (.t 15) (.c (.int .i64 0))⟩]) (.cond (.t 16) (.seq (.reg [⟨some 4, none, .mv (.c (.int .i64 (-1)))⟩]) (.ret)) (.skip))) (.seq (.reg [⟨some 17, none, .fa 4 (.t 2)⟩, ⟨some 18, none, .ld 1 false (.t 17)⟩, ⟨some 19, none, .mv (.t 1)⟩, ⟨some 20, none, .call 58 [(.t 18), (.t 19)]⟩, ⟨some 1, none, .mv (.t 20)⟩]) (.seq (.seq (.reg [⟨some 21, none, .mv (.t 1)⟩, ⟨some 22, none, .bin .lss (.t 21) (.c (.int .i64 0))⟩]) (.cond (.t 22) (.seq (.reg [⟨some 4, none, .mv (.c (.int .i64 (-1)))⟩]) (.ret)) (.skip))) (.seq (.reg [⟨some 23, none, .fa 5 (.t 2)⟩, ⟨some 24, none, .ld 4 true (.t 23)⟩, ⟨some 25, none, .mv (.t 1)⟩, ⟨some 26, none, .call 23 [(.t 24), (.t 25)]⟩, ⟨some 1, none, .mv (.t 26)⟩]) (.seq (.seq (.reg [⟨some 27, none, .mv (.t 1)⟩, ⟨some 28, none, .bin .lss (.t 27) (.c (.int .i64 0))⟩]) (.cond (.t 28) (.seq (.reg [⟨some 4, none, .mv (.c (.int .i64 (-1)))⟩]) (.ret)) (.skip))) (.seq (.reg [⟨some 29, none, .fa 9 (.t 2)⟩, ⟨some 30, none, .ld 1 false (.t 29)⟩, ⟨some 31, none, .mv (.t 1)⟩, ⟨some 32, none, .call 57 [(.t 30), (.t 31)]⟩, ⟨some 1, none, .mv (.t 32)⟩]) (.seq (.seq (.reg [⟨some 33, none, .mv (.t 1)⟩, ⟨some 34, none, .bin .lss (.t 33) (.c (.int .i64 0))⟩]) (.cond (.t 34) (.seq (.reg [⟨some 4, none, .mv (.c (.int .i64 (-1)))⟩]) (.ret)) (.skip))) (.seq (.reg [⟨some 35, none, .fa 10 (.t 2)⟩, ⟨some 36, none, .ld 1 false (.t 35)⟩, ⟨some 37, none, .mv (.t 1)⟩, ⟨some 38, none, .call 59 [(.t 36), (.t 37)]⟩, ⟨some 1, none, .mv (.t 38)⟩]) (.seq (.seq (.reg [⟨some 39, none, .mv (.t 1)⟩, ⟨some 40, none, .bin .lss (.t 39) (.c (.int .i64 0))⟩]) (.cond (.t 40) (.seq (.reg [⟨some 4, none, .mv (.c (.int .i64 (-1)))⟩]) (.ret)) (.skip))) (.seq (.reg [⟨some 41, none, .mv (.t 1)⟩, ⟨some 4, none, .mv (.t 41)⟩]) (.ret))))))))))))))⟩
def K_laws_szMachine : Keeps := []
theorem r_laws_szMachine : resolveF Try.prog Try.f13 K_laws_szMachine = some F_laws_szMachine := by kernel_rfl
noncomputable def X_laws_szMachine : Ctx := Ctx.cons 56 G_laws_szImage (Ctx.cons 57 G_laws_szIntS (Ctx.cons 58 G_laws_szCoreS (Ctx.cons 23 G_laws_szKernel (Ctx.cons 59 G_laws_szEventS (fun _ => none)))))
theorem co_laws_szMachine : CtxOk Try.prog X_laws_szMachine := CtxOk.cons (CtxOk.cons (CtxOk.cons (CtxOk.cons (CtxOk.cons (CtxOk.nil) ok_laws_szEventS) ok_laws_szKernel) ok_laws_szCoreS) ok_laws_szIntS) ok_laws_szImage
theorem cx_laws_szMachine : ((∀ args hp, callX X_laws_szMachine 56 args hp = callS G_laws_szImage args hp) ∧ (trC (X_laws_szMachine 56) = false)) ∧ ((∀ args hp, callX X_laws_szMachine 57 args hp = callS G_laws_szIntS args hp) ∧ (trC (X_laws_szMachine 57) = false)) ∧ ((∀ args hp, callX X_laws_szMachine 58 args hp = callS G_laws_szCoreS args hp) ∧ (trC (X_laws_szMachine 58) = false)) ∧ ((∀ args hp, callX X_laws_szMachine 23 args hp = callS G_laws_szKernel args hp) ∧ (trC (X_laws_szMachine 23) = false)) ∧ ((∀ args hp, callX X_laws_szMachine 59 args hp = callS G_laws_szEventS args hp) ∧ (trC (X_laws_szMachine 59) = false)) := ⟨⟨fun _ _ => rfl, rfl⟩, ⟨fun _ _ => rfl, rfl⟩, ⟨fun _ _ => rfl, rfl⟩, ⟨fun _ _ => rfl, rfl⟩, ⟨fun _ _ => rfl, rfl⟩⟩
noncomputable def S_laws_szMachine : ByV := ⟨none, false, semF X_laws_szMachine F_laws_szMachine none false⟩
noncomputable def G_laws_szMachine : CK := .byv S_laws_szMachine
theorem sg_laws_szMachine (args : List AV) : S_laws_szMachine.sem args = semF X_laws_szMachine F_laws_szMachine none false args := rfl
theorem cl_laws_szMachine (args : List AV) (hp : Hp) : callS G_laws_szMachine args hp = byvS S_laws_szMachine args hp := callS_byv rfl rfl args hp
theorem ok_laws_szMachine : InlOk Try.prog 13 (callS G_laws_szMachine) := byv_none co_laws_szMachine Try.func13 r_laws_szMachine rfl (fun _ _ h => h)
/- 35 laws_toIntS calls []  -/
def B0_laws_toIntS : RC :=
  .seq (.seq (.reg [⟨some 8, none, .mv (.t 4)⟩, ⟨some 9, none, .mv (.t 0)⟩, ⟨some 10, none, .len false (.t 9)⟩, ⟨some 11, none, .bin .lss (.t 8) (.t 10)⟩]) (.cond (.t 11) (.skip) (.exit 0))) (.seq (.block 1 (.reg [⟨some 14, none, .mv (.t 3)⟩, ⟨some 15, none, .mv (.t 4)⟩, ⟨some 16, none, .mv (.t 0)⟩, ⟨some 17, none, .mv (.t 4)⟩, ⟨some 18, none, .ia 1 (.t 16) (.t 17)⟩, ⟨some 19, none, .ld 1 false (.t 18)⟩, ⟨some 20, none, .ia 1 (.t 14) (.t 15)⟩, ⟨none, none, .st 1 (.t 20) (.t 19)⟩])) (.reg [⟨some 12, none, .mv (.t 4)⟩, ⟨some 13, none, .bin .add (.t 12) (.c (.int .i64 1))⟩, ⟨some 4, none, .mv (.t 13)⟩]))
def F_laws_toIntS : RF := ⟨22, 1, [.t 2],
  .seq (.reg [⟨some 2, none, .mv (.c (.nil 1))⟩]) (.seq (.reg [⟨some 5, none, .mv (.t 0)⟩, ⟨some 6, none, .len false (.t 5)⟩, ⟨some 7, none, .mk 1 [(.int .i64 0)] 8 (.t 6) (.t 6)⟩, ⟨some 3, none, .mv (.t 7)⟩]) (.seq (.seq (.reg [⟨some 4, none, .mv (.c (.int .i64 0))⟩]) (.block 0 (.loop [0, 3, 4] [(1, [3])] B0_laws_toIntS))) (.seq (.reg [⟨some 21, none, .mv (.t 3)⟩, ⟨some 2, none, .mv (.t 21)⟩]) (.ret))))⟩
def K_laws_toIntS : Keeps := [([0, 3, 4], [(1, [3])])]
theorem r_laws_toIntS : resolveF Try.prog Try.f35 K_laws_toIntS = some F_laws_toIntS := by kernel_rfl
noncomputable def X_laws_toIntS : Ctx := fun _ => none
theorem co_laws_toIntS : CtxOk Try.prog X_laws_toIntS := CtxOk.nil
theorem cx_laws_toIntS : True := trivial
noncomputable def S_laws_toIntS : ByV := ⟨none, false, semF X_laws_toIntS F_laws_toIntS none false⟩
noncomputable def G_laws_toIntS : CK := .byv S_laws_toIntS
theorem sg_laws_toIntS (args : List AV) : S_laws_toIntS.sem args = semF X_laws_toIntS F_laws_toIntS none false args := rfl
theorem cl_laws_toIntS (args : List AV) (hp : Hp) : callS G_laws_toIntS args hp = byvS S_laws_toIntS args hp := callS_byv rfl rfl args hp
theorem ok_laws_toIntS : InlOk Try.prog 35 (callS G_laws_toIntS) := byv_none co_laws_toIntS Try.func35 r_laws_toIntS rfl (fun _ _ h => h)
/- 60 laws_toImage calls [laws_toIntS]  -/
def F_laws_toImage : RF := ⟨16, 1, [.cell 2 3 true],
  .seq (.reg [⟨some 1, none, .box (.t 0)⟩, ⟨some 2, none, .new [(.nil 1), (.nil 1), (.int .i64 0)]⟩]) (.seq (.reg [⟨some 3, none, .new [(.nil 1), (.nil 1), (.int .i64 0)]⟩]) (.seq (.reg [⟨some 4, none, .fa 0 (.t 1)⟩, ⟨some 5, none, .ld 1 false (.t 4)⟩, ⟨some 6, none, .call 35 [(.t 5)]⟩, ⟨some 7, none, .fa 0 (.t 3)⟩, ⟨none, none, .st 1 (.t 7) (.t 6)⟩]) (.seq (.reg [⟨some 8, none, .fa 1 (.t 1)⟩, ⟨some 9, none, .ld 1 false (.t 8)⟩, ⟨some 10, none, .call 35 [(.t 9)]⟩, ⟨some 11, none, .fa 1 (.t 3)⟩, ⟨none, none, .st 1 (.t 11) (.t 10)⟩]) (.seq (.reg [⟨some 12, none, .fa 2 (.t 1)⟩, ⟨some 13, none, .ld 1 false (.t 12)⟩, ⟨some 14, none, .fa 2 (.t 3)⟩, ⟨none, none, .st 1 (.t 14) (.t 13)⟩]) (.seq (.reg [⟨some 15, none, .ld 3 true (.t 3)⟩, ⟨none, none, .st 3 (.t 2) (.t 15)⟩]) (.ret))))))⟩
def K_laws_toImage : Keeps := []
theorem r_laws_toImage : resolveF Try.prog Try.f60 K_laws_toImage = some F_laws_toImage := by kernel_rfl
noncomputable def X_laws_toImage : Ctx := Ctx.cons 35 G_laws_toIntS (fun _ => none)
theorem co_laws_toImage : CtxOk Try.prog X_laws_toImage := CtxOk.cons (CtxOk.nil) ok_laws_toIntS
theorem cx_laws_toImage : ((∀ args hp, callX X_laws_toImage 35 args hp = callS G_laws_toIntS args hp) ∧ (trC (X_laws_toImage 35) = false)) := ⟨fun _ _ => rfl, rfl⟩
noncomputable def S_laws_toImage : ByV := ⟨none, false, semF X_laws_toImage F_laws_toImage none false⟩
noncomputable def G_laws_toImage : CK := .byv S_laws_toImage
theorem sg_laws_toImage (args : List AV) : S_laws_toImage.sem args = semF X_laws_toImage F_laws_toImage none false args := rfl
theorem cl_laws_toImage (args : List AV) (hp : Hp) : callS G_laws_toImage args hp = byvS S_laws_toImage args hp := callS_byv rfl rfl args hp
theorem ok_laws_toImage : InlOk Try.prog 60 (callS G_laws_toImage) := byv_none co_laws_toImage Try.func60 r_laws_toImage rfl (fun _ _ h => h)
/- 27 laws_toCore calls [laws_toIntS]  -/
def F_laws_toCore : RF := ⟨15, 1, [.cell 2 3 true],
  .seq (.reg [⟨some 1, none, .box (.t 0)⟩, ⟨some 2, none, .new [(.nil 1), (.int .i64 0), (.int .i64 0)]⟩]) (.seq (.reg [⟨some 3, none, .new [(.nil 1), (.int .i64 0), (.int .i64 0)]⟩]) (.seq (.reg [⟨some 4, none, .fa 0 (.t 1)⟩, ⟨some 5, none, .ld 1 false (.t 4)⟩, ⟨some 6, none, .call 35 [(.t 5)]⟩, ⟨some 7, none, .fa 0 (.t 3)⟩, ⟨none, none, .st 1 (.t 7) (.t 6)⟩]) (.seq (.reg [⟨some 8, none, .fa 1 (.t 1)⟩, ⟨some 9, none, .ld 1 false (.t 8)⟩, ⟨some 10, none, .fa 1 (.t 3)⟩, ⟨none, none, .st 1 (.t 10) (.t 9)⟩]) (.seq (.reg [⟨some 11, none, .fa 2 (.t 1)⟩, ⟨some 12, none, .ld 1 false (.t 11)⟩, ⟨some 13, none, .fa 2 (.t 3)⟩, ⟨none, none, .st 1 (.t 13) (.t 12)⟩]) (.seq (.reg [⟨some 14, none, .ld 3 true (.t 3)⟩, ⟨none, none, .st 3 (.t 2) (.t 14)⟩]) (.ret))))))⟩
def K_laws_toCore : Keeps := []
theorem r_laws_toCore : resolveF Try.prog Try.f27 K_laws_toCore = some F_laws_toCore := by kernel_rfl
noncomputable def X_laws_toCore : Ctx := Ctx.cons 35 G_laws_toIntS (fun _ => none)
theorem co_laws_toCore : CtxOk Try.prog X_laws_toCore := CtxOk.cons (CtxOk.nil) ok_laws_toIntS
theorem cx_laws_toCore : ((∀ args hp, callX X_laws_toCore 35 args hp = callS G_laws_toIntS args hp) ∧ (trC (X_laws_toCore 35) = false)) := ⟨fun _ _ => rfl, rfl⟩
noncomputable def S_laws_toCore : ByV := ⟨none, false, semF X_laws_toCore F_laws_toCore none false⟩
noncomputable def G_laws_toCore : CK := .byv S_laws_toCore
theorem sg_laws_toCore (args : List AV) : S_laws_toCore.sem args = semF X_laws_toCore F_laws_toCore none false args := rfl
theorem cl_laws_toCore (args : List AV) (hp : Hp) : callS G_laws_toCore args hp = byvS S_laws_toCore args hp := callS_byv rfl rfl args hp
theorem ok_laws_toCore : InlOk Try.prog 27 (callS G_laws_toCore) := byv_none co_laws_toCore Try.func27 r_laws_toCore rfl (fun _ _ h => h)
/- 61 laws_toCoreS calls [laws_toCore]  -/
def B0_laws_toCoreS : RC :=
  .seq (.seq (.reg [⟨some 8, none, .mv (.t 4)⟩, ⟨some 9, none, .mv (.t 0)⟩, ⟨some 10, none, .len false (.t 9)⟩, ⟨some 11, none, .bin .lss (.t 8) (.t 10)⟩]) (.cond (.t 11) (.skip) (.exit 0))) (.seq (.block 1 (.reg [⟨some 14, none, .mv (.t 3)⟩, ⟨some 15, none, .mv (.t 4)⟩, ⟨some 16, none, .mv (.t 0)⟩, ⟨some 17, none, .mv (.t 4)⟩, ⟨some 18, none, .ia 3 (.t 16) (.t 17)⟩, ⟨some 19, none, .ld 3 true (.t 18)⟩, ⟨some 20, none, .call 27 [(.t 19)]⟩, ⟨some 21, none, .ia 3 (.t 14) (.t 15)⟩, ⟨none, none, .st 3 (.t 21) (.t 20)⟩])) (.reg [⟨some 12, none, .mv (.t 4)⟩, ⟨some 13, none, .bin .add (.t 12) (.c (.int .i64 1))⟩, ⟨some 4, none, .mv (.t 13)⟩]))
def F_laws_toCoreS : RF := ⟨23, 1, [.t 2],
  .seq (.reg [⟨some 2, none, .mv (.c (.nil 3))⟩]) (.seq (.reg [⟨some 5, none, .mv (.t 0)⟩, ⟨some 6, none, .len false (.t 5)⟩, ⟨some 7, none, .mk 3 [(.tree 1 []), (.int .i64 0), (.int .i64 0)] 40 (.t 6) (.t 6)⟩, ⟨some 3, none, .mv (.t 7)⟩]) (.seq (.seq (.reg [⟨some 4, none, .mv (.c (.int .i64 0))⟩]) (.block 0 (.loop [0, 3, 4] [(1, [3])] B0_laws_toCoreS))) (.seq (.reg [⟨some 22, none, .mv (.t 3)⟩, ⟨some 2, none, .mv (.t 22)⟩]) (.ret))))⟩
def K_laws_toCoreS : Keeps := [([0, 3, 4], [(1, [3])])]
theorem r_laws_toCoreS : resolveF Try.prog Try.f61 K_laws_toCoreS = some F_laws_toCoreS := by kernel_rfl
noncomputable def X_laws_toCoreS : Ctx := Ctx.cons 27 G_laws_toCore (fun _ => none)
theorem co_laws_toCoreS : CtxOk Try.prog X_laws_toCoreS := CtxOk.cons (CtxOk.nil) ok_laws_toCore
theorem cx_laws_toCoreS : ((∀ args hp, callX X_laws_toCoreS 27 args hp = callS G_laws_toCore args hp) ∧ (trC (X_laws_toCoreS 27) = false)) := ⟨fun _ _ => rfl, rfl⟩
noncomputable def S_laws_toCoreS : ByV := ⟨none, false, semF X_laws_toCoreS F_laws_toCoreS none false⟩
noncomputable def G_laws_toCoreS : CK := .byv S_laws_toCoreS
theorem sg_laws_toCoreS (args : List AV) : S_laws_toCoreS.sem args = semF X_laws_toCoreS F_laws_toCoreS none false args := rfl
theorem cl_laws_toCoreS (args : List AV) (hp : Hp) : callS G_laws_toCoreS args hp = byvS S_laws_toCoreS args hp := callS_byv rfl rfl args hp
theorem ok_laws_toCoreS : InlOk Try.prog 61 (callS G_laws_toCoreS) := byv_none co_laws_toCoreS Try.func61 r_laws_toCoreS rfl (fun _ _ h => h)
/- 133 laws_toGate calls [laws_toIntS]  -/
def F_laws_toGate : RF := ⟨16, 1, [.cell 2 3 true],
  .seq (.reg [⟨some 1, none, .box (.t 0)⟩, ⟨some 2, none, .new [(.int .i64 0), (.nil 1), (.nil 1)]⟩]) (.seq (.reg [⟨some 3, none, .new [(.int .i64 0), (.nil 1), (.nil 1)]⟩]) (.seq (.reg [⟨some 4, none, .fa 0 (.t 1)⟩, ⟨some 5, none, .ld 1 false (.t 4)⟩, ⟨some 6, none, .fa 0 (.t 3)⟩, ⟨none, none, .st 1 (.t 6) (.t 5)⟩]) (.seq (.reg [⟨some 7, none, .fa 1 (.t 1)⟩, ⟨some 8, none, .ld 1 false (.t 7)⟩, ⟨some 9, none, .call 35 [(.t 8)]⟩, ⟨some 10, none, .fa 1 (.t 3)⟩, ⟨none, none, .st 1 (.t 10) (.t 9)⟩]) (.seq (.reg [⟨some 11, none, .fa 2 (.t 1)⟩, ⟨some 12, none, .ld 1 false (.t 11)⟩, ⟨some 13, none, .call 35 [(.t 12)]⟩, ⟨some 14, none, .fa 2 (.t 3)⟩, ⟨none, none, .st 1 (.t 14) (.t 13)⟩]) (.seq (.reg [⟨some 15, none, .ld 3 true (.t 3)⟩, ⟨none, none, .st 3 (.t 2) (.t 15)⟩]) (.ret))))))⟩
def K_laws_toGate : Keeps := []
theorem r_laws_toGate : resolveF Try.prog Try.f133 K_laws_toGate = some F_laws_toGate := by kernel_rfl
noncomputable def X_laws_toGate : Ctx := Ctx.cons 35 G_laws_toIntS (fun _ => none)
theorem co_laws_toGate : CtxOk Try.prog X_laws_toGate := CtxOk.cons (CtxOk.nil) ok_laws_toIntS
theorem cx_laws_toGate : ((∀ args hp, callX X_laws_toGate 35 args hp = callS G_laws_toIntS args hp) ∧ (trC (X_laws_toGate 35) = false)) := ⟨fun _ _ => rfl, rfl⟩
noncomputable def S_laws_toGate : ByV := ⟨none, false, semF X_laws_toGate F_laws_toGate none false⟩
noncomputable def G_laws_toGate : CK := .byv S_laws_toGate
theorem sg_laws_toGate (args : List AV) : S_laws_toGate.sem args = semF X_laws_toGate F_laws_toGate none false args := rfl
theorem cl_laws_toGate (args : List AV) (hp : Hp) : callS G_laws_toGate args hp = byvS S_laws_toGate args hp := callS_byv rfl rfl args hp
theorem ok_laws_toGate : InlOk Try.prog 133 (callS G_laws_toGate) := byv_none co_laws_toGate Try.func133 r_laws_toGate rfl (fun _ _ h => h)
/- 77 laws_toGateS calls [laws_toGate]  -/
def B0_laws_toGateS : RC :=
  .seq (.seq (.reg [⟨some 8, none, .mv (.t 4)⟩, ⟨some 9, none, .mv (.t 0)⟩, ⟨some 10, none, .len false (.t 9)⟩, ⟨some 11, none, .bin .lss (.t 8) (.t 10)⟩]) (.cond (.t 11) (.skip) (.exit 0))) (.seq (.block 1 (.reg [⟨some 14, none, .mv (.t 3)⟩, ⟨some 15, none, .mv (.t 4)⟩, ⟨some 16, none, .mv (.t 0)⟩, ⟨some 17, none, .mv (.t 4)⟩, ⟨some 18, none, .ia 3 (.t 16) (.t 17)⟩, ⟨some 19, none, .ld 3 true (.t 18)⟩, ⟨some 20, none, .call 133 [(.t 19)]⟩, ⟨some 21, none, .ia 3 (.t 14) (.t 15)⟩, ⟨none, none, .st 3 (.t 21) (.t 20)⟩])) (.reg [⟨some 12, none, .mv (.t 4)⟩, ⟨some 13, none, .bin .add (.t 12) (.c (.int .i64 1))⟩, ⟨some 4, none, .mv (.t 13)⟩]))
def F_laws_toGateS : RF := ⟨23, 1, [.t 2],
  .seq (.reg [⟨some 2, none, .mv (.c (.nil 3))⟩]) (.seq (.reg [⟨some 5, none, .mv (.t 0)⟩, ⟨some 6, none, .len false (.t 5)⟩, ⟨some 7, none, .mk 3 [(.int .i64 0), (.tree 1 []), (.tree 1 [])] 56 (.t 6) (.t 6)⟩, ⟨some 3, none, .mv (.t 7)⟩]) (.seq (.seq (.reg [⟨some 4, none, .mv (.c (.int .i64 0))⟩]) (.block 0 (.loop [0, 3, 4] [(1, [3])] B0_laws_toGateS))) (.seq (.reg [⟨some 22, none, .mv (.t 3)⟩, ⟨some 2, none, .mv (.t 22)⟩]) (.ret))))⟩
def K_laws_toGateS : Keeps := [([0, 3, 4], [(1, [3])])]
theorem r_laws_toGateS : resolveF Try.prog Try.f77 K_laws_toGateS = some F_laws_toGateS := by kernel_rfl
noncomputable def X_laws_toGateS : Ctx := Ctx.cons 133 G_laws_toGate (fun _ => none)
theorem co_laws_toGateS : CtxOk Try.prog X_laws_toGateS := CtxOk.cons (CtxOk.nil) ok_laws_toGate
theorem cx_laws_toGateS : ((∀ args hp, callX X_laws_toGateS 133 args hp = callS G_laws_toGate args hp) ∧ (trC (X_laws_toGateS 133) = false)) := ⟨fun _ _ => rfl, rfl⟩
noncomputable def S_laws_toGateS : ByV := ⟨none, false, semF X_laws_toGateS F_laws_toGateS none false⟩
noncomputable def G_laws_toGateS : CK := .byv S_laws_toGateS
theorem sg_laws_toGateS (args : List AV) : S_laws_toGateS.sem args = semF X_laws_toGateS F_laws_toGateS none false args := rfl
theorem cl_laws_toGateS (args : List AV) (hp : Hp) : callS G_laws_toGateS args hp = byvS S_laws_toGateS args hp := callS_byv rfl rfl args hp
theorem ok_laws_toGateS : InlOk Try.prog 77 (callS G_laws_toGateS) := byv_none co_laws_toGateS Try.func77 r_laws_toGateS rfl (fun _ _ h => h)
/- 78 laws_toBoolS calls []  -/
def B0_laws_toBoolS : RC :=
  .seq (.seq (.reg [⟨some 8, none, .mv (.t 4)⟩, ⟨some 9, none, .mv (.t 0)⟩, ⟨some 10, none, .len false (.t 9)⟩, ⟨some 11, none, .bin .lss (.t 8) (.t 10)⟩]) (.cond (.t 11) (.skip) (.exit 0))) (.seq (.block 1 (.reg [⟨some 14, none, .mv (.t 3)⟩, ⟨some 15, none, .mv (.t 4)⟩, ⟨some 16, none, .mv (.t 0)⟩, ⟨some 17, none, .mv (.t 4)⟩, ⟨some 18, none, .ia 1 (.t 16) (.t 17)⟩, ⟨some 19, none, .ld 1 false (.t 18)⟩, ⟨some 20, none, .ia 1 (.t 14) (.t 15)⟩, ⟨none, none, .st 1 (.t 20) (.t 19)⟩])) (.reg [⟨some 12, none, .mv (.t 4)⟩, ⟨some 13, none, .bin .add (.t 12) (.c (.int .i64 1))⟩, ⟨some 4, none, .mv (.t 13)⟩]))
def F_laws_toBoolS : RF := ⟨22, 1, [.t 2],
  .seq (.reg [⟨some 2, none, .mv (.c (.nil 1))⟩]) (.seq (.reg [⟨some 5, none, .mv (.t 0)⟩, ⟨some 6, none, .len false (.t 5)⟩, ⟨some 7, none, .mk 1 [(.bool false)] 1 (.t 6) (.t 6)⟩, ⟨some 3, none, .mv (.t 7)⟩]) (.seq (.seq (.reg [⟨some 4, none, .mv (.c (.int .i64 0))⟩]) (.block 0 (.loop [0, 3, 4] [(1, [3])] B0_laws_toBoolS))) (.seq (.reg [⟨some 21, none, .mv (.t 3)⟩, ⟨some 2, none, .mv (.t 21)⟩]) (.ret))))⟩
def K_laws_toBoolS : Keeps := [([0, 3, 4], [(1, [3])])]
theorem r_laws_toBoolS : resolveF Try.prog Try.f78 K_laws_toBoolS = some F_laws_toBoolS := by kernel_rfl
noncomputable def X_laws_toBoolS : Ctx := fun _ => none
theorem co_laws_toBoolS : CtxOk Try.prog X_laws_toBoolS := CtxOk.nil
theorem cx_laws_toBoolS : True := trivial
noncomputable def S_laws_toBoolS : ByV := ⟨none, false, semF X_laws_toBoolS F_laws_toBoolS none false⟩
noncomputable def G_laws_toBoolS : CK := .byv S_laws_toBoolS
theorem sg_laws_toBoolS (args : List AV) : S_laws_toBoolS.sem args = semF X_laws_toBoolS F_laws_toBoolS none false args := rfl
theorem cl_laws_toBoolS (args : List AV) (hp : Hp) : callS G_laws_toBoolS args hp = byvS S_laws_toBoolS args hp := callS_byv rfl rfl args hp
theorem ok_laws_toBoolS : InlOk Try.prog 78 (callS G_laws_toBoolS) := byv_none co_laws_toBoolS Try.func78 r_laws_toBoolS rfl (fun _ _ h => h)
/- 26 laws_toKernel calls [laws_toGateS, laws_toIntS, laws_toCoreS, laws_toBoolS]  -/
def F_laws_toKernel : RF := ⟨21, 1, [.cell 2 4 true],
  .seq (.reg [⟨some 1, none, .box (.t 0)⟩, ⟨some 2, none, .new [(.nil 3), (.nil 1), (.nil 3), (.nil 1)]⟩]) (.seq (.reg [⟨some 3, none, .new [(.nil 3), (.nil 1), (.nil 3), (.nil 1)]⟩]) (.seq (.reg [⟨some 4, none, .fa 0 (.t 1)⟩, ⟨some 5, none, .ld 1 false (.t 4)⟩, ⟨some 6, none, .call 77 [(.t 5)]⟩, ⟨some 7, none, .fa 0 (.t 3)⟩, ⟨none, none, .st 1 (.t 7) (.t 6)⟩]) (.seq (.reg [⟨some 8, none, .fa 1 (.t 1)⟩, ⟨some 9, none, .ld 1 false (.t 8)⟩, ⟨some 10, none, .call 35 [(.t 9)]⟩, ⟨some 11, none, .fa 1 (.t 3)⟩, ⟨none, none, .st 1 (.t 11) (.t 10)⟩]) (.seq (.reg [⟨some 12, none, .fa 2 (.t 1)⟩, ⟨some 13, none, .ld 1 false (.t 12)⟩, ⟨some 14, none, .call 61 [(.t 13)]⟩, ⟨some 15, none, .fa 2 (.t 3)⟩, ⟨none, none, .st 1 (.t 15) (.t 14)⟩]) (.seq (.reg [⟨some 16, none, .fa 3 (.t 1)⟩, ⟨some 17, none, .ld 1 false (.t 16)⟩, ⟨some 18, none, .call 78 [(.t 17)]⟩, ⟨some 19, none, .fa 3 (.t 3)⟩, ⟨none, none, .st 1 (.t 19) (.t 18)⟩]) (.seq (.reg [⟨some 20, none, .ld 4 true (.t 3)⟩, ⟨none, none, .st 4 (.t 2) (.t 20)⟩]) (.ret)))))))⟩
def K_laws_toKernel : Keeps := []
theorem r_laws_toKernel : resolveF Try.prog Try.f26 K_laws_toKernel = some F_laws_toKernel := by kernel_rfl
noncomputable def X_laws_toKernel : Ctx := Ctx.cons 77 G_laws_toGateS (Ctx.cons 35 G_laws_toIntS (Ctx.cons 61 G_laws_toCoreS (Ctx.cons 78 G_laws_toBoolS (fun _ => none))))
theorem co_laws_toKernel : CtxOk Try.prog X_laws_toKernel := CtxOk.cons (CtxOk.cons (CtxOk.cons (CtxOk.cons (CtxOk.nil) ok_laws_toBoolS) ok_laws_toCoreS) ok_laws_toIntS) ok_laws_toGateS
theorem cx_laws_toKernel : ((∀ args hp, callX X_laws_toKernel 77 args hp = callS G_laws_toGateS args hp) ∧ (trC (X_laws_toKernel 77) = false)) ∧ ((∀ args hp, callX X_laws_toKernel 35 args hp = callS G_laws_toIntS args hp) ∧ (trC (X_laws_toKernel 35) = false)) ∧ ((∀ args hp, callX X_laws_toKernel 61 args hp = callS G_laws_toCoreS args hp) ∧ (trC (X_laws_toKernel 61) = false)) ∧ ((∀ args hp, callX X_laws_toKernel 78 args hp = callS G_laws_toBoolS args hp) ∧ (trC (X_laws_toKernel 78) = false)) := ⟨⟨fun _ _ => rfl, rfl⟩, ⟨fun _ _ => rfl, rfl⟩, ⟨fun _ _ => rfl, rfl⟩, ⟨fun _ _ => rfl, rfl⟩⟩
noncomputable def S_laws_toKernel : ByV := ⟨none, false, semF X_laws_toKernel F_laws_toKernel none false⟩
noncomputable def G_laws_toKernel : CK := .byv S_laws_toKernel
theorem sg_laws_toKernel (args : List AV) : S_laws_toKernel.sem args = semF X_laws_toKernel F_laws_toKernel none false args := rfl
theorem cl_laws_toKernel (args : List AV) (hp : Hp) : callS G_laws_toKernel args hp = byvS S_laws_toKernel args hp := callS_byv rfl rfl args hp
theorem ok_laws_toKernel : InlOk Try.prog 26 (callS G_laws_toKernel) := byv_none co_laws_toKernel Try.func26 r_laws_toKernel rfl (fun _ _ h => h)
/- 118 laws_toEvent calls []  -/
def F_laws_toEvent : RF := ⟨14, 1, [.cell 2 3 true],
  .seq (.reg [⟨some 1, none, .box (.t 0)⟩, ⟨some 2, none, .new [(.int .i64 0), (.int .i64 0), (.int .i64 0)]⟩]) (.seq (.reg [⟨some 3, none, .new [(.int .i64 0), (.int .i64 0), (.int .i64 0)]⟩]) (.seq (.reg [⟨some 4, none, .fa 0 (.t 1)⟩, ⟨some 5, none, .ld 1 false (.t 4)⟩, ⟨some 6, none, .fa 0 (.t 3)⟩, ⟨none, none, .st 1 (.t 6) (.t 5)⟩]) (.seq (.reg [⟨some 7, none, .fa 1 (.t 1)⟩, ⟨some 8, none, .ld 1 false (.t 7)⟩, ⟨some 9, none, .fa 1 (.t 3)⟩, ⟨none, none, .st 1 (.t 9) (.t 8)⟩]) (.seq (.reg [⟨some 10, none, .fa 2 (.t 1)⟩, ⟨some 11, none, .ld 1 false (.t 10)⟩, ⟨some 12, none, .fa 2 (.t 3)⟩, ⟨none, none, .st 1 (.t 12) (.t 11)⟩]) (.seq (.reg [⟨some 13, none, .ld 3 true (.t 3)⟩, ⟨none, none, .st 3 (.t 2) (.t 13)⟩]) (.ret))))))⟩
def K_laws_toEvent : Keeps := []
theorem r_laws_toEvent : resolveF Try.prog Try.f118 K_laws_toEvent = some F_laws_toEvent := by kernel_rfl
noncomputable def X_laws_toEvent : Ctx := fun _ => none
theorem co_laws_toEvent : CtxOk Try.prog X_laws_toEvent := CtxOk.nil
theorem cx_laws_toEvent : True := trivial
noncomputable def S_laws_toEvent : ByV := ⟨none, false, semF X_laws_toEvent F_laws_toEvent none false⟩
noncomputable def G_laws_toEvent : CK := .byv S_laws_toEvent
theorem sg_laws_toEvent (args : List AV) : S_laws_toEvent.sem args = semF X_laws_toEvent F_laws_toEvent none false args := rfl
theorem cl_laws_toEvent (args : List AV) (hp : Hp) : callS G_laws_toEvent args hp = byvS S_laws_toEvent args hp := callS_byv rfl rfl args hp
theorem ok_laws_toEvent : InlOk Try.prog 118 (callS G_laws_toEvent) := byv_none co_laws_toEvent Try.func118 r_laws_toEvent rfl (fun _ _ h => h)
/- 62 laws_toEventS calls [laws_toEvent]  -/
def B0_laws_toEventS : RC :=
  .seq (.seq (.reg [⟨some 8, none, .mv (.t 4)⟩, ⟨some 9, none, .mv (.t 0)⟩, ⟨some 10, none, .len false (.t 9)⟩, ⟨some 11, none, .bin .lss (.t 8) (.t 10)⟩]) (.cond (.t 11) (.skip) (.exit 0))) (.seq (.block 1 (.reg [⟨some 14, none, .mv (.t 3)⟩, ⟨some 15, none, .mv (.t 4)⟩, ⟨some 16, none, .mv (.t 0)⟩, ⟨some 17, none, .mv (.t 4)⟩, ⟨some 18, none, .ia 3 (.t 16) (.t 17)⟩, ⟨some 19, none, .ld 3 true (.t 18)⟩, ⟨some 20, none, .call 118 [(.t 19)]⟩, ⟨some 21, none, .ia 3 (.t 14) (.t 15)⟩, ⟨none, none, .st 3 (.t 21) (.t 20)⟩])) (.reg [⟨some 12, none, .mv (.t 4)⟩, ⟨some 13, none, .bin .add (.t 12) (.c (.int .i64 1))⟩, ⟨some 4, none, .mv (.t 13)⟩]))
def F_laws_toEventS : RF := ⟨23, 1, [.t 2],
  .seq (.reg [⟨some 2, none, .mv (.c (.nil 3))⟩]) (.seq (.reg [⟨some 5, none, .mv (.t 0)⟩, ⟨some 6, none, .len false (.t 5)⟩, ⟨some 7, none, .mk 3 [(.int .i64 0), (.int .i64 0), (.int .i64 0)] 24 (.t 6) (.t 6)⟩, ⟨some 3, none, .mv (.t 7)⟩]) (.seq (.seq (.reg [⟨some 4, none, .mv (.c (.int .i64 0))⟩]) (.block 0 (.loop [0, 3, 4] [(1, [3])] B0_laws_toEventS))) (.seq (.reg [⟨some 22, none, .mv (.t 3)⟩, ⟨some 2, none, .mv (.t 22)⟩]) (.ret))))⟩
def K_laws_toEventS : Keeps := [([0, 3, 4], [(1, [3])])]
theorem r_laws_toEventS : resolveF Try.prog Try.f62 K_laws_toEventS = some F_laws_toEventS := by kernel_rfl
noncomputable def X_laws_toEventS : Ctx := Ctx.cons 118 G_laws_toEvent (fun _ => none)
theorem co_laws_toEventS : CtxOk Try.prog X_laws_toEventS := CtxOk.cons (CtxOk.nil) ok_laws_toEvent
theorem cx_laws_toEventS : ((∀ args hp, callX X_laws_toEventS 118 args hp = callS G_laws_toEvent args hp) ∧ (trC (X_laws_toEventS 118) = false)) := ⟨fun _ _ => rfl, rfl⟩
noncomputable def S_laws_toEventS : ByV := ⟨none, false, semF X_laws_toEventS F_laws_toEventS none false⟩
noncomputable def G_laws_toEventS : CK := .byv S_laws_toEventS
theorem sg_laws_toEventS (args : List AV) : S_laws_toEventS.sem args = semF X_laws_toEventS F_laws_toEventS none false args := rfl
theorem cl_laws_toEventS (args : List AV) (hp : Hp) : callS G_laws_toEventS args hp = byvS S_laws_toEventS args hp := callS_byv rfl rfl args hp
theorem ok_laws_toEventS : InlOk Try.prog 62 (callS G_laws_toEventS) := byv_none co_laws_toEventS Try.func62 r_laws_toEventS rfl (fun _ _ h => h)
/- 15 laws_toMachine calls [laws_toImage, laws_toIntS, laws_toCoreS, laws_toKernel, laws_toEventS]  -/
def F_laws_toMachine : RF := ⟨32, 1, [.cell 2 12 true],
  .seq (.reg [⟨some 1, none, .box (.t 0)⟩, ⟨some 2, none, .new [(.nil 1), (.nil 1), (.int .i64 0), (.nil 1), (.nil 3), (.nil 3), (.nil 1), (.nil 3), (.nil 1), (.nil 1), (.nil 3), (.bool false)]⟩]) (.seq (.reg [⟨some 3, none, .new [(.nil 1), (.nil 1), (.int .i64 0), (.nil 1), (.nil 3), (.nil 3), (.nil 1), (.nil 3), (.nil 1), (.nil 1), (.nil 3), (.bool false)]⟩]) (.seq (.reg [⟨some 4, none, .fa 0 (.t 1)⟩, ⟨some 5, none, .ld 3 true (.t 4)⟩, ⟨some 6, none, .call 60 [(.t 5)]⟩, ⟨some 7, none, .fa 0 (.t 3)⟩, ⟨none, none, .st 3 (.t 7) (.t 6)⟩]) (.seq (.reg [⟨some 8, none, .fa 3 (.t 1)⟩, ⟨some 9, none, .ld 1 false (.t 8)⟩, ⟨some 10, none, .call 35 [(.t 9)]⟩, ⟨some 11, none, .fa 3 (.t 3)⟩, ⟨none, none, .st 1 (.t 11) (.t 10)⟩]) (.seq (.reg [⟨some 12, none, .fa 4 (.t 1)⟩, ⟨some 13, none, .ld 1 false (.t 12)⟩, ⟨some 14, none, .call 61 [(.t 13)]⟩, ⟨some 15, none, .fa 4 (.t 3)⟩, ⟨none, none, .st 1 (.t 15) (.t 14)⟩]) (.seq (.reg [⟨some 16, none, .fa 5 (.t 1)⟩, ⟨some 17, none, .ld 4 true (.t 16)⟩, ⟨some 18, none, .call 26 [(.t 17)]⟩, ⟨some 19, none, .fa 5 (.t 3)⟩, ⟨none, none, .st 4 (.t 19) (.t 18)⟩]) (.seq (.reg [⟨some 20, none, .fa 9 (.t 1)⟩, ⟨some 21, none, .ld 1 false (.t 20)⟩, ⟨some 22, none, .call 35 [(.t 21)]⟩, ⟨some 23, none, .fa 9 (.t 3)⟩, ⟨none, none, .st 1 (.t 23) (.t 22)⟩]) (.seq (.reg [⟨some 24, none, .fa 10 (.t 1)⟩, ⟨some 25, none, .ld 1 false (.t 24)⟩, ⟨some 26, none, .call 62 [(.t 25)]⟩, ⟨some 27, none, .fa 10 (.t 3)⟩, ⟨none, none, .st 1 (.t 27) (.t 26)⟩]) (.seq (.reg [⟨some 28, none, .fa 11 (.t 1)⟩, ⟨some 29, none, .ld 1 false (.t 28)⟩, ⟨some 30, none, .fa 11 (.t 3)⟩, ⟨none, none, .st 1 (.t 30) (.t 29)⟩]) (.seq (.reg [⟨some 31, none, .ld 12 true (.t 3)⟩, ⟨none, none, .st 12 (.t 2) (.t 31)⟩]) (.ret))))))))))⟩
def K_laws_toMachine : Keeps := []
theorem r_laws_toMachine : resolveF Try.prog Try.f15 K_laws_toMachine = some F_laws_toMachine := by kernel_rfl
noncomputable def X_laws_toMachine : Ctx := Ctx.cons 60 G_laws_toImage (Ctx.cons 35 G_laws_toIntS (Ctx.cons 61 G_laws_toCoreS (Ctx.cons 26 G_laws_toKernel (Ctx.cons 62 G_laws_toEventS (fun _ => none)))))
theorem co_laws_toMachine : CtxOk Try.prog X_laws_toMachine := CtxOk.cons (CtxOk.cons (CtxOk.cons (CtxOk.cons (CtxOk.cons (CtxOk.nil) ok_laws_toEventS) ok_laws_toKernel) ok_laws_toCoreS) ok_laws_toIntS) ok_laws_toImage
theorem cx_laws_toMachine : ((∀ args hp, callX X_laws_toMachine 60 args hp = callS G_laws_toImage args hp) ∧ (trC (X_laws_toMachine 60) = false)) ∧ ((∀ args hp, callX X_laws_toMachine 35 args hp = callS G_laws_toIntS args hp) ∧ (trC (X_laws_toMachine 35) = false)) ∧ ((∀ args hp, callX X_laws_toMachine 61 args hp = callS G_laws_toCoreS args hp) ∧ (trC (X_laws_toMachine 61) = false)) ∧ ((∀ args hp, callX X_laws_toMachine 26 args hp = callS G_laws_toKernel args hp) ∧ (trC (X_laws_toMachine 26) = false)) ∧ ((∀ args hp, callX X_laws_toMachine 62 args hp = callS G_laws_toEventS args hp) ∧ (trC (X_laws_toMachine 62) = false)) := ⟨⟨fun _ _ => rfl, rfl⟩, ⟨fun _ _ => rfl, rfl⟩, ⟨fun _ _ => rfl, rfl⟩, ⟨fun _ _ => rfl, rfl⟩, ⟨fun _ _ => rfl, rfl⟩⟩
noncomputable def S_laws_toMachine : ByV := ⟨none, false, semF X_laws_toMachine F_laws_toMachine none false⟩
noncomputable def G_laws_toMachine : CK := .byv S_laws_toMachine
theorem sg_laws_toMachine (args : List AV) : S_laws_toMachine.sem args = semF X_laws_toMachine F_laws_toMachine none false args := rfl
theorem cl_laws_toMachine (args : List AV) (hp : Hp) : callS G_laws_toMachine args hp = byvS S_laws_toMachine args hp := callS_byv rfl rfl args hp
theorem ok_laws_toMachine : InlOk Try.prog 15 (callS G_laws_toMachine) := byv_none co_laws_toMachine Try.func15 r_laws_toMachine rfl (fun _ _ h => h)
/- 14 spec_Idle calls []  -/
def B0_spec_Idle : RC :=
  .seq (.seq (.reg [⟨some 4, none, .mv (.t 3)⟩, ⟨some 5, none, .fa 4 (.t 1)⟩, ⟨some 6, none, .ld 1 false (.t 5)⟩, ⟨some 7, none, .len false (.t 6)⟩, ⟨some 8, none, .bin .lss (.t 4) (.t 7)⟩]) (.cond (.t 8) (.skip) (.exit 0))) (.seq (.block 1 (.seq (.reg [⟨some 11, none, .fa 4 (.t 1)⟩, ⟨some 12, none, .ld 1 false (.t 11)⟩, ⟨some 13, none, .mv (.t 3)⟩, ⟨some 14, none, .ia 3 (.t 12) (.t 13)⟩, ⟨some 15, none, .fa 2 (.t 14)⟩, ⟨some 16, none, .ld 1 false (.t 15)⟩, ⟨some 17, none, .bin .geq (.t 16) (.c (.int .i64 0))⟩, ⟨some 18, none, .mv (.t 17)⟩, ⟨some 19, some (18, true), .fa 11 (.t 1)⟩, ⟨some 20, some (18, true), .ld 1 false (.t 19)⟩, ⟨some 21, some (18, true), .un .not (.t 20)⟩, ⟨some 22, none, .pick (.t 18) (.t 21) (.c (.bool false))⟩]) (.cond (.t 22) (.seq (.reg [⟨some 2, none, .mv (.c (.bool false))⟩]) (.ret)) (.skip)))) (.reg [⟨some 9, none, .mv (.t 3)⟩, ⟨some 10, none, .bin .add (.t 9) (.c (.int .i64 1))⟩, ⟨some 3, none, .mv (.t 10)⟩]))
def F_spec_Idle : RF := ⟨32, 1, [.t 2],
  .seq (.reg [⟨some 1, none, .box (.t 0)⟩, ⟨some 2, none, .mv (.c (.bool false))⟩]) (.seq (.seq (.reg [⟨some 3, none, .mv (.c (.int .i64 0))⟩]) (.block 0 (.loop [1, 3] [(1, [1]), (0, [2])] B0_spec_Idle))) (.seq (.reg [⟨some 23, none, .fa 11 (.t 1)⟩, ⟨some 24, none, .ld 1 false (.t 23)⟩, ⟨some 25, none, .mv (.t 24)⟩, ⟨some 26, some (25, false), .fa 5 (.t 1)⟩, ⟨some 27, some (25, false), .fa 1 (.t 26)⟩, ⟨some 28, some (25, false), .ld 1 false (.t 27)⟩, ⟨some 29, some (25, false), .len false (.t 28)⟩, ⟨some 30, some (25, false), .bin .eql (.t 29) (.c (.int .i64 0))⟩, ⟨some 31, none, .pick (.t 25) (.c (.bool true)) (.t 30)⟩, ⟨some 2, none, .mv (.t 31)⟩]) (.ret)))⟩
def K_spec_Idle : Keeps := [([1, 3], [(1, [1]), (0, [2])])]
theorem r_spec_Idle : resolveF Try.prog Try.f14 K_spec_Idle = some F_spec_Idle := by kernel_rfl
noncomputable def X_spec_Idle : Ctx := fun _ => none
theorem co_spec_Idle : CtxOk Try.prog X_spec_Idle := CtxOk.nil
theorem cx_spec_Idle : True := trivial
noncomputable def S_spec_Idle : ByV := ⟨none, false, semF X_spec_Idle F_spec_Idle none false⟩
noncomputable def G_spec_Idle : CK := .byv S_spec_Idle
theorem sg_spec_Idle (args : List AV) : S_spec_Idle.sem args = semF X_spec_Idle F_spec_Idle none false args := rfl
theorem cl_spec_Idle (args : List AV) (hp : Hp) : callS G_spec_Idle args hp = byvS S_spec_Idle args hp := callS_byv rfl rfl args hp
theorem ok_spec_Idle : InlOk Try.prog 14 (callS G_spec_Idle) := byv_none co_spec_Idle Try.func14 r_spec_Idle rfl (fun _ _ h => h)
/- 52 spec_MachineVerdict calls [spec_Idle]  -/
def B0_spec_MachineVerdict : RC :=
  .seq (.seq (.reg [⟨some 7, none, .mv (.t 4)⟩, ⟨some 8, none, .fa 5 (.t 1)⟩, ⟨some 9, none, .fa 3 (.t 8)⟩, ⟨some 10, none, .ld 1 false (.t 9)⟩, ⟨some 11, none, .len false (.t 10)⟩, ⟨some 12, none, .bin .lss (.t 7) (.t 11)⟩]) (.cond (.t 12) (.skip) (.exit 0))) (.seq (.block 1 (.reg [⟨some 15, none, .mv (.t 3)⟩, ⟨some 16, none, .mv (.t 15)⟩, ⟨some 17, some (16, true), .fa 5 (.t 1)⟩, ⟨some 18, some (16, true), .fa 3 (.t 17)⟩, ⟨some 19, some (16, true), .ld 1 false (.t 18)⟩, ⟨some 20, some (16, true), .mv (.t 4)⟩, ⟨some 21, some (16, true), .ia 1 (.t 19) (.t 20)⟩, ⟨some 22, some (16, true), .ld 1 false (.t 21)⟩, ⟨some 23, none, .pick (.t 16) (.t 22) (.c (.bool false))⟩, ⟨some 3, none, .mv (.t 23)⟩])) (.reg [⟨some 13, none, .mv (.t 4)⟩, ⟨some 14, none, .bin .add (.t 13) (.c (.int .i64 1))⟩, ⟨some 4, none, .mv (.t 14)⟩]))
def F_spec_MachineVerdict : RF := ⟨27, 1, [.t 2],
  .seq (.reg [⟨some 1, none, .box (.t 0)⟩, ⟨some 2, none, .mv (.c (.int .i64 0))⟩]) (.seq (.seq (.reg [⟨some 5, none, .fa 11 (.t 1)⟩, ⟨some 6, none, .ld 1 false (.t 5)⟩]) (.cond (.t 6) (.seq (.reg [⟨some 2, none, .mv (.c (.int .i64 3))⟩]) (.ret)) (.skip))) (.seq (.reg [⟨some 3, none, .mv (.c (.bool true))⟩]) (.seq (.seq (.reg [⟨some 4, none, .mv (.c (.int .i64 0))⟩]) (.block 0 (.loop [1, 3, 4] [(1, [1, 3])] B0_spec_MachineVerdict))) (.seq (.seq (.reg [⟨some 24, none, .mv (.t 3)⟩]) (.cond (.t 24) (.seq (.reg [⟨some 2, none, .mv (.c (.int .i64 1))⟩]) (.ret)) (.skip))) (.seq (.seq (.reg [⟨some 25, none, .ld 12 true (.t 1)⟩, ⟨some 26, none, .call 14 [(.t 25)]⟩]) (.cond (.t 26) (.seq (.reg [⟨some 2, none, .mv (.c (.int .i64 2))⟩]) (.ret)) (.skip))) (.seq (.reg [⟨some 2, none, .mv (.c (.int .i64 0))⟩]) (.ret)))))))⟩
def K_spec_MachineVerdict : Keeps := [([1, 3, 4], [(1, [1, 3])])]
theorem r_spec_MachineVerdict : resolveF Try.prog Try.f52 K_spec_MachineVerdict = some F_spec_MachineVerdict := by kernel_rfl
noncomputable def X_spec_MachineVerdict : Ctx := Ctx.cons 14 G_spec_Idle (fun _ => none)
theorem co_spec_MachineVerdict : CtxOk Try.prog X_spec_MachineVerdict := CtxOk.cons (CtxOk.nil) ok_spec_Idle
theorem cx_spec_MachineVerdict : ((∀ args hp, callX X_spec_MachineVerdict 14 args hp = callS G_spec_Idle args hp) ∧ (trC (X_spec_MachineVerdict 14) = false)) := ⟨fun _ _ => rfl, rfl⟩
noncomputable def S_spec_MachineVerdict : ByV := ⟨none, false, semF X_spec_MachineVerdict F_spec_MachineVerdict none false⟩
noncomputable def G_spec_MachineVerdict : CK := .byv S_spec_MachineVerdict
theorem sg_spec_MachineVerdict (args : List AV) : S_spec_MachineVerdict.sem args = semF X_spec_MachineVerdict F_spec_MachineVerdict none false args := rfl
theorem cl_spec_MachineVerdict (args : List AV) (hp : Hp) : callS G_spec_MachineVerdict args hp = byvS S_spec_MachineVerdict args hp := callS_byv rfl rfl args hp
theorem ok_spec_MachineVerdict : InlOk Try.prog 52 (callS G_spec_MachineVerdict) := byv_none co_spec_MachineVerdict Try.func52 r_spec_MachineVerdict rfl (fun _ _ h => h)
/- 156 slices_Index_bool_bool calls []  -/
def B0_slices_Index_bool_bool : RC :=
  .seq (.reg [⟨some 9, none, .bin .lss (.t 8) (.t 7)⟩]) (.seq (.cond (.t 9) (.skip) (.exit 0)) (.seq (.block 1 (.seq (.reg [⟨some 10, none, .mv (.t 8)⟩, ⟨some 5, none, .mv (.t 10)⟩]) (.seq (.reg [⟨some 11, none, .mv (.t 1)⟩, ⟨some 12, none, .mv (.t 0)⟩, ⟨some 13, none, .mv (.t 5)⟩, ⟨some 14, none, .ia 1 (.t 12) (.t 13)⟩, ⟨some 15, none, .ld 1 false (.t 14)⟩, ⟨some 16, none, .bib .eql (.t 11) (.t 15)⟩]) (.cond (.t 16) (.seq (.reg [⟨some 17, none, .mv (.t 5)⟩, ⟨some 4, none, .mv (.t 17)⟩]) (.ret)) (.skip))))) (.reg [⟨some 18, none, .bin .add (.t 8) (.c (.int .i64 1))⟩, ⟨some 8, none, .mv (.t 18)⟩])))
def F_slices_Index_bool_bool : RF := ⟨19, 2, [.t 4],
  .seq (.reg [⟨some 4, none, .mv (.c (.int .i64 0))⟩]) (.seq (.seq (.reg [⟨some 6, none, .mv (.t 0)⟩, ⟨some 7, none, .len false (.t 6)⟩, ⟨some 8, none, .mv (.c (.int .i64 0))⟩]) (.block 0 (.loop [0, 1, 7, 8] [(1, []), (0, [4])] B0_slices_Index_bool_bool))) (.seq (.reg [⟨some 4, none, .mv (.c (.int .i64 (-1)))⟩]) (.ret)))⟩
def K_slices_Index_bool_bool : Keeps := [([0, 1, 7, 8], [(1, []), (0, [4])])]
theorem r_slices_Index_bool_bool : resolveF Try.prog Try.f156 K_slices_Index_bool_bool = some F_slices_Index_bool_bool := by kernel_rfl
noncomputable def X_slices_Index_bool_bool : Ctx := fun _ => none
theorem co_slices_Index_bool_bool : CtxOk Try.prog X_slices_Index_bool_bool := CtxOk.nil
theorem cx_slices_Index_bool_bool : True := trivial
noncomputable def S_slices_Index_bool_bool : ByV := ⟨none, false, semF X_slices_Index_bool_bool F_slices_Index_bool_bool none false⟩
noncomputable def G_slices_Index_bool_bool : CK := .byv S_slices_Index_bool_bool
theorem sg_slices_Index_bool_bool (args : List AV) : S_slices_Index_bool_bool.sem args = semF X_slices_Index_bool_bool F_slices_Index_bool_bool none false args := rfl
theorem cl_slices_Index_bool_bool (args : List AV) (hp : Hp) : callS G_slices_Index_bool_bool args hp = byvS S_slices_Index_bool_bool args hp := callS_byv rfl rfl args hp
theorem ok_slices_Index_bool_bool : InlOk Try.prog 156 (callS G_slices_Index_bool_bool) := byv_none co_slices_Index_bool_bool Try.func156 r_slices_Index_bool_bool rfl (fun _ _ h => h)
/- 116 slices_Contains_bool_bool calls [slices_Index_bool_bool]  -/
def F_slices_Contains_bool_bool : RF := ⟨9, 2, [.t 4],
  .seq (.reg [⟨some 4, none, .mv (.c (.bool false))⟩]) (.seq (.reg [⟨some 5, none, .mv (.t 0)⟩, ⟨some 6, none, .mv (.t 1)⟩, ⟨some 7, none, .call 156 [(.t 5), (.t 6)]⟩, ⟨some 8, none, .bin .geq (.t 7) (.c (.int .i64 0))⟩, ⟨some 4, none, .mv (.t 8)⟩]) (.ret))⟩
def K_slices_Contains_bool_bool : Keeps := []
theorem r_slices_Contains_bool_bool : resolveF Try.prog Try.f116 K_slices_Contains_bool_bool = some F_slices_Contains_bool_bool := by kernel_rfl
noncomputable def X_slices_Contains_bool_bool : Ctx := Ctx.cons 156 G_slices_Index_bool_bool (fun _ => none)
theorem co_slices_Contains_bool_bool : CtxOk Try.prog X_slices_Contains_bool_bool := CtxOk.cons (CtxOk.nil) ok_slices_Index_bool_bool
theorem cx_slices_Contains_bool_bool : ((∀ args hp, callX X_slices_Contains_bool_bool 156 args hp = callS G_slices_Index_bool_bool args hp) ∧ (trC (X_slices_Contains_bool_bool 156) = false)) := ⟨fun _ _ => rfl, rfl⟩
noncomputable def S_slices_Contains_bool_bool : ByV := ⟨none, false, semF X_slices_Contains_bool_bool F_slices_Contains_bool_bool none false⟩
noncomputable def G_slices_Contains_bool_bool : CK := .byv S_slices_Contains_bool_bool
theorem sg_slices_Contains_bool_bool (args : List AV) : S_slices_Contains_bool_bool.sem args = semF X_slices_Contains_bool_bool F_slices_Contains_bool_bool none false args := rfl
theorem cl_slices_Contains_bool_bool (args : List AV) (hp : Hp) : callS G_slices_Contains_bool_bool args hp = byvS S_slices_Contains_bool_bool args hp := callS_byv rfl rfl args hp
theorem ok_slices_Contains_bool_bool : InlOk Try.prog 116 (callS G_slices_Contains_bool_bool) := byv_none co_slices_Contains_bool_bool Try.func116 r_slices_Contains_bool_bool rfl (fun _ _ h => h)
/- 64 impl_Idle_1 calls []  -/
def F_impl_Idle_1 : RF := ⟨6, 1, [.t 2],
  .seq (.reg [⟨some 1, none, .box (.t 0)⟩, ⟨some 2, none, .mv (.c (.bool false))⟩]) (.seq (.reg [⟨some 3, none, .fa 2 (.t 1)⟩, ⟨some 4, none, .ld 1 false (.t 3)⟩, ⟨some 5, none, .bin .geq (.t 4) (.c (.int .i64 0))⟩, ⟨some 2, none, .mv (.t 5)⟩]) (.ret))⟩
def K_impl_Idle_1 : Keeps := []
theorem r_impl_Idle_1 : resolveF Try.prog Try.f64 K_impl_Idle_1 = some F_impl_Idle_1 := by kernel_rfl
noncomputable def X_impl_Idle_1 : Ctx := fun _ => none
theorem co_impl_Idle_1 : CtxOk Try.prog X_impl_Idle_1 := CtxOk.nil
theorem cx_impl_Idle_1 : True := trivial
noncomputable def S_impl_Idle_1 : ByV := ⟨none, false, semF X_impl_Idle_1 F_impl_Idle_1 none false⟩
noncomputable def G_impl_Idle_1 : CK := .byv S_impl_Idle_1
theorem sg_impl_Idle_1 (args : List AV) : S_impl_Idle_1.sem args = semF X_impl_Idle_1 F_impl_Idle_1 none false args := rfl
theorem cl_impl_Idle_1 (args : List AV) (hp : Hp) : callS G_impl_Idle_1 args hp = byvS S_impl_Idle_1 args hp := callS_byv rfl rfl args hp
theorem ok_impl_Idle_1 : InlOk Try.prog 64 (callS G_impl_Idle_1) := byv_none co_impl_Idle_1 Try.func64 r_impl_Idle_1 rfl (fun _ _ h => h)
/- 119 slices_IndexFunc_impl_Core_impl_Core calls [impl_Idle_1]  -/
def B0_slices_IndexFunc_impl_Core_impl_Core : RC :=
  .seq (.reg [⟨some 9, none, .bin .lss (.t 8) (.t 7)⟩]) (.seq (.cond (.t 9) (.skip) (.exit 0)) (.seq (.block 1 (.seq (.reg [⟨some 10, none, .mv (.t 8)⟩, ⟨some 5, none, .mv (.t 10)⟩]) (.seq (.reg [⟨some 11, none, .mv (.t 1)⟩, ⟨some 12, none, .mv (.t 0)⟩, ⟨some 13, none, .mv (.t 5)⟩, ⟨some 14, none, .ia 3 (.t 12) (.t 13)⟩, ⟨some 15, none, .ld 3 true (.t 14)⟩, ⟨some 16, none, .callv (.t 11) [(.t 15)]⟩]) (.cond (.t 16) (.seq (.reg [⟨some 17, none, .mv (.t 5)⟩, ⟨some 4, none, .mv (.t 17)⟩]) (.ret)) (.skip))))) (.reg [⟨some 18, none, .bin .add (.t 8) (.c (.int .i64 1))⟩, ⟨some 8, none, .mv (.t 18)⟩])))
def F_slices_IndexFunc_impl_Core_impl_Core : RF := ⟨19, 2, [.t 4],
  .seq (.reg [⟨some 4, none, .mv (.c (.int .i64 0))⟩]) (.seq (.seq (.reg [⟨some 6, none, .mv (.t 0)⟩, ⟨some 7, none, .len false (.t 6)⟩, ⟨some 8, none, .mv (.c (.int .i64 0))⟩]) (.block 0 (.loop [0, 1, 7, 8] [(1, []), (0, [4])] B0_slices_IndexFunc_impl_Core_impl_Core))) (.seq (.reg [⟨some 4, none, .mv (.c (.int .i64 (-1)))⟩]) (.ret)))⟩
def K_slices_IndexFunc_impl_Core_impl_Core : Keeps := [([0, 1, 7, 8], [(1, []), (0, [4])])]
theorem r_slices_IndexFunc_impl_Core_impl_Core : resolveF Try.prog Try.f119 K_slices_IndexFunc_impl_Core_impl_Core = some F_slices_IndexFunc_impl_Core_impl_Core := by kernel_rfl
noncomputable def X_slices_IndexFunc_impl_Core_impl_Core : Ctx := Ctx.cons 64 G_impl_Idle_1 (fun _ => none)
theorem co_slices_IndexFunc_impl_Core_impl_Core : CtxOk Try.prog X_slices_IndexFunc_impl_Core_impl_Core := CtxOk.cons (CtxOk.nil) ok_impl_Idle_1
theorem cx_slices_IndexFunc_impl_Core_impl_Core : ((∀ args hp, callX X_slices_IndexFunc_impl_Core_impl_Core 64 args hp = callS G_impl_Idle_1 args hp) ∧ (trC (X_slices_IndexFunc_impl_Core_impl_Core 64) = false)) := ⟨fun _ _ => rfl, rfl⟩
noncomputable def S_slices_IndexFunc_impl_Core_impl_Core : ByV := ⟨none, false, semF X_slices_IndexFunc_impl_Core_impl_Core F_slices_IndexFunc_impl_Core_impl_Core none false⟩
noncomputable def G_slices_IndexFunc_impl_Core_impl_Core : CK := .byv S_slices_IndexFunc_impl_Core_impl_Core
theorem sg_slices_IndexFunc_impl_Core_impl_Core (args : List AV) : S_slices_IndexFunc_impl_Core_impl_Core.sem args = semF X_slices_IndexFunc_impl_Core_impl_Core F_slices_IndexFunc_impl_Core_impl_Core none false args := rfl
theorem cl_slices_IndexFunc_impl_Core_impl_Core (args : List AV) (hp : Hp) : callS G_slices_IndexFunc_impl_Core_impl_Core args hp = byvS S_slices_IndexFunc_impl_Core_impl_Core args hp := callS_byv rfl rfl args hp
theorem ok_slices_IndexFunc_impl_Core_impl_Core : InlOk Try.prog 119 (callS G_slices_IndexFunc_impl_Core_impl_Core) := byv_none co_slices_IndexFunc_impl_Core_impl_Core Try.func119 r_slices_IndexFunc_impl_Core_impl_Core rfl (fun _ _ h => h)
/- 63 slices_ContainsFunc_impl_Core_impl_Core calls [slices_IndexFunc_impl_Core_impl_Core]  -/
def F_slices_ContainsFunc_impl_Core_impl_Core : RF := ⟨9, 2, [.t 4],
  .seq (.reg [⟨some 4, none, .mv (.c (.bool false))⟩]) (.seq (.reg [⟨some 5, none, .mv (.t 0)⟩, ⟨some 6, none, .mv (.t 1)⟩, ⟨some 7, none, .call 119 [(.t 5), (.t 6)]⟩, ⟨some 8, none, .bin .geq (.t 7) (.c (.int .i64 0))⟩, ⟨some 4, none, .mv (.t 8)⟩]) (.ret))⟩
def K_slices_ContainsFunc_impl_Core_impl_Core : Keeps := []
theorem r_slices_ContainsFunc_impl_Core_impl_Core : resolveF Try.prog Try.f63 K_slices_ContainsFunc_impl_Core_impl_Core = some F_slices_ContainsFunc_impl_Core_impl_Core := by kernel_rfl
noncomputable def X_slices_ContainsFunc_impl_Core_impl_Core : Ctx := Ctx.cons 119 G_slices_IndexFunc_impl_Core_impl_Core (fun _ => none)
theorem co_slices_ContainsFunc_impl_Core_impl_Core : CtxOk Try.prog X_slices_ContainsFunc_impl_Core_impl_Core := CtxOk.cons (CtxOk.nil) ok_slices_IndexFunc_impl_Core_impl_Core
theorem cx_slices_ContainsFunc_impl_Core_impl_Core : ((∀ args hp, callX X_slices_ContainsFunc_impl_Core_impl_Core 119 args hp = callS G_slices_IndexFunc_impl_Core_impl_Core args hp) ∧ (trC (X_slices_ContainsFunc_impl_Core_impl_Core 119) = false)) := ⟨fun _ _ => rfl, rfl⟩
noncomputable def S_slices_ContainsFunc_impl_Core_impl_Core : ByV := ⟨none, false, semF X_slices_ContainsFunc_impl_Core_impl_Core F_slices_ContainsFunc_impl_Core_impl_Core none false⟩
noncomputable def G_slices_ContainsFunc_impl_Core_impl_Core : CK := .byv S_slices_ContainsFunc_impl_Core_impl_Core
theorem sg_slices_ContainsFunc_impl_Core_impl_Core (args : List AV) : S_slices_ContainsFunc_impl_Core_impl_Core.sem args = semF X_slices_ContainsFunc_impl_Core_impl_Core F_slices_ContainsFunc_impl_Core_impl_Core none false args := rfl
theorem cl_slices_ContainsFunc_impl_Core_impl_Core (args : List AV) (hp : Hp) : callS G_slices_ContainsFunc_impl_Core_impl_Core args hp = byvS S_slices_ContainsFunc_impl_Core_impl_Core args hp := callS_byv rfl rfl args hp
theorem ok_slices_ContainsFunc_impl_Core_impl_Core : InlOk Try.prog 63 (callS G_slices_ContainsFunc_impl_Core_impl_Core) := byv_none co_slices_ContainsFunc_impl_Core_impl_Core Try.func63 r_slices_ContainsFunc_impl_Core_impl_Core rfl (fun _ _ h => h)
/- 16 impl_Idle calls [slices_ContainsFunc_impl_Core_impl_Core]  -/
def F_impl_Idle : RF := ⟨18, 1, [.t 2],
  .seq (.reg [⟨some 1, none, .box (.t 0)⟩, ⟨some 2, none, .mv (.c (.bool false))⟩]) (.seq (.reg [⟨some 3, none, .fa 11 (.t 1)⟩, ⟨some 4, none, .ld 1 false (.t 3)⟩, ⟨some 5, none, .mv (.t 4)⟩, ⟨some 6, some (5, false), .fa 5 (.t 1)⟩, ⟨some 7, some (5, false), .fa 1 (.t 6)⟩, ⟨some 8, some (5, false), .ld 1 false (.t 7)⟩, ⟨some 9, some (5, false), .len false (.t 8)⟩, ⟨some 10, some (5, false), .bin .eql (.t 9) (.c (.int .i64 0))⟩, ⟨some 11, some (5, false), .mv (.t 10)⟩, ⟨some 12, some (11, true), .fa 4 (.t 1)⟩, ⟨some 13, some (11, true), .ld 1 false (.t 12)⟩, ⟨some 14, some (11, true), .call 63 [(.t 13), (.fn 64)]⟩, ⟨some 15, some (11, true), .un .not (.t 14)⟩, ⟨some 16, some (5, false), .pick (.t 11) (.t 15) (.c (.bool false))⟩, ⟨some 17, none, .pick (.t 5) (.c (.bool true)) (.t 16)⟩, ⟨some 2, none, .mv (.t 17)⟩]) (.ret))⟩
def K_impl_Idle : Keeps := []
theorem r_impl_Idle : resolveF Try.prog Try.f16 K_impl_Idle = some F_impl_Idle := by kernel_rfl
noncomputable def X_impl_Idle : Ctx := Ctx.cons 63 G_slices_ContainsFunc_impl_Core_impl_Core (fun _ => none)
theorem co_impl_Idle : CtxOk Try.prog X_impl_Idle := CtxOk.cons (CtxOk.nil) ok_slices_ContainsFunc_impl_Core_impl_Core
theorem cx_impl_Idle : ((∀ args hp, callX X_impl_Idle 63 args hp = callS G_slices_ContainsFunc_impl_Core_impl_Core args hp) ∧ (trC (X_impl_Idle 63) = false)) := ⟨fun _ _ => rfl, rfl⟩
noncomputable def S_impl_Idle : ByV := ⟨none, false, semF X_impl_Idle F_impl_Idle none false⟩
noncomputable def G_impl_Idle : CK := .byv S_impl_Idle
theorem sg_impl_Idle (args : List AV) : S_impl_Idle.sem args = semF X_impl_Idle F_impl_Idle none false args := rfl
theorem cl_impl_Idle (args : List AV) (hp : Hp) : callS G_impl_Idle args hp = byvS S_impl_Idle args hp := callS_byv rfl rfl args hp
theorem ok_impl_Idle : InlOk Try.prog 16 (callS G_impl_Idle) := byv_none co_impl_Idle Try.func16 r_impl_Idle rfl (fun _ _ h => h)
/- 53 impl_MachineVerdict calls [slices_Contains_bool_bool, impl_Idle]  -/
def F_impl_MachineVerdict : RF := ⟨15, 1, [.t 2],
  .seq (.reg [⟨some 1, none, .box (.t 0)⟩, ⟨some 2, none, .mv (.c (.int .i64 0))⟩]) (.seq (.block 0 (.seq (.reg [⟨some 4, none, .fa 11 (.t 1)⟩, ⟨some 5, none, .ld 1 false (.t 4)⟩, ⟨some 3, none, .mv (.t 5)⟩]) (.cond (.t 3) (.seq (.reg [⟨some 2, none, .mv (.c (.int .i64 3))⟩]) (.ret)) (.seq (.reg [⟨some 7, none, .fa 5 (.t 1)⟩, ⟨some 8, none, .fa 3 (.t 7)⟩, ⟨some 9, none, .ld 1 false (.t 8)⟩, ⟨some 10, none, .call 116 [(.t 9), (.c (.bool false))]⟩, ⟨some 11, none, .un .not (.t 10)⟩, ⟨some 6, none, .mv (.t 11)⟩]) (.cond (.t 6) (.seq (.reg [⟨some 2, none, .mv (.c (.int .i64 1))⟩]) (.ret)) (.seq (.reg [⟨some 13, none, .ld 12 true (.t 1)⟩, ⟨some 14, none, .call 16 [(.t 13)]⟩, ⟨some 12, none, .mv (.t 14)⟩]) (.cond (.t 12) (.seq (.reg [⟨some 2, none, .mv (.c (.int .i64 2))⟩]) (.ret)) (.skip)))))))) (.seq (.reg [⟨some 2, none, .mv (.c (.int .i64 0))⟩]) (.ret)))⟩
def K_impl_MachineVerdict : Keeps := []
theorem r_impl_MachineVerdict : resolveF Try.prog Try.f53 K_impl_MachineVerdict = some F_impl_MachineVerdict := by kernel_rfl
noncomputable def X_impl_MachineVerdict : Ctx := Ctx.cons 116 G_slices_Contains_bool_bool (Ctx.cons 16 G_impl_Idle (fun _ => none))
theorem co_impl_MachineVerdict : CtxOk Try.prog X_impl_MachineVerdict := CtxOk.cons (CtxOk.cons (CtxOk.nil) ok_impl_Idle) ok_slices_Contains_bool_bool
theorem cx_impl_MachineVerdict : ((∀ args hp, callX X_impl_MachineVerdict 116 args hp = callS G_slices_Contains_bool_bool args hp) ∧ (trC (X_impl_MachineVerdict 116) = false)) ∧ ((∀ args hp, callX X_impl_MachineVerdict 16 args hp = callS G_impl_Idle args hp) ∧ (trC (X_impl_MachineVerdict 16) = false)) := ⟨⟨fun _ _ => rfl, rfl⟩, ⟨fun _ _ => rfl, rfl⟩⟩
noncomputable def S_impl_MachineVerdict : ByV := ⟨none, false, semF X_impl_MachineVerdict F_impl_MachineVerdict none false⟩
noncomputable def G_impl_MachineVerdict : CK := .byv S_impl_MachineVerdict
theorem sg_impl_MachineVerdict (args : List AV) : S_impl_MachineVerdict.sem args = semF X_impl_MachineVerdict F_impl_MachineVerdict none false args := rfl
theorem cl_impl_MachineVerdict (args : List AV) (hp : Hp) : callS G_impl_MachineVerdict args hp = byvS S_impl_MachineVerdict args hp := callS_byv rfl rfl args hp
theorem ok_impl_MachineVerdict : InlOk Try.prog 53 (callS G_impl_MachineVerdict) := byv_none co_impl_MachineVerdict Try.func53 r_impl_MachineVerdict rfl (fun _ _ h => h)
/- 37 laws_eqIntS calls []  -/
def B0_laws_eqIntS : RC :=
  .seq (.seq (.reg [⟨some 11, none, .mv (.t 5)⟩, ⟨some 12, none, .mv (.t 0)⟩, ⟨some 13, none, .len false (.t 12)⟩, ⟨some 14, none, .bin .lss (.t 11) (.t 13)⟩]) (.cond (.t 14) (.skip) (.exit 0))) (.seq (.block 1 (.seq (.regd [(0, ⟨some 17, none, .mv (.t 0)⟩), (0, ⟨some 18, none, .mv (.t 5)⟩), (1, ⟨some 19, none, .ia 1 (.t 17) (.t 18)⟩), (1, ⟨some 20, none, .ld 1 false (.t 19)⟩), (0, ⟨some 21, none, .mv (.t 1)⟩), (0, ⟨some 22, none, .mv (.t 5)⟩), (1, ⟨some 23, none, .ia 1 (.t 21) (.t 22)⟩), (1, ⟨some 24, none, .ld 1 false (.t 23)⟩), (0, ⟨some 25, none, .bin .neq (.t 20) (.t 24)⟩)] []) (.cond (.t 25) (.seq (.reg [⟨some 4, none, .mv (.c (.bool false))⟩]) (.ret)) (.skip)))) (.reg [⟨some 15, none, .mv (.t 5)⟩, ⟨some 16, none, .bin .add (.t 15) (.c (.int .i64 1))⟩, ⟨some 5, none, .mv (.t 16)⟩]))
def F_laws_eqIntS : RF := ⟨26, 2, [.t 4],
  .seq (.reg [⟨some 4, none, .mv (.c (.bool false))⟩]) (.seq (.seq (.reg [⟨some 6, none, .mv (.t 0)⟩, ⟨some 7, none, .len false (.t 6)⟩, ⟨some 8, none, .mv (.t 1)⟩, ⟨some 9, none, .len false (.t 8)⟩, ⟨some 10, none, .bin .neq (.t 7) (.t 9)⟩]) (.cond (.t 10) (.seq (.reg [⟨some 4, none, .mv (.c (.bool false))⟩]) (.ret)) (.skip))) (.seq (.seq (.reg [⟨some 5, none, .mv (.c (.int .i64 0))⟩]) (.block 0 (.loop [0, 1, 5] [(1, []), (0, [4])] B0_laws_eqIntS))) (.seq (.reg [⟨some 4, none, .mv (.c (.bool true))⟩]) (.ret))))⟩
def K_laws_eqIntS : Keeps := [([0, 1, 5], [(1, []), (0, [4])])]
theorem r_laws_eqIntS : resolveF Try.prog Try.f37 K_laws_eqIntS = some F_laws_eqIntS := by kernel_rfl
noncomputable def X_laws_eqIntS : Ctx := fun _ => none
theorem co_laws_eqIntS : CtxOk Try.prog X_laws_eqIntS := CtxOk.nil
theorem cx_laws_eqIntS : True := trivial
noncomputable def S_laws_eqIntS : ByV := ⟨none, false, semF X_laws_eqIntS F_laws_eqIntS none false⟩
noncomputable def G_laws_eqIntS : CK := .byv S_laws_eqIntS
theorem sg_laws_eqIntS (args : List AV) : S_laws_eqIntS.sem args = semF X_laws_eqIntS F_laws_eqIntS none false args := rfl
theorem cl_laws_eqIntS (args : List AV) (hp : Hp) : callS G_laws_eqIntS args hp = byvS S_laws_eqIntS args hp := callS_byv rfl rfl args hp
theorem ok_laws_eqIntS : InlOk Try.prog 37 (callS G_laws_eqIntS) := byv_none co_laws_eqIntS Try.func37 r_laws_eqIntS rfl (fun _ _ h => h)
/- 20 laws_eqImage calls [laws_eqIntS]  -/
def F_laws_eqImage : RF := ⟨22, 2, [.t 4],
  .seq (.reg [⟨some 2, none, .box (.t 0)⟩, ⟨some 3, none, .box (.t 1)⟩, ⟨some 4, none, .mv (.c (.bool false))⟩]) (.seq (.seq (.reg [⟨some 5, none, .fa 0 (.t 2)⟩, ⟨some 6, none, .ld 1 false (.t 5)⟩, ⟨some 7, none, .fa 0 (.t 3)⟩, ⟨some 8, none, .ld 1 false (.t 7)⟩, ⟨some 9, none, .call 37 [(.t 6), (.t 8)]⟩, ⟨some 10, none, .un .not (.t 9)⟩]) (.cond (.t 10) (.seq (.reg [⟨some 4, none, .mv (.c (.bool false))⟩]) (.ret)) (.skip))) (.seq (.seq (.reg [⟨some 11, none, .fa 1 (.t 2)⟩, ⟨some 12, none, .ld 1 false (.t 11)⟩, ⟨some 13, none, .fa 1 (.t 3)⟩, ⟨some 14, none, .ld 1 false (.t 13)⟩, ⟨some 15, none, .call 37 [(.t 12), (.t 14)]⟩, ⟨some 16, none, .un .not (.t 15)⟩]) (.cond (.t 16) (.seq (.reg [⟨some 4, none, .mv (.c (.bool false))⟩]) (.ret)) (.skip))) (.seq (.seq (.reg [⟨some 17, none, .fa 2 (.t 2)⟩, ⟨some 18, none, .ld 1 false (.t 17)⟩, ⟨some 19, none, .fa 2 (.t 3)⟩, ⟨some 20, none, .ld 1 false (.t 19)⟩, ⟨some 21, none, .bin .neq (.t 18) (.t 20)⟩]) (.cond (.t 21) (.seq (.reg [⟨some 4, none, .mv (.c (.bool false))⟩]) (.ret)) (.skip))) (.seq (.reg [⟨some 4, none, .mv (.c (.bool true))⟩]) (.ret)))))⟩
def K_laws_eqImage : Keeps := []
theorem r_laws_eqImage : resolveF Try.prog Try.f20 K_laws_eqImage = some F_laws_eqImage := by kernel_rfl
noncomputable def X_laws_eqImage : Ctx := Ctx.cons 37 G_laws_eqIntS (fun _ => none)
theorem co_laws_eqImage : CtxOk Try.prog X_laws_eqImage := CtxOk.cons (CtxOk.nil) ok_laws_eqIntS
theorem cx_laws_eqImage : ((∀ args hp, callX X_laws_eqImage 37 args hp = callS G_laws_eqIntS args hp) ∧ (trC (X_laws_eqImage 37) = false)) := ⟨fun _ _ => rfl, rfl⟩
noncomputable def S_laws_eqImage : ByV := ⟨none, false, semF X_laws_eqImage F_laws_eqImage none false⟩
noncomputable def G_laws_eqImage : CK := .byv S_laws_eqImage
theorem sg_laws_eqImage (args : List AV) : S_laws_eqImage.sem args = semF X_laws_eqImage F_laws_eqImage none false args := rfl
theorem cl_laws_eqImage (args : List AV) (hp : Hp) : callS G_laws_eqImage args hp = byvS S_laws_eqImage args hp := callS_byv rfl rfl args hp
theorem ok_laws_eqImage : InlOk Try.prog 20 (callS G_laws_eqImage) := byv_none co_laws_eqImage Try.func20 r_laws_eqImage rfl (fun _ _ h => h)
/- 30 laws_eqCore calls [laws_eqIntS]  -/
def F_laws_eqCore : RF := ⟨21, 2, [.t 4],
  .seq (.reg [⟨some 2, none, .box (.t 0)⟩, ⟨some 3, none, .box (.t 1)⟩, ⟨some 4, none, .mv (.c (.bool false))⟩]) (.seq (.seq (.reg [⟨some 5, none, .fa 0 (.t 2)⟩, ⟨some 6, none, .ld 1 false (.t 5)⟩, ⟨some 7, none, .fa 0 (.t 3)⟩, ⟨some 8, none, .ld 1 false (.t 7)⟩, ⟨some 9, none, .call 37 [(.t 6), (.t 8)]⟩, ⟨some 10, none, .un .not (.t 9)⟩]) (.cond (.t 10) (.seq (.reg [⟨some 4, none, .mv (.c (.bool false))⟩]) (.ret)) (.skip))) (.seq (.seq (.reg [⟨some 11, none, .fa 1 (.t 2)⟩, ⟨some 12, none, .ld 1 false (.t 11)⟩, ⟨some 13, none, .fa 1 (.t 3)⟩, ⟨some 14, none, .ld 1 false (.t 13)⟩, ⟨some 15, none, .bin .neq (.t 12) (.t 14)⟩]) (.cond (.t 15) (.seq (.reg [⟨some 4, none, .mv (.c (.bool false))⟩]) (.ret)) (.skip))) (.seq (.seq (.reg [⟨some 16, none, .fa 2 (.t 2)⟩, ⟨some 17, none, .ld 1 false (.t 16)⟩, ⟨some 18, none, .fa 2 (.t 3)⟩, ⟨some 19, none, .ld 1 false (.t 18)⟩, ⟨some 20, none, .bin .neq (.t 17) (.t 19)⟩]) (.cond (.t 20) (.seq (.reg [⟨some 4, none, .mv (.c (.bool false))⟩]) (.ret)) (.skip))) (.seq (.reg [⟨some 4, none, .mv (.c (.bool true))⟩]) (.ret)))))⟩
def K_laws_eqCore : Keeps := []
theorem r_laws_eqCore : resolveF Try.prog Try.f30 K_laws_eqCore = some F_laws_eqCore := by kernel_rfl
noncomputable def X_laws_eqCore : Ctx := Ctx.cons 37 G_laws_eqIntS (fun _ => none)
theorem co_laws_eqCore : CtxOk Try.prog X_laws_eqCore := CtxOk.cons (CtxOk.nil) ok_laws_eqIntS
theorem cx_laws_eqCore : ((∀ args hp, callX X_laws_eqCore 37 args hp = callS G_laws_eqIntS args hp) ∧ (trC (X_laws_eqCore 37) = false)) := ⟨fun _ _ => rfl, rfl⟩
noncomputable def S_laws_eqCore : ByV := ⟨none, false, semF X_laws_eqCore F_laws_eqCore none false⟩
noncomputable def G_laws_eqCore : CK := .byv S_laws_eqCore
theorem sg_laws_eqCore (args : List AV) : S_laws_eqCore.sem args = semF X_laws_eqCore F_laws_eqCore none false args := rfl
theorem cl_laws_eqCore (args : List AV) (hp : Hp) : callS G_laws_eqCore args hp = byvS S_laws_eqCore args hp := callS_byv rfl rfl args hp
theorem ok_laws_eqCore : InlOk Try.prog 30 (callS G_laws_eqCore) := byv_none co_laws_eqCore Try.func30 r_laws_eqCore rfl (fun _ _ h => h)
/- 65 laws_eqCoreS calls [laws_eqCore]  -/
def B0_laws_eqCoreS : RC :=
  .seq (.seq (.reg [⟨some 11, none, .mv (.t 5)⟩, ⟨some 12, none, .mv (.t 0)⟩, ⟨some 13, none, .len false (.t 12)⟩, ⟨some 14, none, .bin .lss (.t 11) (.t 13)⟩]) (.cond (.t 14) (.skip) (.exit 0))) (.seq (.block 1 (.seq (.regd [(0, ⟨some 17, none, .mv (.t 0)⟩), (0, ⟨some 18, none, .mv (.t 5)⟩), (1, ⟨some 19, none, .ia 3 (.t 17) (.t 18)⟩), (1, ⟨some 20, none, .ld 3 true (.t 19)⟩), (0, ⟨some 21, none, .mv (.t 1)⟩), (0, ⟨some 22, none, .mv (.t 5)⟩), (1, ⟨some 23, none, .ia 3 (.t 21) (.t 22)⟩), (1, ⟨some 24, none, .ld 3 true (.t 23)⟩), (1, ⟨some 25, none, .call 30 [(.t 20), (.t 24)]⟩), (0, ⟨some 26, none, .un .not (.t 25)⟩)] []) (.cond (.t 26) (.seq (.reg [⟨some 4, none, .mv (.c (.bool false))⟩]) (.ret)) (.skip)))) (.reg [⟨some 15, none, .mv (.t 5)⟩, ⟨some 16, none, .bin .add (.t 15) (.c (.int .i64 1))⟩, ⟨some 5, none, .mv (.t 16)⟩]))
def F_laws_eqCoreS : RF := ⟨27, 2, [.t 4],
  .seq (.reg [⟨some 4, none, .mv (.c (.bool false))⟩]) (.seq (.seq (.reg [⟨some 6, none, .mv (.t 0)⟩, ⟨some 7, none, .len false (.t 6)⟩, ⟨some 8, none, .mv (.t 1)⟩, ⟨some 9, none, .len false (.t 8)⟩, ⟨some 10, none, .bin .neq (.t 7) (.t 9)⟩]) (.cond (.t 10) (.seq (.reg [⟨some 4, none, .mv (.c (.bool false))⟩]) (.ret)) (.skip))) (.seq (.seq (.reg [⟨some 5, none, .mv (.c (.int .i64 0))⟩]) (.block 0 (.loop [0, 1, 5] [(1, []), (0, [4])] B0_laws_eqCoreS))) (.seq (.reg [⟨some 4, none, .mv (.c (.bool true))⟩]) (.ret))))⟩
def K_laws_eqCoreS : Keeps := [([0, 1, 5], [(1, []), (0, [4])])]
theorem r_laws_eqCoreS : resolveF Try.prog Try.f65 K_laws_eqCoreS = some F_laws_eqCoreS := by kernel_rfl
noncomputable def X_laws_eqCoreS : Ctx := Ctx.cons 30 G_laws_eqCore (fun _ => none)
theorem co_laws_eqCoreS : CtxOk Try.prog X_laws_eqCoreS := CtxOk.cons (CtxOk.nil) ok_laws_eqCore
theorem cx_laws_eqCoreS : ((∀ args hp, callX X_laws_eqCoreS 30 args hp = callS G_laws_eqCore args hp) ∧ (trC (X_laws_eqCoreS 30) = false)) := ⟨fun _ _ => rfl, rfl⟩
noncomputable def S_laws_eqCoreS : ByV := ⟨none, false, semF X_laws_eqCoreS F_laws_eqCoreS none false⟩
noncomputable def G_laws_eqCoreS : CK := .byv S_laws_eqCoreS
theorem sg_laws_eqCoreS (args : List AV) : S_laws_eqCoreS.sem args = semF X_laws_eqCoreS F_laws_eqCoreS none false args := rfl
theorem cl_laws_eqCoreS (args : List AV) (hp : Hp) : callS G_laws_eqCoreS args hp = byvS S_laws_eqCoreS args hp := callS_byv rfl rfl args hp
theorem ok_laws_eqCoreS : InlOk Try.prog 65 (callS G_laws_eqCoreS) := byv_none co_laws_eqCoreS Try.func65 r_laws_eqCoreS rfl (fun _ _ h => h)
/- 135 laws_eqGate calls [laws_eqIntS]  -/
def F_laws_eqGate : RF := ⟨22, 2, [.t 4],
  .seq (.reg [⟨some 2, none, .box (.t 0)⟩, ⟨some 3, none, .box (.t 1)⟩, ⟨some 4, none, .mv (.c (.bool false))⟩]) (.seq (.seq (.reg [⟨some 5, none, .fa 0 (.t 2)⟩, ⟨some 6, none, .ld 1 false (.t 5)⟩, ⟨some 7, none, .fa 0 (.t 3)⟩, ⟨some 8, none, .ld 1 false (.t 7)⟩, ⟨some 9, none, .bin .neq (.t 6) (.t 8)⟩]) (.cond (.t 9) (.seq (.reg [⟨some 4, none, .mv (.c (.bool false))⟩]) (.ret)) (.skip))) (.seq (.seq (.reg [⟨some 10, none, .fa 1 (.t 2)⟩, ⟨some 11, none, .ld 1 false (.t 10)⟩, ⟨some 12, none, .fa 1 (.t 3)⟩, ⟨some 13, none, .ld 1 false (.t 12)⟩, ⟨some 14, none, .call 37 [(.t 11), (.t 13)]⟩, ⟨some 15, none, .un .not (.t 14)⟩]) (.cond (.t 15) (.seq (.reg [⟨some 4, none, .mv (.c (.bool false))⟩]) (.ret)) (.skip))) (.seq (.seq (.reg [⟨some 16, none, .fa 2 (.t 2)⟩, ⟨some 17, none, .ld 1 false (.t 16)⟩, ⟨some 18, none, .fa 2 (.t 3)⟩, ⟨some 19, none, .ld 1 false (.t 18)⟩, ⟨some 20, none, .call 37 [(.t 17), (.t 19)]⟩, ⟨some 21, none, .un .not (.t 20)⟩]) (.cond (.t 21) (.seq (.reg [⟨some 4, none, .mv (.c (.bool false))⟩]) (.ret)) (.skip))) (.seq (.reg [⟨some 4, none, .mv (.c (.bool true))⟩]) (.ret)))))⟩
def K_laws_eqGate : Keeps := []
theorem r_laws_eqGate : resolveF Try.prog Try.f135 K_laws_eqGate = some F_laws_eqGate := by kernel_rfl
noncomputable def X_laws_eqGate : Ctx := Ctx.cons 37 G_laws_eqIntS (fun _ => none)
theorem co_laws_eqGate : CtxOk Try.prog X_laws_eqGate := CtxOk.cons (CtxOk.nil) ok_laws_eqIntS
theorem cx_laws_eqGate : ((∀ args hp, callX X_laws_eqGate 37 args hp = callS G_laws_eqIntS args hp) ∧ (trC (X_laws_eqGate 37) = false)) := ⟨fun _ _ => rfl, rfl⟩
noncomputable def S_laws_eqGate : ByV := ⟨none, false, semF X_laws_eqGate F_laws_eqGate none false⟩
noncomputable def G_laws_eqGate : CK := .byv S_laws_eqGate
theorem sg_laws_eqGate (args : List AV) : S_laws_eqGate.sem args = semF X_laws_eqGate F_laws_eqGate none false args := rfl
theorem cl_laws_eqGate (args : List AV) (hp : Hp) : callS G_laws_eqGate args hp = byvS S_laws_eqGate args hp := callS_byv rfl rfl args hp
theorem ok_laws_eqGate : InlOk Try.prog 135 (callS G_laws_eqGate) := byv_none co_laws_eqGate Try.func135 r_laws_eqGate rfl (fun _ _ h => h)
/- 82 laws_eqGateS calls [laws_eqGate]  -/
def B0_laws_eqGateS : RC :=
  .seq (.seq (.reg [⟨some 11, none, .mv (.t 5)⟩, ⟨some 12, none, .mv (.t 0)⟩, ⟨some 13, none, .len false (.t 12)⟩, ⟨some 14, none, .bin .lss (.t 11) (.t 13)⟩]) (.cond (.t 14) (.skip) (.exit 0))) (.seq (.block 1 (.seq (.regd [(0, ⟨some 17, none, .mv (.t 0)⟩), (0, ⟨some 18, none, .mv (.t 5)⟩), (1, ⟨some 19, none, .ia 3 (.t 17) (.t 18)⟩), (1, ⟨some 20, none, .ld 3 true (.t 19)⟩), (0, ⟨some 21, none, .mv (.t 1)⟩), (0, ⟨some 22, none, .mv (.t 5)⟩), (1, ⟨some 23, none, .ia 3 (.t 21) (.t 22)⟩), (1, ⟨some 24, none, .ld 3 true (.t 23)⟩), (1, ⟨some 25, none, .call 135 [(.t 20), (.t 24)]⟩), (0, ⟨some 26, none, .un .not (.t 25)⟩)] []) (.cond (.t 26) (.seq (.reg [⟨some 4, none, .mv (.c (.bool false))⟩]) (.ret)) (.skip)))) (.reg [⟨some 15, none, .mv (.t 5)⟩, ⟨some 16, none, .bin .add (.t 15) (.c (.int .i64 1))⟩, ⟨some 5, none, .mv (.t 16)⟩]))
def F_laws_eqGateS : RF := ⟨27, 2, [.t 4],
  .seq (.reg [⟨some 4, none, .mv (.c (.bool false))⟩]) (.seq (.seq (.reg [⟨some 6, none, .mv (.t 0)⟩, ⟨some 7, none, .len false (.t 6)⟩, ⟨some 8, none, .mv (.t 1)⟩, ⟨some 9, none, .len false (.t 8)⟩, ⟨some 10, none, .bin .neq (.t 7) (.t 9)⟩]) (.cond (.t 10) (.seq (.reg [⟨some 4, none, .mv (.c (.bool false))⟩]) (.ret)) (.skip))) (.seq (.seq (.reg [⟨some 5, none, .mv (.c (.int .i64 0))⟩]) (.block 0 (.loop [0, 1, 5] [(1, []), (0, [4])] B0_laws_eqGateS))) (.seq (.reg [⟨some 4, none, .mv (.c (.bool true))⟩]) (.ret))))⟩
def K_laws_eqGateS : Keeps := [([0, 1, 5], [(1, []), (0, [4])])]
theorem r_laws_eqGateS : resolveF Try.prog Try.f82 K_laws_eqGateS = some F_laws_eqGateS := by kernel_rfl
noncomputable def X_laws_eqGateS : Ctx := Ctx.cons 135 G_laws_eqGate (fun _ => none)
theorem co_laws_eqGateS : CtxOk Try.prog X_laws_eqGateS := CtxOk.cons (CtxOk.nil) ok_laws_eqGate
theorem cx_laws_eqGateS : ((∀ args hp, callX X_laws_eqGateS 135 args hp = callS G_laws_eqGate args hp) ∧ (trC (X_laws_eqGateS 135) = false)) := ⟨fun _ _ => rfl, rfl⟩
noncomputable def S_laws_eqGateS : ByV := ⟨none, false, semF X_laws_eqGateS F_laws_eqGateS none false⟩
noncomputable def G_laws_eqGateS : CK := .byv S_laws_eqGateS
theorem sg_laws_eqGateS (args : List AV) : S_laws_eqGateS.sem args = semF X_laws_eqGateS F_laws_eqGateS none false args := rfl
theorem cl_laws_eqGateS (args : List AV) (hp : Hp) : callS G_laws_eqGateS args hp = byvS S_laws_eqGateS args hp := callS_byv rfl rfl args hp
theorem ok_laws_eqGateS : InlOk Try.prog 82 (callS G_laws_eqGateS) := byv_none co_laws_eqGateS Try.func82 r_laws_eqGateS rfl (fun _ _ h => h)
/- 83 laws_eqBoolS calls []  -/
def B0_laws_eqBoolS : RC :=
  .seq (.seq (.reg [⟨some 11, none, .mv (.t 5)⟩, ⟨some 12, none, .mv (.t 0)⟩, ⟨some 13, none, .len false (.t 12)⟩, ⟨some 14, none, .bin .lss (.t 11) (.t 13)⟩]) (.cond (.t 14) (.skip) (.exit 0))) (.seq (.block 1 (.seq (.regd [(0, ⟨some 17, none, .mv (.t 0)⟩), (0, ⟨some 18, none, .mv (.t 5)⟩), (1, ⟨some 19, none, .ia 1 (.t 17) (.t 18)⟩), (1, ⟨some 20, none, .ld 1 false (.t 19)⟩), (0, ⟨some 21, none, .mv (.t 1)⟩), (0, ⟨some 22, none, .mv (.t 5)⟩), (1, ⟨some 23, none, .ia 1 (.t 21) (.t 22)⟩), (1, ⟨some 24, none, .ld 1 false (.t 23)⟩), (0, ⟨some 25, none, .bib .neq (.t 20) (.t 24)⟩)] []) (.cond (.t 25) (.seq (.reg [⟨some 4, none, .mv (.c (.bool false))⟩]) (.ret)) (.skip)))) (.reg [⟨some 15, none, .mv (.t 5)⟩, ⟨some 16, none, .bin .add (.t 15) (.c (.int .i64 1))⟩, ⟨some 5, none, .mv (.t 16)⟩]))
def F_laws_eqBoolS : RF := ⟨26, 2, [.t 4],
  .seq (.reg [⟨some 4, none, .mv (.c (.bool false))⟩]) (.seq (.seq (.reg [⟨some 6, none, .mv (.t 0)⟩, ⟨some 7, none, .len false (.t 6)⟩, ⟨some 8, none, .mv (.t 1)⟩, ⟨some 9, none, .len false (.t 8)⟩, ⟨some 10, none, .bin .neq (.t 7) (.t 9)⟩]) (.cond (.t 10) (.seq (.reg [⟨some 4, none, .mv (.c (.bool false))⟩]) (.ret)) (.skip))) (.seq (.seq (.reg [⟨some 5, none, .mv (.c (.int .i64 0))⟩]) (.block 0 (.loop [0, 1, 5] [(1, []), (0, [4])] B0_laws_eqBoolS))) (.seq (.reg [⟨some 4, none, .mv (.c (.bool true))⟩]) (.ret))))⟩
def K_laws_eqBoolS : Keeps := [([0, 1, 5], [(1, []), (0, [4])])]
theorem r_laws_eqBoolS : resolveF Try.prog Try.f83 K_laws_eqBoolS = some F_laws_eqBoolS := by kernel_rfl
noncomputable def X_laws_eqBoolS : Ctx := fun _ => none
theorem co_laws_eqBoolS : CtxOk Try.prog X_laws_eqBoolS := CtxOk.nil
theorem cx_laws_eqBoolS : True := trivial
noncomputable def S_laws_eqBoolS : ByV := ⟨none, false, semF X_laws_eqBoolS F_laws_eqBoolS none false⟩
noncomputable def G_laws_eqBoolS : CK := .byv S_laws_eqBoolS
theorem sg_laws_eqBoolS (args : List AV) : S_laws_eqBoolS.sem args = semF X_laws_eqBoolS F_laws_eqBoolS none false args := rfl
theorem cl_laws_eqBoolS (args : List AV) (hp : Hp) : callS G_laws_eqBoolS args hp = byvS S_laws_eqBoolS args hp := callS_byv rfl rfl args hp
theorem ok_laws_eqBoolS : InlOk Try.prog 83 (callS G_laws_eqBoolS) := byv_none co_laws_eqBoolS Try.func83 r_laws_eqBoolS rfl (fun _ _ h => h)
/- 29 laws_eqKernel calls [laws_eqGateS, laws_eqIntS, laws_eqCoreS, laws_eqBoolS]  -/
def F_laws_eqKernel : RF := ⟨29, 2, [.t 4],
  .seq (.reg [⟨some 2, none, .box (.t 0)⟩, ⟨some 3, none, .box (.t 1)⟩, ⟨some 4, none, .mv (.c (.bool false))⟩]) (.seq (.seq (.reg [⟨some 5, none, .fa 0 (.t 2)⟩, ⟨some 6, none, .ld 1 false (.t 5)⟩, ⟨some 7, none, .fa 0 (.t 3)⟩, ⟨some 8, none, .ld 1 false (.t 7)⟩, ⟨some 9, none, .call 82 [(.t 6), (.t 8)]⟩, ⟨some 10, none, .un .not (.t 9)⟩]) (.cond (.t 10) (.seq (.reg [⟨some 4, none, .mv (.c (.bool false))⟩]) (.ret)) (.skip))) (.seq (.seq (.reg [⟨some 11, none, .fa 1 (.t 2)⟩, ⟨some 12, none, .ld 1 false (.t 11)⟩, ⟨some 13, none, .fa 1 (.t 3)⟩, ⟨some 14, none, .ld 1 false (.t 13)⟩, ⟨some 15, none, .call 37 [(.t 12), (.t 14)]⟩, ⟨some 16, none, .un .not (.t 15)⟩]) (.cond (.t 16) (.seq (.reg [⟨some 4, none, .mv (.c (.bool false))⟩]) (.ret)) (.skip))) (.seq (.seq (.reg [⟨some 17, none, .fa 2 (.t 2)⟩, ⟨some 18, none, .ld 1 false (.t 17)⟩, ⟨some 19, none, .fa 2 (.t 3)⟩, ⟨some 20, none, .ld 1 false (.t 19)⟩, ⟨some 21, none, .call 65 [(.t 18), (.t 20)]⟩, ⟨some 22, none, .un .not (.t 21)⟩]) (.cond (.t 22) (.seq (.reg [⟨some 4, none, .mv (.c (.bool false))⟩]) (.ret)) (.skip))) (.seq (.seq (.reg [⟨some 23, none, .fa 3 (.t 2)⟩, ⟨some 24, none, .ld 1 false (.t 23)⟩, ⟨some 25, none, .fa 3 (.t 3)⟩, ⟨some 26, none, .ld 1 false (.t 25)⟩, ⟨some 27, none, .call 83 [(.t 24), (.t 26)]⟩, ⟨some 28, none, .un .not (.t 27)⟩]) (.cond (.t 28) (.seq (.reg [⟨some 4, none, .mv (.c (.bool false))⟩]) (.ret)) (.skip))) (.seq (.reg [⟨some 4, none, .mv (.c (.bool true))⟩]) (.ret))))))⟩
def K_laws_eqKernel : Keeps := []
theorem r_laws_eqKernel : resolveF Try.prog Try.f29 K_laws_eqKernel = some F_laws_eqKernel := by kernel_rfl
noncomputable def X_laws_eqKernel : Ctx := Ctx.cons 82 G_laws_eqGateS (Ctx.cons 37 G_laws_eqIntS (Ctx.cons 65 G_laws_eqCoreS (Ctx.cons 83 G_laws_eqBoolS (fun _ => none))))
theorem co_laws_eqKernel : CtxOk Try.prog X_laws_eqKernel := CtxOk.cons (CtxOk.cons (CtxOk.cons (CtxOk.cons (CtxOk.nil) ok_laws_eqBoolS) ok_laws_eqCoreS) ok_laws_eqIntS) ok_laws_eqGateS
theorem cx_laws_eqKernel : ((∀ args hp, callX X_laws_eqKernel 82 args hp = callS G_laws_eqGateS args hp) ∧ (trC (X_laws_eqKernel 82) = false)) ∧ ((∀ args hp, callX X_laws_eqKernel 37 args hp = callS G_laws_eqIntS args hp) ∧ (trC (X_laws_eqKernel 37) = false)) ∧ ((∀ args hp, callX X_laws_eqKernel 65 args hp = callS G_laws_eqCoreS args hp) ∧ (trC (X_laws_eqKernel 65) = false)) ∧ ((∀ args hp, callX X_laws_eqKernel 83 args hp = callS G_laws_eqBoolS args hp) ∧ (trC (X_laws_eqKernel 83) = false)) := ⟨⟨fun _ _ => rfl, rfl⟩, ⟨fun _ _ => rfl, rfl⟩, ⟨fun _ _ => rfl, rfl⟩, ⟨fun _ _ => rfl, rfl⟩⟩
noncomputable def S_laws_eqKernel : ByV := ⟨none, false, semF X_laws_eqKernel F_laws_eqKernel none false⟩
noncomputable def G_laws_eqKernel : CK := .byv S_laws_eqKernel
theorem sg_laws_eqKernel (args : List AV) : S_laws_eqKernel.sem args = semF X_laws_eqKernel F_laws_eqKernel none false args := rfl
theorem cl_laws_eqKernel (args : List AV) (hp : Hp) : callS G_laws_eqKernel args hp = byvS S_laws_eqKernel args hp := callS_byv rfl rfl args hp
theorem ok_laws_eqKernel : InlOk Try.prog 29 (callS G_laws_eqKernel) := byv_none co_laws_eqKernel Try.func29 r_laws_eqKernel rfl (fun _ _ h => h)
/- 120 laws_eqEvent calls []  -/
def F_laws_eqEvent : RF := ⟨20, 2, [.t 4],
  .seq (.reg [⟨some 2, none, .box (.t 0)⟩, ⟨some 3, none, .box (.t 1)⟩, ⟨some 4, none, .mv (.c (.bool false))⟩]) (.seq (.seq (.reg [⟨some 5, none, .fa 0 (.t 2)⟩, ⟨some 6, none, .ld 1 false (.t 5)⟩, ⟨some 7, none, .fa 0 (.t 3)⟩, ⟨some 8, none, .ld 1 false (.t 7)⟩, ⟨some 9, none, .bin .neq (.t 6) (.t 8)⟩]) (.cond (.t 9) (.seq (.reg [⟨some 4, none, .mv (.c (.bool false))⟩]) (.ret)) (.skip))) (.seq (.seq (.reg [⟨some 10, none, .fa 1 (.t 2)⟩, ⟨some 11, none, .ld 1 false (.t 10)⟩, ⟨some 12, none, .fa 1 (.t 3)⟩, ⟨some 13, none, .ld 1 false (.t 12)⟩, ⟨some 14, none, .bin .neq (.t 11) (.t 13)⟩]) (.cond (.t 14) (.seq (.reg [⟨some 4, none, .mv (.c (.bool false))⟩]) (.ret)) (.skip))) (.seq (.seq (.reg [⟨some 15, none, .fa 2 (.t 2)⟩, ⟨some 16, none, .ld 1 false (.t 15)⟩, ⟨some 17, none, .fa 2 (.t 3)⟩, ⟨some 18, none, .ld 1 false (.t 17)⟩, ⟨some 19, none, .bin .neq (.t 16) (.t 18)⟩]) (.cond (.t 19) (.seq (.reg [⟨some 4, none, .mv (.c (.bool false))⟩]) (.ret)) (.skip))) (.seq (.reg [⟨some 4, none, .mv (.c (.bool true))⟩]) (.ret)))))⟩
def K_laws_eqEvent : Keeps := []
theorem r_laws_eqEvent : resolveF Try.prog Try.f120 K_laws_eqEvent = some F_laws_eqEvent := by kernel_rfl
noncomputable def X_laws_eqEvent : Ctx := fun _ => none
theorem co_laws_eqEvent : CtxOk Try.prog X_laws_eqEvent := CtxOk.nil
theorem cx_laws_eqEvent : True := trivial
noncomputable def S_laws_eqEvent : ByV := ⟨none, false, semF X_laws_eqEvent F_laws_eqEvent none false⟩
noncomputable def G_laws_eqEvent : CK := .byv S_laws_eqEvent
theorem sg_laws_eqEvent (args : List AV) : S_laws_eqEvent.sem args = semF X_laws_eqEvent F_laws_eqEvent none false args := rfl
theorem cl_laws_eqEvent (args : List AV) (hp : Hp) : callS G_laws_eqEvent args hp = byvS S_laws_eqEvent args hp := callS_byv rfl rfl args hp
theorem ok_laws_eqEvent : InlOk Try.prog 120 (callS G_laws_eqEvent) := byv_none co_laws_eqEvent Try.func120 r_laws_eqEvent rfl (fun _ _ h => h)
/- 66 laws_eqEventS calls [laws_eqEvent]  -/
def B0_laws_eqEventS : RC :=
  .seq (.seq (.reg [⟨some 11, none, .mv (.t 5)⟩, ⟨some 12, none, .mv (.t 0)⟩, ⟨some 13, none, .len false (.t 12)⟩, ⟨some 14, none, .bin .lss (.t 11) (.t 13)⟩]) (.cond (.t 14) (.skip) (.exit 0))) (.seq (.block 1 (.seq (.regd [(0, ⟨some 17, none, .mv (.t 0)⟩), (0, ⟨some 18, none, .mv (.t 5)⟩), (1, ⟨some 19, none, .ia 3 (.t 17) (.t 18)⟩), (1, ⟨some 20, none, .ld 3 true (.t 19)⟩), (0, ⟨some 21, none, .mv (.t 1)⟩), (0, ⟨some 22, none, .mv (.t 5)⟩), (1, ⟨some 23, none, .ia 3 (.t 21) (.t 22)⟩), (1, ⟨some 24, none, .ld 3 true (.t 23)⟩), (1, ⟨some 25, none, .call 120 [(.t 20), (.t 24)]⟩), (0, ⟨some 26, none, .un .not (.t 25)⟩)] []) (.cond (.t 26) (.seq (.reg [⟨some 4, none, .mv (.c (.bool false))⟩]) (.ret)) (.skip)))) (.reg [⟨some 15, none, .mv (.t 5)⟩, ⟨some 16, none, .bin .add (.t 15) (.c (.int .i64 1))⟩, ⟨some 5, none, .mv (.t 16)⟩]))
def F_laws_eqEventS : RF := ⟨27, 2, [.t 4],
  .seq (.reg [⟨some 4, none, .mv (.c (.bool false))⟩]) (.seq (.seq (.reg [⟨some 6, none, .mv (.t 0)⟩, ⟨some 7, none, .len false (.t 6)⟩, ⟨some 8, none, .mv (.t 1)⟩, ⟨some 9, none, .len false (.t 8)⟩, ⟨some 10, none, .bin .neq (.t 7) (.t 9)⟩]) (.cond (.t 10) (.seq (.reg [⟨some 4, none, .mv (.c (.bool false))⟩]) (.ret)) (.skip))) (.seq (.seq (.reg [⟨some 5, none, .mv (.c (.int .i64 0))⟩]) (.block 0 (.loop [0, 1, 5] [(1, []), (0, [4])] B0_laws_eqEventS))) (.seq (.reg [⟨some 4, none, .mv (.c (.bool true))⟩]) (.ret))))⟩
def K_laws_eqEventS : Keeps := [([0, 1, 5], [(1, []), (0, [4])])]
theorem r_laws_eqEventS : resolveF Try.prog Try.f66 K_laws_eqEventS = some F_laws_eqEventS := by kernel_rfl
noncomputable def X_laws_eqEventS : Ctx := Ctx.cons 120 G_laws_eqEvent (fun _ => none)
theorem co_laws_eqEventS : CtxOk Try.prog X_laws_eqEventS := CtxOk.cons (CtxOk.nil) ok_laws_eqEvent
theorem cx_laws_eqEventS : ((∀ args hp, callX X_laws_eqEventS 120 args hp = callS G_laws_eqEvent args hp) ∧ (trC (X_laws_eqEventS 120) = false)) := ⟨fun _ _ => rfl, rfl⟩
noncomputable def S_laws_eqEventS : ByV := ⟨none, false, semF X_laws_eqEventS F_laws_eqEventS none false⟩
noncomputable def G_laws_eqEventS : CK := .byv S_laws_eqEventS
theorem sg_laws_eqEventS (args : List AV) : S_laws_eqEventS.sem args = semF X_laws_eqEventS F_laws_eqEventS none false args := rfl
theorem cl_laws_eqEventS (args : List AV) (hp : Hp) : callS G_laws_eqEventS args hp = byvS S_laws_eqEventS args hp := callS_byv rfl rfl args hp
theorem ok_laws_eqEventS : InlOk Try.prog 66 (callS G_laws_eqEventS) := byv_none co_laws_eqEventS Try.func66 r_laws_eqEventS rfl (fun _ _ h => h)
/- 17 laws_eqMachine calls [laws_eqImage, laws_eqIntS, laws_eqCoreS, laws_eqKernel, laws_eqEventS]  -/
def F_laws_eqMachine : RF := ⟨46, 2, [.t 4],
  .seq (.reg [⟨some 2, none, .box (.t 0)⟩, ⟨some 3, none, .box (.t 1)⟩, ⟨some 4, none, .mv (.c (.bool false))⟩]) (.seq (.seq (.reg [⟨some 5, none, .fa 0 (.t 2)⟩, ⟨some 6, none, .ld 3 true (.t 5)⟩, ⟨some 7, none, .fa 0 (.t 3)⟩, ⟨some 8, none, .ld 3 true (.t 7)⟩, ⟨some 9, none, .call 20 [(.t 6), (.t 8)]⟩, ⟨some 10, none, .un .not (.t 9)⟩]) (.cond (.t 10) (.seq (.reg [⟨some 4, none, .mv (.c (.bool false))⟩]) (.ret)) (.skip))) (.seq (.seq (.reg [⟨some 11, none, .fa 3 (.t 2)⟩, ⟨some 12, none, .ld 1 false (.t 11)⟩, ⟨some 13, none, .fa 3 (.t 3)⟩, ⟨some 14, none, .ld 1 false (.t 13)⟩, ⟨some 15, none, .call 37 [(.t 12), (.t 14)]⟩, ⟨some 16, none, .un .not (.t 15)⟩]) (.cond (.t 16) (.seq (.reg [⟨some 4, none, .mv (.c (.bool false))⟩]) (.ret)) (.skip))) (.seq (.seq (.reg [⟨some 17, none, .fa 4 (.t 2)⟩, ⟨some 18, none, .ld 1 false (.t 17)⟩, ⟨some 19, none, .fa 4 (.t 3)⟩, ⟨some 20, none, .ld 1 false (.t 19)⟩, ⟨some 21, none, .call 65 [(.t 18), (.t 20)]⟩, ⟨some 22, none, .un .not (.t 21)⟩]) (.cond (.t 22) (.seq (.reg [⟨some 4, none, .mv (.c (.bool false))⟩]) (.ret)) (.skip))) (.seq (.seq (.reg [⟨some 23, none, .fa 5 (.t 2)⟩, ⟨some 24, none, .ld 4 true (.t 23)⟩, ⟨some 25, none, .fa 5 (.t 3)⟩, ⟨some 26, none, .ld 4 true (.t 25)⟩, ⟨some 27, none, .call 29 [(.t 24), (.t 26)]⟩, ⟨some 28, none, .un .not (.t 27)⟩]) (.cond (.t 28) (.seq (.reg [⟨some 4, none, .mv (.c (.bool false))⟩]) (.ret)) (.skip))) (.seq (.seq (.reg [⟨some 29, none, .fa 9 (.t 2)⟩, ⟨some 30, none, .ld 1 false (.t 29)⟩, ⟨some 31, none, .fa 9 (.t 3)⟩, ⟨some 32, none, .ld 1 false (.t 31)⟩, ⟨some 33, none, .call 37 [(.t 30), (.t 32)]⟩, ⟨some 34, none, .un .not (.t 33)⟩]) (.cond (.t 34) (.seq (.reg [⟨some 4, none, .mv (.c (.bool false))⟩]) (.ret)) (.skip))) (.seq (.seq (.reg [⟨some 35, none, .fa 10 (.t 2)⟩, ⟨some 36, none, .ld 1 false (.t 35)⟩, ⟨some 37, none, .fa 10 (.t 3)⟩, ⟨some 38, none, .ld 1 false (.t 37)⟩, ⟨some 39, none, .call 66 [(.t 36), (.t 38)]⟩, ⟨some 40, none, .un .not (.t 39)⟩]) (.cond (.t 40) (.seq (.reg [⟨some 4, none, .mv (.c (.bool false))⟩]) (.ret)) (.skip))) (.seq (.seq (.reg [⟨some 41, none, .fa 11 (.t 2)⟩, ⟨some 42, none, .ld 1 false (.t 41)⟩, ⟨some 43, none, .fa 11 (.t 3)⟩, ⟨some 44, none, .ld 1 false (.t 43)⟩, ⟨some 45, none, .bib .neq (.t 42) (.t 44)⟩]) (.cond (.t 45) (.seq (.reg [⟨some 4, none, .mv (.c (.bool false))⟩]) (.ret)) (.skip))) (.seq (.reg [⟨some 4, none, .mv (.c (.bool true))⟩]) (.ret)))))))))⟩
def K_laws_eqMachine : Keeps := []
theorem r_laws_eqMachine : resolveF Try.prog Try.f17 K_laws_eqMachine = some F_laws_eqMachine := by kernel_rfl
noncomputable def X_laws_eqMachine : Ctx := Ctx.cons 20 G_laws_eqImage (Ctx.cons 37 G_laws_eqIntS (Ctx.cons 65 G_laws_eqCoreS (Ctx.cons 29 G_laws_eqKernel (Ctx.cons 66 G_laws_eqEventS (fun _ => none)))))
theorem co_laws_eqMachine : CtxOk Try.prog X_laws_eqMachine := CtxOk.cons (CtxOk.cons (CtxOk.cons (CtxOk.cons (CtxOk.cons (CtxOk.nil) ok_laws_eqEventS) ok_laws_eqKernel) ok_laws_eqCoreS) ok_laws_eqIntS) ok_laws_eqImage
theorem cx_laws_eqMachine : ((∀ args hp, callX X_laws_eqMachine 20 args hp = callS G_laws_eqImage args hp) ∧ (trC (X_laws_eqMachine 20) = false)) ∧ ((∀ args hp, callX X_laws_eqMachine 37 args hp = callS G_laws_eqIntS args hp) ∧ (trC (X_laws_eqMachine 37) = false)) ∧ ((∀ args hp, callX X_laws_eqMachine 65 args hp = callS G_laws_eqCoreS args hp) ∧ (trC (X_laws_eqMachine 65) = false)) ∧ ((∀ args hp, callX X_laws_eqMachine 29 args hp = callS G_laws_eqKernel args hp) ∧ (trC (X_laws_eqMachine 29) = false)) ∧ ((∀ args hp, callX X_laws_eqMachine 66 args hp = callS G_laws_eqEventS args hp) ∧ (trC (X_laws_eqMachine 66) = false)) := ⟨⟨fun _ _ => rfl, rfl⟩, ⟨fun _ _ => rfl, rfl⟩, ⟨fun _ _ => rfl, rfl⟩, ⟨fun _ _ => rfl, rfl⟩, ⟨fun _ _ => rfl, rfl⟩⟩
noncomputable def S_laws_eqMachine : ByV := ⟨none, false, semF X_laws_eqMachine F_laws_eqMachine none false⟩
noncomputable def G_laws_eqMachine : CK := .byv S_laws_eqMachine
theorem sg_laws_eqMachine (args : List AV) : S_laws_eqMachine.sem args = semF X_laws_eqMachine F_laws_eqMachine none false args := rfl
theorem cl_laws_eqMachine (args : List AV) (hp : Hp) : callS G_laws_eqMachine args hp = byvS S_laws_eqMachine args hp := callS_byv rfl rfl args hp
theorem ok_laws_eqMachine : InlOk Try.prog 17 (callS G_laws_eqMachine) := byv_none co_laws_eqMachine Try.func17 r_laws_eqMachine rfl (fun _ _ h => h)
/- 11 laws_FnExactMachineVerdict calls [laws_szMachine, laws_toMachine, spec_MachineVerdict, impl_MachineVerdict, laws_eqMachine]  -/
def F_laws_FnExactMachineVerdict : RF := ⟨27, 1, [.t 2],
  .seq (.reg [⟨some 1, none, .box (.t 0)⟩, ⟨some 2, none, .mv (.c (.bool false))⟩]) (.seq (.reg [⟨some 3, none, .mv (.c (.int .i64 1048576))⟩]) (.seq (.reg [⟨some 7, none, .ld 12 true (.t 1)⟩, ⟨some 8, none, .mv (.t 3)⟩, ⟨some 9, none, .call 13 [(.t 7), (.t 8)]⟩, ⟨some 3, none, .mv (.t 9)⟩]) (.seq (.seq (.reg [⟨some 10, none, .mv (.t 3)⟩, ⟨some 11, none, .bin .lss (.t 10) (.c (.int .i64 0))⟩]) (.cond (.t 11) (.seq (.reg [⟨some 2, none, .mv (.c (.bool true))⟩]) (.ret)) (.skip))) (.seq (.reg [⟨some 12, none, .ld 12 true (.t 1)⟩, ⟨some 13, none, .call 15 [(.t 12)]⟩, ⟨some 14, none, .call 52 [(.t 13)]⟩, ⟨some 4, none, .mv (.t 14)⟩]) (.seq (.reg [⟨some 15, none, .ld 12 true (.t 1)⟩, ⟨some 16, none, .call 15 [(.t 15)]⟩, ⟨some 5, none, .new [(.nil 1), (.nil 1), (.int .i64 0), (.nil 1), (.nil 3), (.nil 3), (.nil 1), (.nil 3), (.nil 1), (.nil 1), (.nil 3), (.bool false)]⟩, ⟨none, none, .st 12 (.t 5) (.t 16)⟩]) (.seq (.reg [⟨some 17, none, .ld 12 true (.t 5)⟩, ⟨some 18, none, .call 53 [(.t 17)]⟩, ⟨some 6, none, .mv (.t 18)⟩]) (.seq (.seq (.reg [⟨some 19, none, .mv (.t 6)⟩, ⟨some 20, none, .mv (.t 4)⟩, ⟨some 21, none, .bin .neq (.t 19) (.t 20)⟩]) (.cond (.t 21) (.seq (.reg [⟨some 2, none, .mv (.c (.bool false))⟩]) (.ret)) (.skip))) (.seq (.seq (.regd [(2, ⟨some 22, none, .ld 12 true (.t 5)⟩), (1, ⟨some 23, none, .ld 12 true (.t 1)⟩), (2, ⟨some 24, none, .call 15 [(.t 23)]⟩), (1, ⟨some 25, none, .call 17 [(.t 22), (.t 24)]⟩), (0, ⟨some 26, none, .un .not (.t 25)⟩)] [(0, 2)]) (.cond (.t 26) (.seq (.reg [⟨some 2, none, .mv (.c (.bool false))⟩]) (.ret)) (.skip))) (.seq (.reg [⟨some 2, none, .mv (.c (.bool true))⟩]) (.ret))))))))))⟩
def K_laws_FnExactMachineVerdict : Keeps := []
theorem r_laws_FnExactMachineVerdict : resolveF Try.prog Try.f11 K_laws_FnExactMachineVerdict = some F_laws_FnExactMachineVerdict := by kernel_rfl
noncomputable def X_laws_FnExactMachineVerdict : Ctx := Ctx.cons 13 G_laws_szMachine (Ctx.cons 15 G_laws_toMachine (Ctx.cons 52 G_spec_MachineVerdict (Ctx.cons 53 G_impl_MachineVerdict (Ctx.cons 17 G_laws_eqMachine (fun _ => none)))))
theorem co_laws_FnExactMachineVerdict : CtxOk Try.prog X_laws_FnExactMachineVerdict := CtxOk.cons (CtxOk.cons (CtxOk.cons (CtxOk.cons (CtxOk.cons (CtxOk.nil) ok_laws_eqMachine) ok_impl_MachineVerdict) ok_spec_MachineVerdict) ok_laws_toMachine) ok_laws_szMachine
theorem cx_laws_FnExactMachineVerdict : ((∀ args hp, callX X_laws_FnExactMachineVerdict 13 args hp = callS G_laws_szMachine args hp) ∧ (trC (X_laws_FnExactMachineVerdict 13) = false)) ∧ ((∀ args hp, callX X_laws_FnExactMachineVerdict 15 args hp = callS G_laws_toMachine args hp) ∧ (trC (X_laws_FnExactMachineVerdict 15) = false)) ∧ ((∀ args hp, callX X_laws_FnExactMachineVerdict 52 args hp = callS G_spec_MachineVerdict args hp) ∧ (trC (X_laws_FnExactMachineVerdict 52) = false)) ∧ ((∀ args hp, callX X_laws_FnExactMachineVerdict 53 args hp = callS G_impl_MachineVerdict args hp) ∧ (trC (X_laws_FnExactMachineVerdict 53) = false)) ∧ ((∀ args hp, callX X_laws_FnExactMachineVerdict 17 args hp = callS G_laws_eqMachine args hp) ∧ (trC (X_laws_FnExactMachineVerdict 17) = false)) := ⟨⟨fun _ _ => rfl, rfl⟩, ⟨fun _ _ => rfl, rfl⟩, ⟨fun _ _ => rfl, rfl⟩, ⟨fun _ _ => rfl, rfl⟩, ⟨fun _ _ => rfl, rfl⟩⟩
end Go.Proofs.Ythdbglhdadinkaa.AI
