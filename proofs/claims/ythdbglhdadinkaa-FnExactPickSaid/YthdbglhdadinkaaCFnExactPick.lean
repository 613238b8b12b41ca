/- The functions that the law FnExactPick reaches, in the reckoner's words. -/
import Derived.Test.YthdbglhdadinkaaAOpen2
import Derived.Test.YthdbglhdadinkaaChecked
import Derived.ProofKit
namespace Go.Proofs.Ythdbglhdadinkaa.AI
open Go.Proofs
set_option linter.all false
set_option maxRecDepth 100000
/- 57 laws_szIntS calls []  -/
def F_laws_szIntS : RF := ⟨12, 2, [.t 4],
  .seq (.reg [⟨some 4, none, .mv (.c (.int .i64 0))⟩]) (.seq (.reg [⟨some 5, none, .mv (.t 1)⟩, ⟨some 6, none, .mv (.t 0)⟩, ⟨some 7, none, .len false (.t 6)⟩, ⟨some 8, none, .bin .sub (.t 5) (.t 7)⟩, ⟨some 1, none, .mv (.t 8)⟩]) (.seq (.seq (.reg [⟨some 9, none, .mv (.t 1)⟩, ⟨some 10, none, .bin .lss (.t 9) (.c (.int .i64 0))⟩]) (.cond (.t 10) (.seq (.reg [⟨some 4, none, .mv (.c (.int .i64 (-1)))⟩]) (.ret)) (.skip))) (.seq (.reg [⟨some 11, none, .mv (.t 1)⟩, ⟨some 4, none, .mv (.t 11)⟩]) (.ret))))⟩
def K_laws_szIntS : Keeps := []
theorem r_laws_szIntS : resolveF Try.prog Try.f57 K_laws_szIntS = some F_laws_szIntS := by kernel_rfl
noncomputable def X_laws_szIntS : Ctx := fun _ => none
theorem co_laws_szIntS : CtxOk Try.prog X_laws_szIntS := CtxOk.nil
theorem cx_laws_szIntS : True := trivial
noncomputable def S_laws_szIntS : ByV := ⟨none, false, semF X_laws_szIntS F_laws_szIntS none false⟩
noncomputable def G_laws_szIntS : CK := .byv S_laws_szIntS
theorem sg_laws_szIntS (args : List AV) : S_laws_szIntS.sem args = semF X_laws_szIntS F_laws_szIntS none false args := rfl
theorem cl_laws_szIntS (args : List AV) (hp : Hp) : callS G_laws_szIntS args hp = byvS S_laws_szIntS args hp := callS_byv rfl rfl args hp
theorem ok_laws_szIntS : InlOk Try.prog 57 (callS G_laws_szIntS) := byv_none co_laws_szIntS Try.func57 r_laws_szIntS rfl (fun _ _ h => h)
/- 131 laws_szGate calls [laws_szIntS]  -/
def F_laws_szGate : RF := ⟨18, 2, [.t 4],
  .seq (.reg [⟨some 2, none, .box (.t 0)⟩, ⟨some 4, none, .mv (.c (.int .i64 0))⟩]) (.seq (.reg [⟨some 5, none, .fa 1 (.t 2)⟩, ⟨some 6, none, .ld 1 false (.t 5)⟩, ⟨some 7, none, .mv (.t 1)⟩, ⟨some 8, none, .call 57 [(.t 6), (.t 7)]⟩, ⟨some 1, none, .mv (.t 8)⟩]) (.seq (.seq (.reg [⟨some 9, none, .mv (.t 1)⟩, ⟨some 10, none, .bin .lss (.t 9) (.c (.int .i64 0))⟩]) (.cond (.t 10) (.seq (.reg [⟨some 4, none, .mv (.c (.int .i64 (-1)))⟩]) (.ret)) (.skip))) (.seq (.reg [⟨some 11, none, .fa 2 (.t 2)⟩, ⟨some 12, none, .ld 1 false (.t 11)⟩, ⟨some 13, none, .mv (.t 1)⟩, ⟨some 14, none, .call 57 [(.t 12), (.t 13)]⟩, ⟨some 1, none, .mv (.t 14)⟩]) (.seq (.seq (.reg [⟨some 15, none, .mv (.t 1)⟩, ⟨some 16, none, .bin .lss (.t 15) (.c (.int .i64 0))⟩]) (.cond (.t 16) (.seq (.reg [⟨some 4, none, .mv (.c (.int .i64 (-1)))⟩]) (.ret)) (.skip))) (.seq (.reg [⟨some 17, none, .mv (.t 1)⟩, ⟨some 4, none, .mv (.t 17)⟩]) (.ret))))))⟩
def K_laws_szGate : Keeps := []
theorem r_laws_szGate : resolveF Try.prog Try.f131 K_laws_szGate = some F_laws_szGate := by kernel_rfl
noncomputable def X_laws_szGate : Ctx := Ctx.cons 57 G_laws_szIntS (fun _ => none)
theorem co_laws_szGate : CtxOk Try.prog X_laws_szGate := CtxOk.cons (CtxOk.nil) ok_laws_szIntS
theorem cx_laws_szGate : ((∀ args hp, callX X_laws_szGate 57 args hp = callS G_laws_szIntS args hp) ∧ (trC (X_laws_szGate 57) = false)) := ⟨fun _ _ => rfl, rfl⟩
noncomputable def S_laws_szGate : ByV := ⟨none, false, semF X_laws_szGate F_laws_szGate none false⟩
noncomputable def G_laws_szGate : CK := .byv S_laws_szGate
theorem sg_laws_szGate (args : List AV) : S_laws_szGate.sem args = semF X_laws_szGate F_laws_szGate none false args := rfl
theorem cl_laws_szGate (args : List AV) (hp : Hp) : callS G_laws_szGate args hp = byvS S_laws_szGate args hp := callS_byv rfl rfl args hp
theorem ok_laws_szGate : InlOk Try.prog 131 (callS G_laws_szGate) := byv_none co_laws_szGate Try.func131 r_laws_szGate rfl (fun _ _ h => h)
/- 73 laws_szGateS calls [laws_szGate]  -/
def B0_laws_szGateS : RC :=
  .seq (.seq (.reg [⟨some 12, none, .mv (.t 5)⟩, ⟨some 13, none, .mv (.t 0)⟩, ⟨some 14, none, .len false (.t 13)⟩, ⟨some 15, none, .bin .lss (.t 12) (.t 14)⟩]) (.cond (.t 15) (.skip) (.exit 0))) (.seq (.block 1 (.seq (.reg [⟨some 18, none, .mv (.t 0)⟩, ⟨some 19, none, .mv (.t 5)⟩, ⟨some 20, none, .ia 3 (.t 18) (.t 19)⟩, ⟨some 21, none, .ld 3 true (.t 20)⟩, ⟨some 22, none, .mv (.t 1)⟩, ⟨some 23, none, .call 131 [(.t 21), (.t 22)]⟩, ⟨some 1, none, .mv (.t 23)⟩]) (.seq (.reg [⟨some 24, none, .mv (.t 1)⟩, ⟨some 25, none, .bin .lss (.t 24) (.c (.int .i64 0))⟩]) (.cond (.t 25) (.seq (.reg [⟨some 4, none, .mv (.c (.int .i64 (-1)))⟩]) (.ret)) (.skip))))) (.reg [⟨some 16, none, .mv (.t 5)⟩, ⟨some 17, none, .bin .add (.t 16) (.c (.int .i64 1))⟩, ⟨some 5, none, .mv (.t 17)⟩]))
def F_laws_szGateS : RF := ⟨27, 2, [.t 4],
  .seq (.reg [⟨some 4, none, .mv (.c (.int .i64 0))⟩]) (.seq (.reg [⟨some 6, none, .mv (.t 1)⟩, ⟨some 7, none, .mv (.t 0)⟩, ⟨some 8, none, .len false (.t 7)⟩, ⟨some 9, none, .bin .sub (.t 6) (.t 8)⟩, ⟨some 1, none, .mv (.t 9)⟩]) (.seq (.seq (.reg [⟨some 10, none, .mv (.t 1)⟩, ⟨some 11, none, .bin .lss (.t 10) (.c (.int .i64 0))⟩]) (.cond (.t 11) (.seq (.reg [⟨some 4, none, .mv (.c (.int .i64 (-1)))⟩]) (.ret)) (.skip))) (.seq (.seq (.reg [⟨some 5, none, .mv (.c (.int .i64 0))⟩]) (.block 0 (.loop [0, 1, 5] [(1, [1]), (0, [4])] B0_laws_szGateS))) (.seq (.reg [⟨some 26, none, .mv (.t 1)⟩, ⟨some 4, none, .mv (.t 26)⟩]) (.ret)))))⟩
def K_laws_szGateS : Keeps := [([0, 1, 5], [(1, [1]), (0, [4])])]
theorem r_laws_szGateS : resolveF Try.prog Try.f73 K_laws_szGateS = some F_laws_szGateS := by kernel_rfl
noncomputable def X_laws_szGateS : Ctx := Ctx.cons 131 G_laws_szGate (fun _ => none)
theorem co_laws_szGateS : CtxOk Try.prog X_laws_szGateS := CtxOk.cons (CtxOk.nil) ok_laws_szGate
theorem cx_laws_szGateS : ((∀ args hp, callX X_laws_szGateS 131 args hp = callS G_laws_szGate args hp) ∧ (trC (X_laws_szGateS 131) = false)) := ⟨fun _ _ => rfl, rfl⟩
noncomputable def S_laws_szGateS : ByV := ⟨none, false, semF X_laws_szGateS F_laws_szGateS none false⟩
noncomputable def G_laws_szGateS : CK := .byv S_laws_szGateS
theorem sg_laws_szGateS (args : List AV) : S_laws_szGateS.sem args = semF X_laws_szGateS F_laws_szGateS none false args := rfl
theorem cl_laws_szGateS (args : List AV) (hp : Hp) : callS G_laws_szGateS args hp = byvS S_laws_szGateS args hp := callS_byv rfl rfl args hp
theorem ok_laws_szGateS : InlOk Try.prog 73 (callS G_laws_szGateS) := byv_none co_laws_szGateS Try.func73 r_laws_szGateS rfl (fun _ _ h => h)
/- 24 laws_szCore calls [laws_szIntS]  -/
def F_laws_szCore : RF := ⟨12, 2, [.t 4],
  .seq (.reg [⟨some 2, none, .box (.t 0)⟩, ⟨some 4, none, .mv (.c (.int .i64 0))⟩]) (.seq (.reg [⟨some 5, none, .fa 0 (.t 2)⟩, ⟨some 6, none, .ld 1 false (.t 5)⟩, ⟨some 7, none, .mv (.t 1)⟩, ⟨some 8, none, .call 57 [(.t 6), (.t 7)]⟩, ⟨some 1, none, .mv (.t 8)⟩]) (.seq (.seq (.reg [⟨some 9, none, .mv (.t 1)⟩, ⟨some 10, none, .bin .lss (.t 9) (.c (.int .i64 0))⟩]) (.cond (.t 10) (.seq (.reg [⟨some 4, none, .mv (.c (.int .i64 (-1)))⟩]) (.ret)) (.skip))) (.seq (.reg [⟨some 11, none, .mv (.t 1)⟩, ⟨some 4, none, .mv (.t 11)⟩]) (.ret))))⟩
def K_laws_szCore : Keeps := []
theorem r_laws_szCore : resolveF Try.prog Try.f24 K_laws_szCore = some F_laws_szCore := by kernel_rfl
noncomputable def X_laws_szCore : Ctx := Ctx.cons 57 G_laws_szIntS (fun _ => none)
theorem co_laws_szCore : CtxOk Try.prog X_laws_szCore := CtxOk.cons (CtxOk.nil) ok_laws_szIntS
theorem cx_laws_szCore : ((∀ args hp, callX X_laws_szCore 57 args hp = callS G_laws_szIntS args hp) ∧ (trC (X_laws_szCore 57) = false)) := ⟨fun _ _ => rfl, rfl⟩
noncomputable def S_laws_szCore : ByV := ⟨none, false, semF X_laws_szCore F_laws_szCore none false⟩
noncomputable def G_laws_szCore : CK := .byv S_laws_szCore
theorem sg_laws_szCore (args : List AV) : S_laws_szCore.sem args = semF X_laws_szCore F_laws_szCore none false args := rfl
theorem cl_laws_szCore (args : List AV) (hp : Hp) : callS G_laws_szCore args hp = byvS S_laws_szCore args hp := callS_byv rfl rfl args hp
theorem ok_laws_szCore : InlOk Try.prog 24 (callS G_laws_szCore) := byv_none co_laws_szCore Try.func24 r_laws_szCore rfl (fun _ _ h => h)
/- 58 laws_szCoreS calls [laws_szCore]  -/
def B0_laws_szCoreS : RC :=
  .seq (.seq (.reg [⟨some 12, none, .mv (.t 5)⟩, ⟨some 13, none, .mv (.t 0)⟩, ⟨some 14, none, .len false (.t 13)⟩, ⟨some 15, none, .bin .lss (.t 12) (.t 14)⟩]) (.cond (.t 15) (.skip) (.exit 0))) (.seq (.block 1 (.seq (.reg [⟨some 18, none, .mv (.t 0)⟩, ⟨some 19, none, .mv (.t 5)⟩, ⟨some 20, none, .ia 3 (.t 18) (.t 19)⟩, ⟨some 21, none, .ld 3 true (.t 20)⟩, ⟨some 22, none, .mv (.t 1)⟩, ⟨some 23, none, .call 24 [(.t 21), (.t 22)]⟩, ⟨some 1, none, .mv (.t 23)⟩]) (.seq (.reg [⟨some 24, none, .mv (.t 1)⟩, ⟨some 25, none, .bin .lss (.t 24) (.c (.int .i64 0))⟩]) (.cond (.t 25) (.seq (.reg [⟨some 4, none, .mv (.c (.int .i64 (-1)))⟩]) (.ret)) (.skip))))) (.reg [⟨some 16, none, .mv (.t 5)⟩, ⟨some 17, none, .bin .add (.t 16) (.c (.int .i64 1))⟩, ⟨some 5, none, .mv (.t 17)⟩]))
def F_laws_szCoreS : RF := ⟨27, 2, [.t 4],
  .seq (.reg [⟨some 4, none, .mv (.c (.int .i64 0))⟩]) (.seq (.reg [⟨some 6, none, .mv (.t 1)⟩, ⟨some 7, none, .mv (.t 0)⟩, ⟨some 8, none, .len false (.t 7)⟩, ⟨some 9, none, .bin .sub (.t 6) (.t 8)⟩, ⟨some 1, none, .mv (.t 9)⟩]) (.seq (.seq (.reg [⟨some 10, none, .mv (.t 1)⟩, ⟨some 11, none, .bin .lss (.t 10) (.c (.int .i64 0))⟩]) (.cond (.t 11) (.seq (.reg [⟨some 4, none, .mv (.c (.int .i64 (-1)))⟩]) (.ret)) (.skip))) (.seq (.seq (.reg [⟨some 5, none, .mv (.c (.int .i64 0))⟩]) (.block 0 (.loop [0, 1, 5] [(1, [1]), (0, [4])] B0_laws_szCoreS))) (.seq (.reg [⟨some 26, none, .mv (.t 1)⟩, ⟨some 4, none, .mv (.t 26)⟩]) (.ret)))))⟩
def K_laws_szCoreS : Keeps := [([0, 1, 5], [(1, [1]), (0, [4])])]
theorem r_laws_szCoreS : resolveF Try.prog Try.f58 K_laws_szCoreS = some F_laws_szCoreS := by kernel_rfl
noncomputable def X_laws_szCoreS : Ctx := Ctx.cons 24 G_laws_szCore (fun _ => none)
theorem co_laws_szCoreS : CtxOk Try.prog X_laws_szCoreS := CtxOk.cons (CtxOk.nil) ok_laws_szCore
theorem cx_laws_szCoreS : ((∀ args hp, callX X_laws_szCoreS 24 args hp = callS G_laws_szCore args hp) ∧ (trC (X_laws_szCoreS 24) = false)) := ⟨fun _ _ => rfl, rfl⟩
noncomputable def S_laws_szCoreS : ByV := ⟨none, false, semF X_laws_szCoreS F_laws_szCoreS none false⟩
noncomputable def G_laws_szCoreS : CK := .byv S_laws_szCoreS
theorem sg_laws_szCoreS (args : List AV) : S_laws_szCoreS.sem args = semF X_laws_szCoreS F_laws_szCoreS none false args := rfl
theorem cl_laws_szCoreS (args : List AV) (hp : Hp) : callS G_laws_szCoreS args hp = byvS S_laws_szCoreS args hp := callS_byv rfl rfl args hp
theorem ok_laws_szCoreS : InlOk Try.prog 58 (callS G_laws_szCoreS) := byv_none co_laws_szCoreS Try.func58 r_laws_szCoreS rfl (fun _ _ h => h)
/- 74 laws_szBoolS calls []  -/
def F_laws_szBoolS : RF := ⟨12, 2, [.t 4],
  .seq (.reg [⟨some 4, none, .mv (.c (.int .i64 0))⟩]) (.seq (.reg [⟨some 5, none, .mv (.t 1)⟩, ⟨some 6, none, .mv (.t 0)⟩, ⟨some 7, none, .len false (.t 6)⟩, ⟨some 8, none, .bin .sub (.t 5) (.t 7)⟩, ⟨some 1, none, .mv (.t 8)⟩]) (.seq (.seq (.reg [⟨some 9, none, .mv (.t 1)⟩, ⟨some 10, none, .bin .lss (.t 9) (.c (.int .i64 0))⟩]) (.cond (.t 10) (.seq (.reg [⟨some 4, none, .mv (.c (.int .i64 (-1)))⟩]) (.ret)) (.skip))) (.seq (.reg [⟨some 11, none, .mv (.t 1)⟩, ⟨some 4, none, .mv (.t 11)⟩]) (.ret))))⟩
def K_laws_szBoolS : Keeps := []
theorem r_laws_szBoolS : resolveF Try.prog Try.f74 K_laws_szBoolS = some F_laws_szBoolS := by kernel_rfl
noncomputable def X_laws_szBoolS : Ctx := fun _ => none
theorem co_laws_szBoolS : CtxOk Try.prog X_laws_szBoolS := CtxOk.nil
theorem cx_laws_szBoolS : True := trivial
noncomputable def S_laws_szBoolS : ByV := ⟨none, false, semF X_laws_szBoolS F_laws_szBoolS none false⟩
noncomputable def G_laws_szBoolS : CK := .byv S_laws_szBoolS
theorem sg_laws_szBoolS (args : List AV) : S_laws_szBoolS.sem args = semF X_laws_szBoolS F_laws_szBoolS none false args := rfl
theorem cl_laws_szBoolS (args : List AV) (hp : Hp) : callS G_laws_szBoolS args hp = byvS S_laws_szBoolS args hp := callS_byv rfl rfl args hp
theorem ok_laws_szBoolS : InlOk Try.prog 74 (callS G_laws_szBoolS) := byv_none co_laws_szBoolS Try.func74 r_laws_szBoolS rfl (fun _ _ h => h)
/- 23 laws_szKernel calls [laws_szGateS, laws_szIntS, laws_szCoreS, laws_szBoolS]  -/
def F_laws_szKernel : RF := ⟨30, 2, [.t 4],
  .seq (.reg [⟨some 2, none, .box (.t 0)⟩, ⟨some 4, none, .mv (.c (.int .i64 0))⟩]) (.seq (.reg [⟨some 5, none, .fa 0 (.t 2)⟩, ⟨some 6, none, .ld 1 false (.t 5)⟩, ⟨some 7, none, .mv (.t 1)⟩, ⟨some 8, none, .call 73 [(.t 6), (.t 7)]⟩, ⟨some 1, none, .mv (.t 8)⟩]) (.seq (.seq (.reg [⟨some 9, none, .mv (.t 1)⟩, ⟨some 10, none, .bin .lss (.t 9) (.c (.int .i64 0))⟩]) (.cond (.t 10) (.seq (.reg [⟨some 4, none, .mv (.c (.int .i64 (-1)))⟩]) (.ret)) (.skip))) (.seq (.reg [⟨some 11, none, .fa 1 (.t 2)⟩, ⟨some 12, none, .ld 1 false (.t 11)⟩, ⟨some 13, none, .mv (.t 1)⟩, ⟨some 14, none, .call 57 [(.t 12), (.t 13)]⟩, ⟨some 1, none, .mv (.t 14)⟩]) (.seq (.seq (.reg [⟨some 15, none, .mv (.t 1)⟩, ⟨some 16, none, .bin .lss (.t 15) (.c (.int .i64 0))⟩]) (.cond (.t 16) (.seq (.reg [⟨some 4, none, .mv (.c (.int .i64 (-1)))⟩]) (.ret)) (.skip))) (.seq (.reg [⟨some 17, none, .fa 2 (.t 2)⟩, ⟨some 18, none, .ld 1 false (.t 17)⟩, ⟨some 19, none, .mv (.t 1)⟩, ⟨some 20, none, .call 58 [(.t 18), (.t 19)]⟩, ⟨some 1, none, .mv (.t 20)⟩]) (.seq (.seq (.reg [⟨some 21, none, .mv (.t 1)⟩, ⟨some 22, none, .bin .lss (.t 21) (.c (.int .i64 0))⟩]) (.cond (.t 22) (.seq (.reg [⟨some 4, none, .mv (.c (.int .i64 (-1)))⟩]) (.ret)) (.skip))) (.seq (.reg [⟨some 23, none, .fa 3 (.t 2)⟩, ⟨some 24, none, .ld 1 false (.t 23)⟩, ⟨some 25, none, .mv (.t 1)⟩, ⟨some 26, none, .call 74 [(.t 24), (.t 25)]⟩, ⟨some 1, none, .mv (.t 26)⟩]) (.seq (.seq (.reg [⟨some 27, none, .mv (.t 1)⟩, ⟨some 28, none, .bin .lss (.t 27) (.c (.int .i64 0))⟩]) (.cond (.t 28) (.seq (.reg [⟨some 4, none, .mv (.c (.int .i64 (-1)))⟩]) (.ret)) (.skip))) (.seq (.reg [⟨some 29, none, .mv (.t 1)⟩, ⟨some 4, none, .mv (.t 29)⟩]) (.ret))))))))))⟩
def K_laws_szKernel : Keeps := []
theorem r_laws_szKernel : resolveF Try.prog Try.f23 K_laws_szKernel = some F_laws_szKernel := by kernel_rfl
noncomputable def X_laws_szKernel : Ctx := Ctx.cons 73 G_laws_szGateS (Ctx.cons 57 G_laws_szIntS (Ctx.cons 58 G_laws_szCoreS (Ctx.cons 74 G_laws_szBoolS (fun _ => none))))
theorem co_laws_szKernel : CtxOk Try.prog X_laws_szKernel := CtxOk.cons (CtxOk.cons (CtxOk.cons (CtxOk.cons (CtxOk.nil) ok_laws_szBoolS) ok_laws_szCoreS) ok_laws_szIntS) ok_laws_szGateS
theorem cx_laws_szKernel : ((∀ args hp, callX X_laws_szKernel 73 args hp = callS G_laws_szGateS args hp) ∧ (trC (X_laws_szKernel 73) = false)) ∧ ((∀ args hp, callX X_laws_szKernel 57 args hp = callS G_laws_szIntS args hp) ∧ (trC (X_laws_szKernel 57) = false)) ∧ ((∀ args hp, callX X_laws_szKernel 58 args hp = callS G_laws_szCoreS args hp) ∧ (trC (X_laws_szKernel 58) = false)) ∧ ((∀ args hp, callX X_laws_szKernel 74 args hp = callS G_laws_szBoolS args hp) ∧ (trC (X_laws_szKernel 74) = false)) := ⟨⟨fun _ _ => rfl, rfl⟩, ⟨fun _ _ => rfl, rfl⟩, ⟨fun _ _ => rfl, rfl⟩, ⟨fun _ _ => rfl, rfl⟩⟩
noncomputable def S_laws_szKernel : ByV := ⟨none, false, semF X_laws_szKernel F_laws_szKernel none false⟩
noncomputable def G_laws_szKernel : CK := .byv S_laws_szKernel
theorem sg_laws_szKernel (args : List AV) : S_laws_szKernel.sem args = semF X_laws_szKernel F_laws_szKernel none false args := rfl
theorem cl_laws_szKernel (args : List AV) (hp : Hp) : callS G_laws_szKernel args hp = byvS S_laws_szKernel args hp := callS_byv rfl rfl args hp
theorem ok_laws_szKernel : InlOk Try.prog 23 (callS G_laws_szKernel) := byv_none co_laws_szKernel Try.func23 r_laws_szKernel rfl (fun _ _ h => h)
/- 35 laws_toIntS calls []  -/
def B0_laws_toIntS : RC :=
  .seq (.seq (.reg [⟨some 8, none, .mv (.t 4)⟩, ⟨some 9, none, .mv (.t 0)⟩, ⟨some 10, none, .len false (.t 9)⟩, ⟨some 11, none, .bin .lss (.t 8) (.t 10)⟩]) (.cond (.t 11) (.skip) (.exit 0))) (.seq (.block 1 (.reg [⟨some 14, none, .mv (.t 3)⟩, ⟨some 15, none, .mv (.t 4)⟩, ⟨some 16, none, .mv (.t 0)⟩, ⟨some 17, none, .mv (.t 4)⟩, ⟨some 18, none, .ia 1 (.t 16) (.t 17)⟩, ⟨some 19, none, .ld 1 false (.t 18)⟩, ⟨some 20, none, .ia 1 (.t 14) (.t 15)⟩, ⟨none, none, .st 1 (.t 20) (.t 19)⟩])) (.reg [⟨some 12, none, .mv (.t 4)⟩, ⟨some 13, none, .bin .add (.t 12) (.c (.int .i64 1))⟩, ⟨some 4, none, .mv (.t 13)⟩]))
def F_laws_toIntS : RF := ⟨22, 1, [.t 2],
  .seq (.reg [⟨some 2, none, .mv (.c (.nil 1))⟩]) (.seq (.reg [⟨some 5, none, .mv (.t 0)⟩, ⟨some 6, none, .len false (.t 5)⟩, ⟨some 7, none, .mk 1 [(.int .i64 0)] 8 (.t 6) (.t 6)⟩, ⟨some 3, none, .mv (.t 7)⟩]) (.seq (.seq (.reg [⟨some 4, none, .mv (.c (.int .i64 0))⟩]) (.block 0 (.loop [0, 3, 4] [(1, [3])] B0_laws_toIntS))) (.seq (.reg [⟨some 21, none, .mv (.t 3)⟩, ⟨some 2, none, .mv (.t 21)⟩]) (.ret))))⟩
def K_laws_toIntS : Keeps := [([0, 3, 4], [(1, [3])])]
theorem r_laws_toIntS : resolveF Try.prog Try.f35 K_laws_toIntS = some F_laws_toIntS := by kernel_rfl
noncomputable def X_laws_toIntS : Ctx := fun _ => none
theorem co_laws_toIntS : CtxOk Try.prog X_laws_toIntS := CtxOk.nil
theorem cx_laws_toIntS : True := trivial
noncomputable def S_laws_toIntS : ByV := ⟨none, false, semF X_laws_toIntS F_laws_toIntS none false⟩
noncomputable def G_laws_toIntS : CK := .byv S_laws_toIntS
theorem sg_laws_toIntS (args : List AV) : S_laws_toIntS.sem args = semF X_laws_toIntS F_laws_toIntS none false args := rfl
theorem cl_laws_toIntS (args : List AV) (hp : Hp) : callS G_laws_toIntS args hp = byvS S_laws_toIntS args hp := callS_byv rfl rfl args hp
theorem ok_laws_toIntS : InlOk Try.prog 35 (callS G_laws_toIntS) := byv_none co_laws_toIntS Try.func35 r_laws_toIntS rfl (fun _ _ h => h)
/- 133 laws_toGate calls [laws_toIntS]  -/
def F_laws_toGate : RF := ⟨16, 1, [.cell 2 3 true],
  .seq (.reg [⟨some 1, none, .box (.t 0)⟩, ⟨some 2, none, .new [(.int .i64 0), (.nil 1), (.nil 1)]⟩]) (.seq (.reg [⟨some 3, none, .new [(.int .i64 0), (.nil 1), (.nil 1)]⟩]) (.seq (.reg [⟨some 4, none, .fa 0 (.t 1)⟩, ⟨some 5, none, .ld 1 false (.t 4)⟩, ⟨some 6, none, .fa 0 (.t 3)⟩, ⟨none, none, .st 1 (.t 6) (.t 5)⟩]) (.seq (.reg [⟨some 7, none, .fa 1 (.t 1)⟩, ⟨some 8, none, .ld 1 false (.t 7)⟩, ⟨some 9, none, .call 35 [(.t 8)]⟩, ⟨some 10, none, .fa 1 (.t 3)⟩, ⟨none, none, .st 1 (.t 10) (.t 9)⟩]) (.seq (.reg [⟨some 11, none, .fa 2 (.t 1)⟩, ⟨some 12, none, .ld 1 false (.t 11)⟩, ⟨some 13, none, .call 35 [(.t 12)]⟩, ⟨some 14, none, .fa 2 (.t 3)⟩, ⟨none, none, .st 1 (.t 14) (.t 13)⟩]) (.seq (.reg [⟨some 15, none, .ld 3 true (.t 3)⟩, ⟨none, none, .st 3 (.t 2) (.t 15)⟩]) (.ret))))))⟩
def K_laws_toGate : Keeps := []
theorem r_laws_toGate : resolveF Try.prog Try.f133 K_laws_toGate = some F_laws_toGate := by kernel_rfl
noncomputable def X_laws_toGate : Ctx := Ctx.cons 35 G_laws_toIntS (fun _ => none)
theorem co_laws_toGate : CtxOk Try.prog X_laws_toGate := CtxOk.cons (CtxOk.nil) ok_laws_toIntS
theorem cx_laws_toGate : ((∀ args hp, callX X_laws_toGate 35 args hp = callS G_laws_toIntS args hp) ∧ (trC (X_laws_toGate 35) = false)) := ⟨fun _ _ => rfl, rfl⟩
noncomputable def S_laws_toGate : ByV := ⟨none, false, semF X_laws_toGate F_laws_toGate none false⟩
noncomputable def G_laws_toGate : CK := .byv S_laws_toGate
theorem sg_laws_toGate (args : List AV) : S_laws_toGate.sem args = semF X_laws_toGate F_laws_toGate none false args := rfl
theorem cl_laws_toGate (args : List AV) (hp : Hp) : callS G_laws_toGate args hp = byvS S_laws_toGate args hp := callS_byv rfl rfl args hp
theorem ok_laws_toGate : InlOk Try.prog 133 (callS G_laws_toGate) := byv_none co_laws_toGate Try.func133 r_laws_toGate rfl (fun _ _ h => h)
/- 77 laws_toGateS calls [laws_toGate]  -/
def B0_laws_toGateS : RC :=
  .seq (.seq (.reg [⟨some 8, none, .mv (.t 4)⟩, ⟨some 9, none, .mv (.t 0)⟩, ⟨some 10, none, .len false (.t 9)⟩, ⟨some 11, none, .bin .lss (.t 8) (.t 10)⟩]) (.cond (.t 11) (.skip) (.exit 0))) (.seq (.block 1 (.reg [⟨some 14, none, .mv (.t 3)⟩, ⟨some 15, none, .mv (.t 4)⟩, ⟨some 16, none, .mv (.t 0)⟩, ⟨some 17, none, .mv (.t 4)⟩, ⟨some 18, none, .ia 3 (.t 16) (.t 17)⟩, ⟨some 19, none, .ld 3 true (.t 18)⟩, ⟨some 20, none, .call 133 [(.t 19)]⟩, ⟨some 21, none, .ia 3 (.t 14) (.t 15)⟩, ⟨none, none, .st 3 (.t 21) (.t 20)⟩])) (.reg [⟨some 12, none, .mv (.t 4)⟩, ⟨some 13, none, .bin .add (.t 12) (.c (.int .i64 1))⟩, ⟨some 4, none, .mv (.t 13)⟩]))
def F_laws_toGateS : RF := ⟨23, 1, [.t 2],
  .seq (.reg [⟨some 2, none, .mv (.c (.nil 3))⟩]) (.seq (.reg [⟨some 5, none, .mv (.t 0)⟩, ⟨some 6, none, .len false (.t 5)⟩, ⟨some 7, none, .mk 3 [(.int .i64 0), (.tree 1 []), (.tree 1 [])] 56 (.t 6) (.t 6)⟩, ⟨some 3, none, .mv (.t 7)⟩]) (.seq (.seq (.reg [⟨some 4, none, .mv (.c (.int .i64 0))⟩]) (.block 0 (.loop [0, 3, 4] [(1, [3])] B0_laws_toGateS))) (.seq (.reg [⟨some 22, none, .mv (.t 3)⟩, ⟨some 2, none, .mv (.t 22)⟩]) (.ret))))⟩
def K_laws_toGateS : Keeps := [([0, 3, 4], [(1, [3])])]
theorem r_laws_toGateS : resolveF Try.prog Try.f77 K_laws_toGateS = some F_laws_toGateS := by kernel_rfl
noncomputable def X_laws_toGateS : Ctx := Ctx.cons 133 G_laws_toGate (fun _ => none)
theorem co_laws_toGateS : CtxOk Try.prog X_laws_toGateS := CtxOk.cons (CtxOk.nil) ok_laws_toGate
theorem cx_laws_toGateS : ((∀ args hp, callX X_laws_toGateS 133 args hp = callS G_laws_toGate args hp) ∧ (trC (X_laws_toGateS 133) = false)) := ⟨fun _ _ => rfl, rfl⟩
noncomputable def S_laws_toGateS : ByV := ⟨none, false, semF X_laws_toGateS F_laws_toGateS none false⟩
noncomputable def G_laws_toGateS : CK := .byv S_laws_toGateS
theorem sg_laws_toGateS (args : List AV) : S_laws_toGateS.sem args = semF X_laws_toGateS F_laws_toGateS none false args := rfl
theorem cl_laws_toGateS (args : List AV) (hp : Hp) : callS G_laws_toGateS args hp = byvS S_laws_toGateS args hp := callS_byv rfl rfl args hp
theorem ok_laws_toGateS : InlOk Try.prog 77 (callS G_laws_toGateS) := byv_none co_laws_toGateS Try.func77 r_laws_toGateS rfl (fun _ _ h => h)
/- 27 laws_toCore calls [laws_toIntS]  -/
def F_laws_toCore : RF := ⟨15, 1, [.cell 2 3 true],
  .seq (.reg [⟨some 1, none, .box (.t 0)⟩, ⟨some 2, none, .new [(.nil 1), (.int .i64 0), (.int .i64 0)]⟩]) (.seq (.reg [⟨some 3, none, .new [(.nil 1), (.int .i64 0), (.int .i64 0)]⟩]) (.seq (.reg [⟨some 4, none, .fa 0 (.t 1)⟩, ⟨some 5, none, .ld 1 false (.t 4)⟩, ⟨some 6, none, .call 35 [(.t 5)]⟩, ⟨some 7, none, .fa 0 (.t 3)⟩, ⟨none, none, .st 1 (.t 7) (.t 6)⟩]) (.seq (.reg [⟨some 8, none, .fa 1 (.t 1)⟩, ⟨some 9, none, .ld 1 false (.t 8)⟩, ⟨some 10, none, .fa 1 (.t 3)⟩, ⟨none, none, .st 1 (.t 10) (.t 9)⟩]) (.seq (.reg [⟨some 11, none, .fa 2 (.t 1)⟩, ⟨some 12, none, .ld 1 false (.t 11)⟩, ⟨some 13, none, .fa 2 (.t 3)⟩, ⟨none, none, .st 1 (.t 13) (.t 12)⟩]) (.seq (.reg [⟨some 14, none, .ld 3 true (.t 3)⟩, ⟨none, none, .st 3 (.t 2) (.t 14)⟩]) (.ret))))))⟩
def K_laws_toCore : Keeps := []
theorem r_laws_toCore : resolveF Try.prog Try.f27 K_laws_toCore = some F_laws_toCore := by kernel_rfl
noncomputable def X_laws_toCore : Ctx := Ctx.cons 35 G_laws_toIntS (fun _ => none)
theorem co_laws_toCore : CtxOk Try.prog X_laws_toCore := CtxOk.cons (CtxOk.nil) ok_laws_toIntS
theorem cx_laws_toCore : ((∀ args hp, callX X_laws_toCore 35 args hp = callS G_laws_toIntS args hp) ∧ (trC (X_laws_toCore 35) = false)) := ⟨fun _ _ => rfl, rfl⟩
noncomputable def S_laws_toCore : ByV := ⟨none, false, semF X_laws_toCore F_laws_toCore none false⟩
noncomputable def G_laws_toCore : CK := .byv S_laws_toCore
theorem sg_laws_toCore (args : List AV) : S_laws_toCore.sem args = semF X_laws_toCore F_laws_toCore none false args := rfl
theorem cl_laws_toCore (args : List AV) (hp : Hp) : callS G_laws_toCore args hp = byvS S_laws_toCore args hp := callS_byv rfl rfl args hp
theorem ok_laws_toCore : InlOk Try.prog 27 (callS G_laws_toCore) := byv_none co_laws_toCore Try.func27 r_laws_toCore rfl (fun _ _ h => h)
/- 61 laws_toCoreS calls [laws_toCore]  -/
def B0_laws_toCoreS : RC :=
  .seq (.seq (.reg [⟨some 8, none, .mv (.t 4)⟩, ⟨some 9, none, .mv (.t 0)⟩, ⟨some 10, none, .len false (.t 9)⟩, ⟨some 11, none, .bin .lss (.t 8) (.t 10)⟩]) (.cond (.t 11) (.skip) (.exit 0))) (.seq (.block 1 (.reg [⟨some 14, none, .mv (.t 3)⟩, ⟨some 15, none, .mv (.t 4)⟩, ⟨some 16, none, .mv (.t 0)⟩, ⟨some 17, none, .mv (.t 4)⟩, ⟨some 18, none, .ia 3 (.t 16) (.t 17)⟩, ⟨some 19, none, .ld 3 true (.t 18)⟩, ⟨some 20, none, .call 27 [(.t 19)]⟩, ⟨some 21, none, .ia 3 (.t 14) (.t 15)⟩, ⟨none, none, .st 3 (.t 21) (.t 20)⟩])) (.reg [⟨some 12, none, .mv (.t 4)⟩, ⟨some 13, none, .bin .add (.t 12) (.c (.int .i64 1))⟩, ⟨some 4, none, .mv (.t 13)⟩]))
def F_laws_toCoreS : RF := ⟨23, 1, [.t 2],
  .seq (.reg [⟨some 2, none, .mv (.c (.nil 3))⟩]) (.seq (.reg [⟨some 5, none, .mv (.t 0)⟩, ⟨some 6, none, .len false (.t 5)⟩, ⟨some 7, none, .mk 3 [(.tree 1 []), (.int .i64 0), (.int .i64 0)] 40 (.t 6) (.t 6)⟩, ⟨some 3, none, .mv (.t 7)⟩]) (.seq (.seq (.reg [⟨some 4, none, .mv (.c (.int .i64 0))⟩]) (.block 0 (.loop [0, 3, 4] [(1, [3])] B0_laws_toCoreS))) (.seq (.reg [⟨some 22, none, .mv (.t 3)⟩, ⟨some 2, none, .mv (.t 22)⟩]) (.ret))))⟩
def K_laws_toCoreS : Keeps := [([0, 3, 4], [(1, [3])])]
theorem r_laws_toCoreS : resolveF Try.prog Try.f61 K_laws_toCoreS = some F_laws_toCoreS := by kernel_rfl
noncomputable def X_laws_toCoreS : Ctx := Ctx.cons 27 G_laws_toCore (fun _ => none)
theorem co_laws_toCoreS : CtxOk Try.prog X_laws_toCoreS := CtxOk.cons (CtxOk.nil) ok_laws_toCore
theorem cx_laws_toCoreS : ((∀ args hp, callX X_laws_toCoreS 27 args hp = callS G_laws_toCore args hp) ∧ (trC (X_laws_toCoreS 27) = false)) := ⟨fun _ _ => rfl, rfl⟩
noncomputable def S_laws_toCoreS : ByV := ⟨none, false, semF X_laws_toCoreS F_laws_toCoreS none false⟩
noncomputable def G_laws_toCoreS : CK := .byv S_laws_toCoreS
theorem sg_laws_toCoreS (args : List AV) : S_laws_toCoreS.sem args = semF X_laws_toCoreS F_laws_toCoreS none false args := rfl
theorem cl_laws_toCoreS (args : List AV) (hp : Hp) : callS G_laws_toCoreS args hp = byvS S_laws_toCoreS args hp := callS_byv rfl rfl args hp
theorem ok_laws_toCoreS : InlOk Try.prog 61 (callS G_laws_toCoreS) := byv_none co_laws_toCoreS Try.func61 r_laws_toCoreS rfl (fun _ _ h => h)
/- 78 laws_toBoolS calls []  -/
def B0_laws_toBoolS : RC :=
  .seq (.seq (.reg [⟨some 8, none, .mv (.t 4)⟩, ⟨some 9, none, .mv (.t 0)⟩, ⟨some 10, none, .len false (.t 9)⟩, ⟨some 11, none, .bin .lss (.t 8) (.t 10)⟩]) (.cond (.t 11) (.skip) (.exit 0))) (.seq (.block 1 (.reg [⟨some 14, none, .mv (.t 3)⟩, ⟨some 15, none, .mv (.t 4)⟩, ⟨some 16, none, .mv (.t 0)⟩, ⟨some 17, none, .mv (.t 4)⟩, ⟨some 18, none, .ia 1 (.t 16) (.t 17)⟩, ⟨some 19, none, .ld 1 false (.t 18)⟩, ⟨some 20, none, .ia 1 (.t 14) (.t 15)⟩, ⟨none, none, .st 1 (.t 20) (.t 19)⟩])) (.reg [⟨some 12, none, .mv (.t 4)⟩, ⟨some 13, none, .bin .add (.t 12) (.c (.int .i64 1))⟩, ⟨some 4, none, .mv (.t 13)⟩]))
def F_laws_toBoolS : RF := ⟨22, 1, [.t 2],
  .seq (.reg [⟨some 2, none, .mv (.c (.nil 1))⟩]) (.seq (.reg [⟨some 5, none, .mv (.t 0)⟩, ⟨some 6, none, .len false (.t 5)⟩, ⟨some 7, none, .mk 1 [(.bool false)] 1 (.t 6) (.t 6)⟩, ⟨some 3, none, .mv (.t 7)⟩]) (.seq (.seq (.reg [⟨some 4, none, .mv (.c (.int .i64 0))⟩]) (.block 0 (.loop [0, 3, 4] [(1, [3])] B0_laws_toBoolS))) (.seq (.reg [⟨some 21, none, .mv (.t 3)⟩, ⟨some 2, none, .mv (.t 21)⟩]) (.ret))))⟩
def K_laws_toBoolS : Keeps := [([0, 3, 4], [(1, [3])])]
theorem r_laws_toBoolS : resolveF Try.prog Try.f78 K_laws_toBoolS = some F_laws_toBoolS := by kernel_rfl
noncomputable def X_laws_toBoolS : Ctx := fun _ => none
theorem co_laws_toBoolS : CtxOk Try.prog X_laws_toBoolS := CtxOk.nil
theorem cx_laws_toBoolS : True := trivial
noncomputable def S_laws_toBoolS : ByV := ⟨none, false, semF X_laws_toBoolS F_laws_toBoolS none false⟩
noncomputable def G_laws_toBoolS : CK := .byv S_laws_toBoolS
theorem sg_laws_toBoolS (args : List AV) : S_laws_toBoolS.sem args = semF X_laws_toBoolS F_laws_toBoolS none false args := rfl
theorem cl_laws_toBoolS (args : List AV) (hp : Hp) : callS G_laws_toBoolS args hp = byvS S_laws_toBoolS args hp := callS_byv rfl rfl args hp
theorem ok_laws_toBoolS : InlOk Try.prog 78 (callS G_laws_toBoolS) := byv_none co_laws_toBoolS Try.func78 r_laws_toBoolS rfl (fun _ _ h => h)
/- 26 laws_toKernel calls [laws_toGateS, laws_toIntS, laws_toCoreS, laws_toBoolS]  -/
def F_laws_toKernel : RF := ⟨21, 1, [.cell 2 4 true],
  .seq (.reg [⟨some 1, none, .box (.t 0)⟩, ⟨some 2, none, .new [(.nil 3), (.nil 1), (.nil 3), (.nil 1)]⟩]) (.seq (.reg [⟨some 3, none, .new [(.nil 3), (.nil 1), (.nil 3), (.nil 1)]⟩]) (.seq (.reg [⟨some 4, none, .fa 0 (.t 1)⟩, ⟨some 5, none, .ld 1 false (.t 4)⟩, ⟨some 6, none, .call 77 [(.t 5)]⟩, ⟨some 7, none, .fa 0 (.t 3)⟩, ⟨none, none, .st 1 (.t 7) (.t 6)⟩]) (.seq (.reg [⟨some 8, none, .fa 1 (.t 1)⟩, ⟨some 9, none, .ld 1 false (.t 8)⟩, ⟨some 10, none, .call 35 [(.t 9)]⟩, ⟨some 11, none, .fa 1 (.t 3)⟩, ⟨none, none, .st 1 (.t 11) (.t 10)⟩]) (.seq (.reg [⟨some 12, none, .fa 2 (.t 1)⟩, ⟨some 13, none, .ld 1 false (.t 12)⟩, ⟨some 14, none, .call 61 [(.t 13)]⟩, ⟨some 15, none, .fa 2 (.t 3)⟩, ⟨none, none, .st 1 (.t 15) (.t 14)⟩]) (.seq (.reg [⟨some 16, none, .fa 3 (.t 1)⟩, ⟨some 17, none, .ld 1 false (.t 16)⟩, ⟨some 18, none, .call 78 [(.t 17)]⟩, ⟨some 19, none, .fa 3 (.t 3)⟩, ⟨none, none, .st 1 (.t 19) (.t 18)⟩]) (.seq (.reg [⟨some 20, none, .ld 4 true (.t 3)⟩, ⟨none, none, .st 4 (.t 2) (.t 20)⟩]) (.ret)))))))⟩
def K_laws_toKernel : Keeps := []
theorem r_laws_toKernel : resolveF Try.prog Try.f26 K_laws_toKernel = some F_laws_toKernel := by kernel_rfl
noncomputable def X_laws_toKernel : Ctx := Ctx.cons 77 G_laws_toGateS (Ctx.cons 35 G_laws_toIntS (Ctx.cons 61 G_laws_toCoreS (Ctx.cons 78 G_laws_toBoolS (fun _ => none))))
theorem co_laws_toKernel : CtxOk Try.prog X_laws_toKernel := CtxOk.cons (CtxOk.cons (CtxOk.cons (CtxOk.cons (CtxOk.nil) ok_laws_toBoolS) ok_laws_toCoreS) ok_laws_toIntS) ok_laws_toGateS
theorem cx_laws_toKernel : ((∀ args hp, callX X_laws_toKernel 77 args hp = callS G_laws_toGateS args hp) ∧ (trC (X_laws_toKernel 77) = false)) ∧ ((∀ args hp, callX X_laws_toKernel 35 args hp = callS G_laws_toIntS args hp) ∧ (trC (X_laws_toKernel 35) = false)) ∧ ((∀ args hp, callX X_laws_toKernel 61 args hp = callS G_laws_toCoreS args hp) ∧ (trC (X_laws_toKernel 61) = false)) ∧ ((∀ args hp, callX X_laws_toKernel 78 args hp = callS G_laws_toBoolS args hp) ∧ (trC (X_laws_toKernel 78) = false)) := ⟨⟨fun _ _ => rfl, rfl⟩, ⟨fun _ _ => rfl, rfl⟩, ⟨fun _ _ => rfl, rfl⟩, ⟨fun _ _ => rfl, rfl⟩⟩
noncomputable def S_laws_toKernel : ByV := ⟨none, false, semF X_laws_toKernel F_laws_toKernel none false⟩
noncomputable def G_laws_toKernel : CK := .byv S_laws_toKernel
theorem sg_laws_toKernel (args : List AV) : S_laws_toKernel.sem args = semF X_laws_toKernel F_laws_toKernel none false args := rfl
theorem cl_laws_toKernel (args : List AV) (hp : Hp) : callS G_laws_toKernel args hp = byvS S_laws_toKernel args hp := callS_byv rfl rfl args hp
theorem ok_laws_toKernel : InlOk Try.prog 26 (callS G_laws_toKernel) := byv_none co_laws_toKernel Try.func26 r_laws_toKernel rfl (fun _ _ h => h)
/- 132 spec_l12Copy calls []  -/
def F_spec_l12Copy : RF := ⟨14, 1, [.cell 2 3 true],
  .seq (.reg [⟨some 1, none, .box (.t 0)⟩, ⟨some 2, none, .new [(.int .i64 0), (.nil 1), (.nil 1)]⟩]) (.seq (.regd [(0, ⟨some 3, none, .fa 0 (.t 1)⟩), (2, ⟨some 4, none, .ld 1 false (.t 3)⟩), (2, ⟨some 5, none, .bsl 1 []⟩), (0, ⟨some 6, none, .fa 1 (.t 1)⟩), (2, ⟨some 7, none, .ld 1 false (.t 6)⟩), (2, ⟨some 8, none, .app true 1 8 (.t 5) (.t 7)⟩), (2, ⟨some 9, none, .bsl 1 []⟩), (0, ⟨some 10, none, .fa 2 (.t 1)⟩), (2, ⟨some 11, none, .ld 1 false (.t 10)⟩), (2, ⟨some 12, none, .app true 1 8 (.t 9) (.t 11)⟩), (0, ⟨some 13, none, .build [(.int .i64 0), (.nil 1), (.nil 1)] [(0, 1, (.t 4)), (1, 1, (.t 8)), (2, 1, (.t 12))]⟩), (1, ⟨none, none, .st 3 (.t 2) (.t 13)⟩)] [(1, 2), (2, 4), (1, 5), (1, 6), (2, 6), (4, 6), (5, 6), (2, 8), (5, 8), (6, 8), (1, 9)]) (.ret))⟩
def K_spec_l12Copy : Keeps := []
theorem r_spec_l12Copy : resolveF Try.prog Try.f132 K_spec_l12Copy = some F_spec_l12Copy := by kernel_rfl
noncomputable def X_spec_l12Copy : Ctx := fun _ => none
theorem co_spec_l12Copy : CtxOk Try.prog X_spec_l12Copy := CtxOk.nil
theorem cx_spec_l12Copy : True := trivial
noncomputable def S_spec_l12Copy : ByV := ⟨none, false, semF X_spec_l12Copy F_spec_l12Copy none false⟩
noncomputable def G_spec_l12Copy : CK := .byv S_spec_l12Copy
theorem sg_spec_l12Copy (args : List AV) : S_spec_l12Copy.sem args = semF X_spec_l12Copy F_spec_l12Copy none false args := rfl
theorem cl_spec_l12Copy (args : List AV) (hp : Hp) : callS G_spec_l12Copy args hp = byvS S_spec_l12Copy args hp := callS_byv rfl rfl args hp
theorem ok_spec_l12Copy : InlOk Try.prog 132 (callS G_spec_l12Copy) := byv_none co_spec_l12Copy Try.func132 r_spec_l12Copy rfl (fun _ _ h => h)
/- 90 spec_l15Copy calls []  -/
def F_spec_l15Copy : RF := ⟨12, 1, [.cell 2 3 true],
  .seq (.reg [⟨some 1, none, .box (.t 0)⟩, ⟨some 2, none, .new [(.nil 1), (.int .i64 0), (.int .i64 0)]⟩]) (.seq (.regd [(2, ⟨some 3, none, .bsl 1 []⟩), (0, ⟨some 4, none, .fa 0 (.t 1)⟩), (2, ⟨some 5, none, .ld 1 false (.t 4)⟩), (2, ⟨some 6, none, .app true 1 8 (.t 3) (.t 5)⟩), (0, ⟨some 7, none, .fa 1 (.t 1)⟩), (2, ⟨some 8, none, .ld 1 false (.t 7)⟩), (0, ⟨some 9, none, .fa 2 (.t 1)⟩), (2, ⟨some 10, none, .ld 1 false (.t 9)⟩), (0, ⟨some 11, none, .build [(.nil 1), (.int .i64 0), (.int .i64 0)] [(0, 1, (.t 6)), (1, 1, (.t 8)), (2, 1, (.t 10))]⟩), (1, ⟨none, none, .st 3 (.t 2) (.t 11)⟩)] [(0, 2), (0, 5), (3, 5), (0, 7), (3, 7)]) (.ret))⟩
def K_spec_l15Copy : Keeps := []
theorem r_spec_l15Copy : resolveF Try.prog Try.f90 K_spec_l15Copy = some F_spec_l15Copy := by kernel_rfl
noncomputable def X_spec_l15Copy : Ctx := fun _ => none
theorem co_spec_l15Copy : CtxOk Try.prog X_spec_l15Copy := CtxOk.nil
theorem cx_spec_l15Copy : True := trivial
noncomputable def S_spec_l15Copy : ByV := ⟨none, false, semF X_spec_l15Copy F_spec_l15Copy none false⟩
noncomputable def G_spec_l15Copy : CK := .byv S_spec_l15Copy
theorem sg_spec_l15Copy (args : List AV) : S_spec_l15Copy.sem args = semF X_spec_l15Copy F_spec_l15Copy none false args := rfl
theorem cl_spec_l15Copy (args : List AV) (hp : Hp) : callS G_spec_l15Copy args hp = byvS S_spec_l15Copy args hp := callS_byv rfl rfl args hp
theorem ok_spec_l15Copy : InlOk Try.prog 90 (callS G_spec_l15Copy) := byv_none co_spec_l15Copy Try.func90 r_spec_l15Copy rfl (fun _ _ h => h)
/- 75 spec_l20Copy calls [spec_l12Copy, spec_l15Copy]  -/
def B0_spec_l20Copy : RC :=
  .seq (.seq (.reg [⟨some 15, none, .mv (.t 4)⟩, ⟨some 16, none, .fa 0 (.t 1)⟩, ⟨some 17, none, .ld 1 false (.t 16)⟩, ⟨some 18, none, .len false (.t 17)⟩, ⟨some 19, none, .bin .lss (.t 15) (.t 18)⟩]) (.cond (.t 19) (.skip) (.exit 0))) (.seq (.block 1 (.regd [(0, ⟨some 22, none, .fa 0 (.t 3)⟩), (2, ⟨some 23, none, .ld 1 false (.t 22)⟩), (0, ⟨some 24, none, .fa 0 (.t 1)⟩), (1, ⟨some 25, none, .ld 1 false (.t 24)⟩), (0, ⟨some 26, none, .mv (.t 4)⟩), (1, ⟨some 27, none, .ia 3 (.t 25) (.t 26)⟩), (1, ⟨some 28, none, .ld 3 true (.t 27)⟩), (2, ⟨some 29, none, .call 132 [(.t 28)]⟩), (2, ⟨some 30, none, .bsl 3 [(.t 29)]⟩), (1, ⟨some 31, none, .app false 3 56 (.t 23) (.t 30)⟩), (0, ⟨some 32, none, .fa 0 (.t 3)⟩), (1, ⟨none, none, .st 1 (.t 32) (.t 31)⟩)] [(1, 7), (1, 8)])) (.reg [⟨some 20, none, .mv (.t 4)⟩, ⟨some 21, none, .bin .add (.t 20) (.c (.int .i64 1))⟩, ⟨some 4, none, .mv (.t 21)⟩]))
def B1_spec_l20Copy : RC :=
  .seq (.seq (.reg [⟨some 33, none, .mv (.t 5)⟩, ⟨some 34, none, .fa 2 (.t 1)⟩, ⟨some 35, none, .ld 1 false (.t 34)⟩, ⟨some 36, none, .len false (.t 35)⟩, ⟨some 37, none, .bin .lss (.t 33) (.t 36)⟩]) (.cond (.t 37) (.skip) (.exit 2))) (.seq (.block 3 (.regd [(0, ⟨some 40, none, .fa 2 (.t 3)⟩), (2, ⟨some 41, none, .ld 1 false (.t 40)⟩), (0, ⟨some 42, none, .fa 2 (.t 1)⟩), (1, ⟨some 43, none, .ld 1 false (.t 42)⟩), (0, ⟨some 44, none, .mv (.t 5)⟩), (1, ⟨some 45, none, .ia 3 (.t 43) (.t 44)⟩), (1, ⟨some 46, none, .ld 3 true (.t 45)⟩), (2, ⟨some 47, none, .call 90 [(.t 46)]⟩), (2, ⟨some 48, none, .bsl 3 [(.t 47)]⟩), (1, ⟨some 49, none, .app false 3 40 (.t 41) (.t 48)⟩), (0, ⟨some 50, none, .fa 2 (.t 3)⟩), (1, ⟨none, none, .st 1 (.t 50) (.t 49)⟩)] [(1, 7), (1, 8)])) (.reg [⟨some 38, none, .mv (.t 5)⟩, ⟨some 39, none, .bin .add (.t 38) (.c (.int .i64 1))⟩, ⟨some 5, none, .mv (.t 39)⟩]))
def F_spec_l20Copy : RF := ⟨52, 1, [.cell 2 4 true],
  .seq (.reg [⟨some 1, none, .box (.t 0)⟩, ⟨some 2, none, .new [(.nil 3), (.nil 1), (.nil 3), (.nil 1)]⟩]) (.seq (.regd [(2, ⟨some 6, none, .bsl 1 []⟩), (0, ⟨some 7, none, .fa 1 (.t 1)⟩), (2, ⟨some 8, none, .ld 1 false (.t 7)⟩), (2, ⟨some 9, none, .app true 1 8 (.t 6) (.t 8)⟩), (2, ⟨some 10, none, .bsl 1 []⟩), (0, ⟨some 11, none, .fa 3 (.t 1)⟩), (2, ⟨some 12, none, .ld 1 false (.t 11)⟩), (2, ⟨some 13, none, .app true 1 1 (.t 10) (.t 12)⟩), (0, ⟨some 14, none, .build [(.nil 3), (.nil 1), (.nil 3), (.nil 1)] [(1, 1, (.t 9)), (3, 1, (.t 13))]⟩), (2, ⟨some 3, none, .new [(.nil 3), (.nil 1), (.nil 3), (.nil 1)]⟩), (1, ⟨none, none, .st 4 (.t 3) (.t 14)⟩)] [(0, 2), (0, 4), (2, 4), (3, 4), (0, 6), (3, 6), (4, 6), (0, 9), (2, 9), (3, 9), (4, 9), (6, 9), (7, 9)]) (.seq (.seq (.reg [⟨some 4, none, .mv (.c (.int .i64 0))⟩]) (.block 0 (.loop [1, 2, 3, 4] [(1, [1, 2, 3])] B0_spec_l20Copy))) (.seq (.seq (.reg [⟨some 5, none, .mv (.c (.int .i64 0))⟩]) (.block 2 (.loop [1, 2, 3, 5] [(3, [2, 3])] B1_spec_l20Copy))) (.seq (.reg [⟨some 51, none, .ld 4 true (.t 3)⟩, ⟨none, none, .st 4 (.t 2) (.t 51)⟩]) (.ret)))))⟩
def K_spec_l20Copy : Keeps := [([1, 2, 3, 4], [(1, [1, 2, 3])]), ([1, 2, 3, 5], [(3, [2, 3])])]
theorem r_spec_l20Copy : resolveF Try.prog Try.f75 K_spec_l20Copy = some F_spec_l20Copy := by kernel_rfl
noncomputable def X_spec_l20Copy : Ctx := Ctx.cons 132 G_spec_l12Copy (Ctx.cons 90 G_spec_l15Copy (fun _ => none))
theorem co_spec_l20Copy : CtxOk Try.prog X_spec_l20Copy := CtxOk.cons (CtxOk.cons (CtxOk.nil) ok_spec_l15Copy) ok_spec_l12Copy
theorem cx_spec_l20Copy : ((∀ args hp, callX X_spec_l20Copy 132 args hp = callS G_spec_l12Copy args hp) ∧ (trC (X_spec_l20Copy 132) = false)) ∧ ((∀ args hp, callX X_spec_l20Copy 90 args hp = callS G_spec_l15Copy args hp) ∧ (trC (X_spec_l20Copy 90) = false)) := ⟨⟨fun _ _ => rfl, rfl⟩, ⟨fun _ _ => rfl, rfl⟩⟩
noncomputable def S_spec_l20Copy : ByV := ⟨none, false, semF X_spec_l20Copy F_spec_l20Copy none false⟩
noncomputable def G_spec_l20Copy : CK := .byv S_spec_l20Copy
theorem sg_spec_l20Copy (args : List AV) : S_spec_l20Copy.sem args = semF X_spec_l20Copy F_spec_l20Copy none false args := rfl
theorem cl_spec_l20Copy (args : List AV) (hp : Hp) : callS G_spec_l20Copy args hp = byvS S_spec_l20Copy args hp := callS_byv rfl rfl args hp
theorem ok_spec_l20Copy : InlOk Try.prog 75 (callS G_spec_l20Copy) := byv_none co_spec_l20Copy Try.func75 r_spec_l20Copy rfl (fun _ _ h => h)
/- 106 spec_l01In calls []  -/
def F_spec_l01In : RF := ⟨15, 3, [.t 6],
  .seq (.reg [⟨some 6, none, .mv (.c (.bool false))⟩]) (.seq (.reg [⟨some 7, none, .mv (.t 0)⟩, ⟨some 8, none, .mv (.t 1)⟩, ⟨some 9, none, .bin .geq (.t 7) (.t 8)⟩, ⟨some 10, none, .mv (.t 9)⟩, ⟨some 11, some (10, true), .mv (.t 0)⟩, ⟨some 12, some (10, true), .mv (.t 2)⟩, ⟨some 13, some (10, true), .bin .leq (.t 11) (.t 12)⟩, ⟨some 14, none, .pick (.t 10) (.t 13) (.c (.bool false))⟩, ⟨some 6, none, .mv (.t 14)⟩]) (.ret))⟩
def K_spec_l01In : Keeps := []
theorem r_spec_l01In : resolveF Try.prog Try.f106 K_spec_l01In = some F_spec_l01In := by kernel_rfl
noncomputable def X_spec_l01In : Ctx := fun _ => none
theorem co_spec_l01In : CtxOk Try.prog X_spec_l01In := CtxOk.nil
theorem cx_spec_l01In : True := trivial
noncomputable def S_spec_l01In : ByV := ⟨none, false, semF X_spec_l01In F_spec_l01In none false⟩
noncomputable def G_spec_l01In : CK := .byv S_spec_l01In
theorem sg_spec_l01In (args : List AV) : S_spec_l01In.sem args = semF X_spec_l01In F_spec_l01In none false args := rfl
theorem cl_spec_l01In (args : List AV) (hp : Hp) : callS G_spec_l01In args hp = byvS S_spec_l01In args hp := callS_byv rfl rfl args hp
theorem ok_spec_l01In : InlOk Try.prog 106 (callS G_spec_l01In) := byv_none co_spec_l01In Try.func106 r_spec_l01In rfl (fun _ _ h => h)
/- 144 spec_CoreNew calls []  -/
def F_spec_CoreNew : RF := ⟨3, 0, [.cell 0 3 true],
  .seq (.reg [⟨some 0, none, .new [(.nil 1), (.int .i64 0), (.int .i64 0)]⟩]) (.seq (.reg [⟨some 1, none, .mk 1 [(.int .i64 0)] 8 (.c (.int .i64 8)) (.c (.int .i64 8))⟩, ⟨some 2, none, .build [(.nil 1), (.int .i64 0), (.int .i64 0)] [(0, 1, (.t 1)), (2, 1, (.c (.int .i64 (-1))))]⟩, ⟨none, none, .st 3 (.t 0) (.t 2)⟩]) (.ret))⟩
def K_spec_CoreNew : Keeps := []
theorem r_spec_CoreNew : resolveF Try.prog Try.f144 K_spec_CoreNew = some F_spec_CoreNew := by kernel_rfl
noncomputable def X_spec_CoreNew : Ctx := fun _ => none
theorem co_spec_CoreNew : CtxOk Try.prog X_spec_CoreNew := CtxOk.nil
theorem cx_spec_CoreNew : True := trivial
noncomputable def S_spec_CoreNew : ByV := ⟨none, false, semF X_spec_CoreNew F_spec_CoreNew none false⟩
noncomputable def G_spec_CoreNew : CK := .byv S_spec_CoreNew
theorem sg_spec_CoreNew (args : List AV) : S_spec_CoreNew.sem args = semF X_spec_CoreNew F_spec_CoreNew none false args := rfl
theorem cl_spec_CoreNew (args : List AV) (hp : Hp) : callS G_spec_CoreNew args hp = byvS S_spec_CoreNew args hp := callS_byv rfl rfl args hp
theorem ok_spec_CoreNew : InlOk Try.prog 144 (callS G_spec_CoreNew) := byv_none co_spec_CoreNew Try.func144 r_spec_CoreNew rfl (fun _ _ h => h)
/- 99 spec_l20Pick calls [spec_l01In, spec_CoreNew, spec_l15Copy] inl -/
def F_spec_l20Pick : RF := ⟨52, 1, [.cell 2 3 true, .t 3],
  .seq (.reg [⟨some 2, none, .new [(.nil 1), (.int .i64 0), (.int .i64 0)]⟩, ⟨some 3, none, .mv (.c (.bool false))⟩]) (.seq (.seq (.regd [(0, ⟨some 5, none, .mv (.t 0)⟩), (0, ⟨some 6, none, .nck (.t 5)⟩), (0, ⟨some 7, none, .fa 1 (.t 6)⟩), (1, ⟨some 8, none, .ld 1 false (.t 7)⟩), (0, ⟨some 9, none, .len false (.t 8)⟩), (0, ⟨some 10, none, .bin .eql (.t 9) (.c (.int .i64 0))⟩), (0, ⟨some 11, none, .mv (.t 10)⟩), (0, ⟨some 12, some (11, false), .mv (.t 0)⟩), (0, ⟨some 13, some (11, false), .nck (.t 12)⟩), (0, ⟨some 14, some (11, false), .fa 1 (.t 13)⟩), (1, ⟨some 15, some (11, false), .ld 1 false (.t 14)⟩), (1, ⟨some 16, some (11, false), .ia 1 (.t 15) (.c (.int .i64 0))⟩), (1, ⟨some 17, some (11, false), .ld 1 false (.t 16)⟩), (0, ⟨some 18, some (11, false), .mv (.t 0)⟩), (0, ⟨some 19, some (11, false), .nck (.t 18)⟩), (0, ⟨some 20, some (11, false), .fa 2 (.t 19)⟩), (1, ⟨some 21, some (11, false), .ld 1 false (.t 20)⟩), (0, ⟨some 22, some (11, false), .len false (.t 21)⟩), (0, ⟨some 23, some (11, false), .bin .sub (.t 22) (.c (.int .i64 1))⟩), (1, ⟨some 24, some (11, false), .call 106 [(.t 17), (.c (.int .i64 0)), (.t 23)]⟩), (0, ⟨some 25, some (11, false), .un .not (.t 24)⟩), (0, ⟨some 26, none, .pick (.t 11) (.c (.bool true)) (.t 25)⟩)] []) (.cond (.t 26) (.seq (.reg [⟨some 27, none, .call 144 []⟩, ⟨none, none, .st 3 (.t 2) (.t 27)⟩, ⟨some 3, none, .mv (.c (.bool false))⟩]) (.ret)) (.skip))) (.seq (.regd [(0, ⟨some 28, none, .mv (.t 0)⟩), (0, ⟨some 29, none, .nck (.t 28)⟩), (0, ⟨some 30, none, .fa 2 (.t 29)⟩), (2, ⟨some 31, none, .ld 1 false (.t 30)⟩), (0, ⟨some 32, none, .mv (.t 0)⟩), (0, ⟨some 33, none, .nck (.t 32)⟩), (0, ⟨some 34, none, .fa 1 (.t 33)⟩), (2, ⟨some 35, none, .ld 1 false (.t 34)⟩), (2, ⟨some 36, none, .ia 1 (.t 35) (.c (.int .i64 0))⟩), (2, ⟨some 37, none, .ld 1 false (.t 36)⟩), (2, ⟨some 38, none, .ia 3 (.t 31) (.t 37)⟩), (2, ⟨some 39, none, .ld 3 true (.t 38)⟩), (2, ⟨some 40, none, .call 90 [(.t 39)]⟩), (2, ⟨some 4, none, .new [(.nil 1), (.int .i64 0), (.int .i64 0)]⟩), (1, ⟨none, none, .st 3 (.t 4) (.t 40)⟩)] [(3, 13), (7, 13), (8, 13), (9, 13), (10, 13), (11, 13), (12, 13)]) (.seq (.reg [⟨some 41, none, .mv (.t 0)⟩, ⟨some 42, none, .bsl 1 []⟩, ⟨some 43, none, .mv (.t 0)⟩, ⟨some 44, none, .nck (.t 43)⟩, ⟨some 45, none, .fa 1 (.t 44)⟩, ⟨some 46, none, .ld 1 false (.t 45)⟩, ⟨some 47, none, .slc false 1 (.t 46) (some (.c (.int .i64 1))) none⟩, ⟨some 48, none, .app true 1 8 (.t 42) (.t 47)⟩, ⟨some 49, none, .nck (.t 41)⟩, ⟨some 50, none, .fa 1 (.t 49)⟩, ⟨none, none, .st 1 (.t 50) (.t 48)⟩]) (.seq (.reg [⟨some 51, none, .ld 3 true (.t 4)⟩, ⟨none, none, .st 3 (.t 2) (.t 51)⟩, ⟨some 3, none, .mv (.c (.bool true))⟩]) (.ret)))))⟩
def K_spec_l20Pick : Keeps := []
theorem r_spec_l20Pick : resolveF Try.prog Try.f99 K_spec_l20Pick = some F_spec_l20Pick := by kernel_rfl
noncomputable def X_spec_l20Pick : Ctx := Ctx.cons 106 G_spec_l01In (Ctx.cons 144 G_spec_CoreNew (Ctx.cons 90 G_spec_l15Copy (fun _ => none)))
theorem co_spec_l20Pick : CtxOk Try.prog X_spec_l20Pick := CtxOk.cons (CtxOk.cons (CtxOk.cons (CtxOk.nil) ok_spec_l15Copy) ok_spec_CoreNew) ok_spec_l01In
theorem cx_spec_l20Pick : ((∀ args hp, callX X_spec_l20Pick 106 args hp = callS G_spec_l01In args hp) ∧ (trC (X_spec_l20Pick 106) = false)) ∧ ((∀ args hp, callX X_spec_l20Pick 144 args hp = callS G_spec_CoreNew args hp) ∧ (trC (X_spec_l20Pick 144) = false)) ∧ ((∀ args hp, callX X_spec_l20Pick 90 args hp = callS G_spec_l15Copy args hp) ∧ (trC (X_spec_l20Pick 90) = false)) := ⟨⟨fun _ _ => rfl, rfl⟩, ⟨fun _ _ => rfl, rfl⟩, ⟨fun _ _ => rfl, rfl⟩⟩
noncomputable def G_spec_l20Pick : CK := .inl (runF X_spec_l20Pick F_spec_l20Pick)
theorem cl_spec_l20Pick (args : List AV) (hp : Hp) : callS G_spec_l20Pick args hp = runF X_spec_l20Pick F_spec_l20Pick args hp := rfl
theorem ok_spec_l20Pick : InlOk Try.prog 99 (callS G_spec_l20Pick) := runF_ok co_spec_l20Pick Try.func99 r_spec_l20Pick
/- 41 spec_Pick calls [spec_l20Copy, spec_l20Pick]  -/
def F_spec_Pick : RF := ⟨17, 1, [.cell 2 4 true, .cell 3 3 true, .t 4],
  .seq (.reg [⟨some 1, none, .box (.t 0)⟩, ⟨some 2, none, .new [(.nil 3), (.nil 1), (.nil 3), (.nil 1)]⟩, ⟨some 3, none, .new [(.nil 1), (.int .i64 0), (.int .i64 0)]⟩, ⟨some 4, none, .mv (.c (.bool false))⟩]) (.seq (.reg [⟨some 8, none, .ld 4 true (.t 1)⟩, ⟨some 9, none, .call 75 [(.t 8)]⟩, ⟨some 5, none, .new [(.nil 3), (.nil 1), (.nil 3), (.nil 1)]⟩, ⟨none, none, .st 4 (.t 5) (.t 9)⟩]) (.seq (.reg [⟨some 11, none, .call 99 [(.t 5)]⟩, ⟨some 10, none, .mv (.t 11)⟩, ⟨some 12, none, .ex (.t 10) 0⟩, ⟨some 13, none, .ex (.t 10) 1⟩, ⟨some 6, none, .new [(.nil 1), (.int .i64 0), (.int .i64 0)]⟩, ⟨none, none, .st 3 (.t 6) (.t 12)⟩, ⟨some 7, none, .mv (.t 13)⟩]) (.seq (.regd [(1, ⟨some 14, none, .ld 4 true (.t 5)⟩), (2, ⟨some 15, none, .ld 3 true (.t 6)⟩), (0, ⟨some 16, none, .mv (.t 7)⟩), (2, ⟨none, none, .st 4 (.t 2) (.t 14)⟩), (1, ⟨none, none, .st 3 (.t 3) (.t 15)⟩), (0, ⟨some 4, none, .mv (.t 16)⟩)] [(1, 3)]) (.ret))))⟩
def K_spec_Pick : Keeps := []
theorem r_spec_Pick : resolveF Try.prog Try.f41 K_spec_Pick = some F_spec_Pick := by kernel_rfl
noncomputable def X_spec_Pick : Ctx := Ctx.cons 75 G_spec_l20Copy (Ctx.cons 99 G_spec_l20Pick (fun _ => none))
theorem co_spec_Pick : CtxOk Try.prog X_spec_Pick := CtxOk.cons (CtxOk.cons (CtxOk.nil) ok_spec_l20Pick) ok_spec_l20Copy
theorem cx_spec_Pick : ((∀ args hp, callX X_spec_Pick 75 args hp = callS G_spec_l20Copy args hp) ∧ (trC (X_spec_Pick 75) = false)) ∧ ((∀ args hp, callX X_spec_Pick 99 args hp = callS G_spec_l20Pick args hp) ∧ (trC (X_spec_Pick 99) = true)) := ⟨⟨fun _ _ => rfl, rfl⟩, ⟨fun _ _ => rfl, rfl⟩⟩
noncomputable def S_spec_Pick : ByV := ⟨none, false, semF X_spec_Pick F_spec_Pick none false⟩
noncomputable def G_spec_Pick : CK := .byv S_spec_Pick
theorem sg_spec_Pick (args : List AV) : S_spec_Pick.sem args = semF X_spec_Pick F_spec_Pick none false args := rfl
theorem cl_spec_Pick (args : List AV) (hp : Hp) : callS G_spec_Pick args hp = byvS S_spec_Pick args hp := callS_byv rfl rfl args hp
theorem ok_spec_Pick : InlOk Try.prog 41 (callS G_spec_Pick) := byv_none co_spec_Pick Try.func41 r_spec_Pick rfl (fun _ _ h => h)
/- 134 impl_copyGate calls []  -/
def F_impl_copyGate : RF := ⟨12, 1, [.cell 2 3 true],
  .seq (.reg [⟨some 1, none, .box (.t 0)⟩, ⟨some 2, none, .new [(.int .i64 0), (.nil 1), (.nil 1)]⟩]) (.seq (.reg [⟨some 3, none, .fa 1 (.t 1)⟩, ⟨some 4, none, .ld 1 false (.t 3)⟩, ⟨some 5, none, .app true 1 8 (.c (.nil 1)) (.t 4)⟩, ⟨some 6, none, .fa 1 (.t 1)⟩, ⟨none, none, .st 1 (.t 6) (.t 5)⟩]) (.seq (.reg [⟨some 7, none, .fa 2 (.t 1)⟩, ⟨some 8, none, .ld 1 false (.t 7)⟩, ⟨some 9, none, .app true 1 8 (.c (.nil 1)) (.t 8)⟩, ⟨some 10, none, .fa 2 (.t 1)⟩, ⟨none, none, .st 1 (.t 10) (.t 9)⟩]) (.seq (.reg [⟨some 11, none, .ld 3 true (.t 1)⟩, ⟨none, none, .st 3 (.t 2) (.t 11)⟩]) (.ret))))⟩
def K_impl_copyGate : Keeps := []
theorem r_impl_copyGate : resolveF Try.prog Try.f134 K_impl_copyGate = some F_impl_copyGate := by kernel_rfl
noncomputable def X_impl_copyGate : Ctx := fun _ => none
theorem co_impl_copyGate : CtxOk Try.prog X_impl_copyGate := CtxOk.nil
theorem cx_impl_copyGate : True := trivial
noncomputable def S_impl_copyGate : ByV := ⟨none, false, semF X_impl_copyGate F_impl_copyGate none false⟩
noncomputable def G_impl_copyGate : CK := .byv S_impl_copyGate
theorem sg_impl_copyGate (args : List AV) : S_impl_copyGate.sem args = semF X_impl_copyGate F_impl_copyGate none false args := rfl
theorem cl_impl_copyGate (args : List AV) (hp : Hp) : callS G_impl_copyGate args hp = byvS S_impl_copyGate args hp := callS_byv rfl rfl args hp
theorem ok_impl_copyGate : InlOk Try.prog 134 (callS G_impl_copyGate) := byv_none co_impl_copyGate Try.func134 r_impl_copyGate rfl (fun _ _ h => h)
/- 81 impl_copyCore calls []  -/
def F_impl_copyCore : RF := ⟨8, 1, [.cell 2 3 true],
  .seq (.reg [⟨some 1, none, .box (.t 0)⟩, ⟨some 2, none, .new [(.nil 1), (.int .i64 0), (.int .i64 0)]⟩]) (.seq (.reg [⟨some 3, none, .fa 0 (.t 1)⟩, ⟨some 4, none, .ld 1 false (.t 3)⟩, ⟨some 5, none, .app true 1 8 (.c (.nil 1)) (.t 4)⟩, ⟨some 6, none, .fa 0 (.t 1)⟩, ⟨none, none, .st 1 (.t 6) (.t 5)⟩]) (.seq (.reg [⟨some 7, none, .ld 3 true (.t 1)⟩, ⟨none, none, .st 3 (.t 2) (.t 7)⟩]) (.ret)))⟩
def K_impl_copyCore : Keeps := []
theorem r_impl_copyCore : resolveF Try.prog Try.f81 K_impl_copyCore = some F_impl_copyCore := by kernel_rfl
noncomputable def X_impl_copyCore : Ctx := fun _ => none
theorem co_impl_copyCore : CtxOk Try.prog X_impl_copyCore := CtxOk.nil
theorem cx_impl_copyCore : True := trivial
noncomputable def S_impl_copyCore : ByV := ⟨none, false, semF X_impl_copyCore F_impl_copyCore none false⟩
noncomputable def G_impl_copyCore : CK := .byv S_impl_copyCore
theorem sg_impl_copyCore (args : List AV) : S_impl_copyCore.sem args = semF X_impl_copyCore F_impl_copyCore none false args := rfl
theorem cl_impl_copyCore (args : List AV) (hp : Hp) : callS G_impl_copyCore args hp = byvS S_impl_copyCore args hp := callS_byv rfl rfl args hp
theorem ok_impl_copyCore : InlOk Try.prog 81 (callS G_impl_copyCore) := byv_none co_impl_copyCore Try.func81 r_impl_copyCore rfl (fun _ _ h => h)
/- 79 impl_copyKernel calls [impl_copyGate, impl_copyCore]  -/
def B0_impl_copyKernel : RC :=
  .seq (.reg [⟨some 19, none, .bin .lss (.t 18) (.t 17)⟩]) (.seq (.cond (.t 19) (.skip) (.exit 0)) (.seq (.block 1 (.seq (.reg [⟨some 20, none, .ia 3 (.t 16) (.t 18)⟩, ⟨some 21, none, .ld 3 true (.t 20)⟩, ⟨some 5, none, .new [(.int .i64 0), (.nil 1), (.nil 1)]⟩, ⟨none, none, .st 3 (.t 5) (.t 21)⟩]) (.regd [(0, ⟨some 22, none, .fa 0 (.t 3)⟩), (2, ⟨some 23, none, .ld 1 false (.t 22)⟩), (1, ⟨some 24, none, .ld 3 true (.t 5)⟩), (2, ⟨some 25, none, .call 134 [(.t 24)]⟩), (2, ⟨some 26, none, .bsl 3 [(.t 25)]⟩), (1, ⟨some 27, none, .app false 3 56 (.t 23) (.t 26)⟩), (0, ⟨some 28, none, .fa 0 (.t 3)⟩), (1, ⟨none, none, .st 1 (.t 28) (.t 27)⟩)] [(1, 3), (1, 4)]))) (.reg [⟨some 29, none, .bin .add (.t 18) (.c (.int .i64 1))⟩, ⟨some 18, none, .mv (.t 29)⟩])))
def B1_impl_copyKernel : RC :=
  .seq (.reg [⟨some 34, none, .bin .lss (.t 33) (.t 32)⟩]) (.seq (.cond (.t 34) (.skip) (.exit 2)) (.seq (.block 3 (.seq (.reg [⟨some 35, none, .ia 3 (.t 31) (.t 33)⟩, ⟨some 36, none, .ld 3 true (.t 35)⟩, ⟨some 7, none, .new [(.nil 1), (.int .i64 0), (.int .i64 0)]⟩, ⟨none, none, .st 3 (.t 7) (.t 36)⟩]) (.regd [(0, ⟨some 37, none, .fa 2 (.t 3)⟩), (2, ⟨some 38, none, .ld 1 false (.t 37)⟩), (1, ⟨some 39, none, .ld 3 true (.t 7)⟩), (2, ⟨some 40, none, .call 81 [(.t 39)]⟩), (2, ⟨some 41, none, .bsl 3 [(.t 40)]⟩), (1, ⟨some 42, none, .app false 3 40 (.t 38) (.t 41)⟩), (0, ⟨some 43, none, .fa 2 (.t 3)⟩), (1, ⟨none, none, .st 1 (.t 43) (.t 42)⟩)] [(1, 3), (1, 4)]))) (.reg [⟨some 44, none, .bin .add (.t 33) (.c (.int .i64 1))⟩, ⟨some 33, none, .mv (.t 44)⟩])))
def F_impl_copyKernel : RF := ⟨46, 1, [.cell 2 4 true],
  .seq (.reg [⟨some 1, none, .box (.t 0)⟩, ⟨some 2, none, .new [(.nil 3), (.nil 1), (.nil 3), (.nil 1)]⟩]) (.seq (.regd [(0, ⟨some 8, none, .fa 1 (.t 1)⟩), (2, ⟨some 9, none, .ld 1 false (.t 8)⟩), (2, ⟨some 10, none, .app true 1 8 (.c (.nil 1)) (.t 9)⟩), (0, ⟨some 11, none, .fa 3 (.t 1)⟩), (2, ⟨some 12, none, .ld 1 false (.t 11)⟩), (2, ⟨some 13, none, .app true 1 1 (.c (.nil 1)) (.t 12)⟩), (0, ⟨some 14, none, .build [(.nil 3), (.nil 1), (.nil 3), (.nil 1)] [(1, 1, (.t 10)), (3, 1, (.t 13))]⟩), (2, ⟨some 3, none, .new [(.nil 3), (.nil 1), (.nil 3), (.nil 1)]⟩), (1, ⟨none, none, .st 4 (.t 3) (.t 14)⟩)] [(2, 4), (1, 7), (2, 7), (4, 7), (5, 7)]) (.seq (.seq (.reg [⟨some 15, none, .fa 0 (.t 1)⟩, ⟨some 16, none, .ld 1 false (.t 15)⟩, ⟨some 17, none, .len false (.t 16)⟩, ⟨some 18, none, .mv (.c (.int .i64 0))⟩]) (.block 0 (.loop [1, 2, 3, 16, 17, 18] [(1, [1, 2, 3])] B0_impl_copyKernel))) (.seq (.seq (.reg [⟨some 30, none, .fa 2 (.t 1)⟩, ⟨some 31, none, .ld 1 false (.t 30)⟩, ⟨some 32, none, .len false (.t 31)⟩, ⟨some 33, none, .mv (.c (.int .i64 0))⟩]) (.block 2 (.loop [2, 3, 31, 32, 33] [(3, [2, 3])] B1_impl_copyKernel))) (.seq (.reg [⟨some 45, none, .ld 4 true (.t 3)⟩, ⟨none, none, .st 4 (.t 2) (.t 45)⟩]) (.ret)))))⟩
def K_impl_copyKernel : Keeps := [([1, 2, 3, 16, 17, 18], [(1, [1, 2, 3])]), ([2, 3, 31, 32, 33], [(3, [2, 3])])]
theorem r_impl_copyKernel : resolveF Try.prog Try.f79 K_impl_copyKernel = some F_impl_copyKernel := by kernel_rfl
noncomputable def X_impl_copyKernel : Ctx := Ctx.cons 134 G_impl_copyGate (Ctx.cons 81 G_impl_copyCore (fun _ => none))
theorem co_impl_copyKernel : CtxOk Try.prog X_impl_copyKernel := CtxOk.cons (CtxOk.cons (CtxOk.nil) ok_impl_copyCore) ok_impl_copyGate
theorem cx_impl_copyKernel : ((∀ args hp, callX X_impl_copyKernel 134 args hp = callS G_impl_copyGate args hp) ∧ (trC (X_impl_copyKernel 134) = false)) ∧ ((∀ args hp, callX X_impl_copyKernel 81 args hp = callS G_impl_copyCore args hp) ∧ (trC (X_impl_copyKernel 81) = false)) := ⟨⟨fun _ _ => rfl, rfl⟩, ⟨fun _ _ => rfl, rfl⟩⟩
noncomputable def S_impl_copyKernel : ByV := ⟨none, false, semF X_impl_copyKernel F_impl_copyKernel none false⟩
noncomputable def G_impl_copyKernel : CK := .byv S_impl_copyKernel
theorem sg_impl_copyKernel (args : List AV) : S_impl_copyKernel.sem args = semF X_impl_copyKernel F_impl_copyKernel none false args := rfl
theorem cl_impl_copyKernel (args : List AV) (hp : Hp) : callS G_impl_copyKernel args hp = byvS S_impl_copyKernel args hp := callS_byv rfl rfl args hp
theorem ok_impl_copyKernel : InlOk Try.prog 79 (callS G_impl_copyKernel) := byv_none co_impl_copyKernel Try.func79 r_impl_copyKernel rfl (fun _ _ h => h)
/- 80 impl_within calls []  -/
def F_impl_within : RF := ⟨15, 3, [.t 6],
  .seq (.reg [⟨some 6, none, .mv (.c (.bool false))⟩]) (.seq (.reg [⟨some 7, none, .mv (.t 0)⟩, ⟨some 8, none, .mv (.t 1)⟩, ⟨some 9, none, .bin .geq (.t 7) (.t 8)⟩, ⟨some 10, none, .mv (.t 9)⟩, ⟨some 11, some (10, true), .mv (.t 0)⟩, ⟨some 12, some (10, true), .mv (.t 2)⟩, ⟨some 13, some (10, true), .bin .leq (.t 11) (.t 12)⟩, ⟨some 14, none, .pick (.t 10) (.t 13) (.c (.bool false))⟩, ⟨some 6, none, .mv (.t 14)⟩]) (.ret))⟩
def K_impl_within : Keeps := []
theorem r_impl_within : resolveF Try.prog Try.f80 K_impl_within = some F_impl_within := by kernel_rfl
noncomputable def X_impl_within : Ctx := fun _ => none
theorem co_impl_within : CtxOk Try.prog X_impl_within := CtxOk.nil
theorem cx_impl_within : True := trivial
noncomputable def S_impl_within : ByV := ⟨none, false, semF X_impl_within F_impl_within none false⟩
noncomputable def G_impl_within : CK := .byv S_impl_within
theorem sg_impl_within (args : List AV) : S_impl_within.sem args = semF X_impl_within F_impl_within none false args := rfl
theorem cl_impl_within (args : List AV) (hp : Hp) : callS G_impl_within args hp = byvS S_impl_within args hp := callS_byv rfl rfl args hp
theorem ok_impl_within : InlOk Try.prog 80 (callS G_impl_within) := byv_none co_impl_within Try.func80 r_impl_within rfl (fun _ _ h => h)
/- 100 impl_CoreNew calls []  -/
def F_impl_CoreNew : RF := ⟨3, 0, [.cell 0 3 true],
  .seq (.reg [⟨some 0, none, .new [(.nil 1), (.int .i64 0), (.int .i64 0)]⟩]) (.seq (.reg [⟨some 1, none, .mk 1 [(.int .i64 0)] 8 (.c (.int .i64 8)) (.c (.int .i64 8))⟩, ⟨some 2, none, .build [(.nil 1), (.int .i64 0), (.int .i64 0)] [(0, 1, (.t 1)), (2, 1, (.c (.int .i64 (-1))))]⟩, ⟨none, none, .st 3 (.t 0) (.t 2)⟩]) (.ret))⟩
def K_impl_CoreNew : Keeps := []
theorem r_impl_CoreNew : resolveF Try.prog Try.f100 K_impl_CoreNew = some F_impl_CoreNew := by kernel_rfl
noncomputable def X_impl_CoreNew : Ctx := fun _ => none
theorem co_impl_CoreNew : CtxOk Try.prog X_impl_CoreNew := CtxOk.nil
theorem cx_impl_CoreNew : True := trivial
noncomputable def S_impl_CoreNew : ByV := ⟨none, false, semF X_impl_CoreNew F_impl_CoreNew none false⟩
noncomputable def G_impl_CoreNew : CK := .byv S_impl_CoreNew
theorem sg_impl_CoreNew (args : List AV) : S_impl_CoreNew.sem args = semF X_impl_CoreNew F_impl_CoreNew none false args := rfl
theorem cl_impl_CoreNew (args : List AV) (hp : Hp) : callS G_impl_CoreNew args hp = byvS S_impl_CoreNew args hp := callS_byv rfl rfl args hp
theorem ok_impl_CoreNew : InlOk Try.prog 100 (callS G_impl_CoreNew) := byv_none co_impl_CoreNew Try.func100 r_impl_CoreNew rfl (fun _ _ h => h)
/- 42 impl_Pick calls [impl_copyKernel, impl_within, impl_CoreNew, impl_copyCore]  -/
def F_impl_Pick : RF := ⟨40, 1, [.cell 2 4 true, .cell 3 3 true, .t 4],
  .seq (.reg [⟨some 1, none, .box (.t 0)⟩, ⟨some 2, none, .new [(.nil 3), (.nil 1), (.nil 3), (.nil 1)]⟩, ⟨some 3, none, .new [(.nil 1), (.int .i64 0), (.int .i64 0)]⟩, ⟨some 4, none, .mv (.c (.bool false))⟩]) (.seq (.reg [⟨some 6, none, .ld 4 true (.t 1)⟩, ⟨some 7, none, .call 79 [(.t 6)]⟩, ⟨some 5, none, .new [(.nil 3), (.nil 1), (.nil 3), (.nil 1)]⟩, ⟨none, none, .st 4 (.t 5) (.t 7)⟩]) (.seq (.seq (.regd [(0, ⟨some 8, none, .fa 1 (.t 1)⟩), (1, ⟨some 9, none, .ld 1 false (.t 8)⟩), (0, ⟨some 10, none, .len false (.t 9)⟩), (0, ⟨some 11, none, .bin .eql (.t 10) (.c (.int .i64 0))⟩), (0, ⟨some 12, none, .mv (.t 11)⟩), (0, ⟨some 13, some (12, false), .fa 1 (.t 1)⟩), (1, ⟨some 14, some (12, false), .ld 1 false (.t 13)⟩), (1, ⟨some 15, some (12, false), .ia 1 (.t 14) (.c (.int .i64 0))⟩), (1, ⟨some 16, some (12, false), .ld 1 false (.t 15)⟩), (0, ⟨some 17, some (12, false), .fa 2 (.t 1)⟩), (1, ⟨some 18, some (12, false), .ld 1 false (.t 17)⟩), (0, ⟨some 19, some (12, false), .len false (.t 18)⟩), (0, ⟨some 20, some (12, false), .bin .sub (.t 19) (.c (.int .i64 1))⟩), (1, ⟨some 21, some (12, false), .call 80 [(.t 16), (.c (.int .i64 0)), (.t 20)]⟩), (0, ⟨some 22, some (12, false), .un .not (.t 21)⟩), (0, ⟨some 23, none, .pick (.t 12) (.c (.bool true)) (.t 22)⟩)] []) (.cond (.t 23) (.seq (.regd [(2, ⟨some 24, none, .ld 4 true (.t 5)⟩), (2, ⟨some 25, none, .call 100 []⟩), (1, ⟨none, none, .st 4 (.t 2) (.t 24)⟩), (1, ⟨none, none, .st 3 (.t 3) (.t 25)⟩), (0, ⟨some 4, none, .mv (.c (.bool false))⟩)] [(0, 1)]) (.ret)) (.skip))) (.seq (.reg [⟨some 26, none, .fa 1 (.t 5)⟩, ⟨some 27, none, .ld 1 false (.t 26)⟩, ⟨some 28, none, .slc false 1 (.t 27) (some (.c (.int .i64 1))) none⟩, ⟨some 29, none, .fa 1 (.t 5)⟩, ⟨none, none, .st 1 (.t 29) (.t 28)⟩]) (.seq (.regd [(2, ⟨some 30, none, .ld 4 true (.t 5)⟩), (0, ⟨some 31, none, .fa 2 (.t 1)⟩), (1, ⟨some 32, none, .ld 1 false (.t 31)⟩), (0, ⟨some 33, none, .fa 1 (.t 1)⟩), (1, ⟨some 34, none, .ld 1 false (.t 33)⟩), (1, ⟨some 35, none, .ia 1 (.t 34) (.c (.int .i64 0))⟩), (1, ⟨some 36, none, .ld 1 false (.t 35)⟩), (1, ⟨some 37, none, .ia 3 (.t 32) (.t 36)⟩), (1, ⟨some 38, none, .ld 3 true (.t 37)⟩), (2, ⟨some 39, none, .call 81 [(.t 38)]⟩), (1, ⟨none, none, .st 4 (.t 2) (.t 30)⟩), (1, ⟨none, none, .st 3 (.t 3) (.t 39)⟩), (0, ⟨some 4, none, .mv (.c (.bool true))⟩)] [(0, 9)]) (.ret)))))⟩
def K_impl_Pick : Keeps := []
theorem r_impl_Pick : resolveF Try.prog Try.f42 K_impl_Pick = some F_impl_Pick := by kernel_rfl
noncomputable def X_impl_Pick : Ctx := Ctx.cons 79 G_impl_copyKernel (Ctx.cons 80 G_impl_within (Ctx.cons 100 G_impl_CoreNew (Ctx.cons 81 G_impl_copyCore (fun _ => none))))
theorem co_impl_Pick : CtxOk Try.prog X_impl_Pick := CtxOk.cons (CtxOk.cons (CtxOk.cons (CtxOk.cons (CtxOk.nil) ok_impl_copyCore) ok_impl_CoreNew) ok_impl_within) ok_impl_copyKernel
theorem cx_impl_Pick : ((∀ args hp, callX X_impl_Pick 79 args hp = callS G_impl_copyKernel args hp) ∧ (trC (X_impl_Pick 79) = false)) ∧ ((∀ args hp, callX X_impl_Pick 80 args hp = callS G_impl_within args hp) ∧ (trC (X_impl_Pick 80) = false)) ∧ ((∀ args hp, callX X_impl_Pick 100 args hp = callS G_impl_CoreNew args hp) ∧ (trC (X_impl_Pick 100) = false)) ∧ ((∀ args hp, callX X_impl_Pick 81 args hp = callS G_impl_copyCore args hp) ∧ (trC (X_impl_Pick 81) = false)) := ⟨⟨fun _ _ => rfl, rfl⟩, ⟨fun _ _ => rfl, rfl⟩, ⟨fun _ _ => rfl, rfl⟩, ⟨fun _ _ => rfl, rfl⟩⟩
noncomputable def S_impl_Pick : ByV := ⟨none, false, semF X_impl_Pick F_impl_Pick none false⟩
noncomputable def G_impl_Pick : CK := .byv S_impl_Pick
theorem sg_impl_Pick (args : List AV) : S_impl_Pick.sem args = semF X_impl_Pick F_impl_Pick none false args := rfl
theorem cl_impl_Pick (args : List AV) (hp : Hp) : callS G_impl_Pick args hp = byvS S_impl_Pick args hp := callS_byv rfl rfl args hp
theorem ok_impl_Pick : InlOk Try.prog 42 (callS G_impl_Pick) := byv_none co_impl_Pick Try.func42 r_impl_Pick rfl (fun _ _ h => h)
/- 37 laws_eqIntS calls []  -/
def B0_laws_eqIntS : RC :=
  .seq (.seq (.reg [⟨some 11, none, .mv (.t 5)⟩, ⟨some 12, none, .mv (.t 0)⟩, ⟨some 13, none, .len false (.t 12)⟩, ⟨some 14, none, .bin .lss (.t 11) (.t 13)⟩]) (.cond (.t 14) (.skip) (.exit 0))) (.seq (.block 1 (.seq (.regd [(0, ⟨some 17, none, .mv (.t 0)⟩), (0, ⟨some 18, none, .mv (.t 5)⟩), (1, ⟨some 19, none, .ia 1 (.t 17) (.t 18)⟩), (1, ⟨some 20, none, .ld 1 false (.t 19)⟩), (0, ⟨some 21, none, .mv (.t 1)⟩), (0, ⟨some 22, none, .mv (.t 5)⟩), (1, ⟨some 23, none, .ia 1 (.t 21) (.t 22)⟩), (1, ⟨some 24, none, .ld 1 false (.t 23)⟩), (0, ⟨some 25, none, .bin .neq (.t 20) (.t 24)⟩)] []) (.cond (.t 25) (.seq (.reg [⟨some 4, none, .mv (.c (.bool false))⟩]) (.ret)) (.skip)))) (.reg [⟨some 15, none, .mv (.t 5)⟩, ⟨some 16, none, .bin .add (.t 15) (.c (.int .i64 1))⟩, ⟨some 5, none, .mv (.t 16)⟩]))
def F_laws_eqIntS : RF := ⟨26, 2, [.t 4],
  .seq (.reg [⟨some 4, none, .mv (.c (.bool false))⟩]) (.seq (.seq (.reg [⟨some 6, none, .mv (.t 0)⟩, ⟨some 7, none, .len false (.t 6)⟩, ⟨some 8, none, .mv (.t 1)⟩, ⟨some 9, none, .len false (.t 8)⟩, ⟨some 10, none, .bin .neq (.t 7) (.t 9)⟩]) (.cond (.t 10) (.seq (.reg [⟨some 4, none, .mv (.c (.bool false))⟩]) (.ret)) (.skip))) (.seq (.seq (.reg [⟨some 5, none, .mv (.c (.int .i64 0))⟩]) (.block 0 (.loop [0, 1, 5] [(1, []), (0, [4])] B0_laws_eqIntS))) (.seq (.reg [⟨some 4, none, .mv (.c (.bool true))⟩]) (.ret))))⟩
def K_laws_eqIntS : Keeps := [([0, 1, 5], [(1, []), (0, [4])])]
theorem r_laws_eqIntS : resolveF Try.prog Try.f37 K_laws_eqIntS = some F_laws_eqIntS := by kernel_rfl
noncomputable def X_laws_eqIntS : Ctx := fun _ => none
theorem co_laws_eqIntS : CtxOk Try.prog X_laws_eqIntS := CtxOk.nil
theorem cx_laws_eqIntS : True := trivial
noncomputable def S_laws_eqIntS : ByV := ⟨none, false, semF X_laws_eqIntS F_laws_eqIntS none false⟩
noncomputable def G_laws_eqIntS : CK := .byv S_laws_eqIntS
theorem sg_laws_eqIntS (args : List AV) : S_laws_eqIntS.sem args = semF X_laws_eqIntS F_laws_eqIntS none false args := rfl
theorem cl_laws_eqIntS (args : List AV) (hp : Hp) : callS G_laws_eqIntS args hp = byvS S_laws_eqIntS args hp := callS_byv rfl rfl args hp
theorem ok_laws_eqIntS : InlOk Try.prog 37 (callS G_laws_eqIntS) := byv_none co_laws_eqIntS Try.func37 r_laws_eqIntS rfl (fun _ _ h => h)
/- 135 laws_eqGate calls [laws_eqIntS]  -/
def F_laws_eqGate : RF := ⟨22, 2, [.t 4],
  .seq (.reg [⟨some 2, none, .box (.t 0)⟩, ⟨some 3, none, .box (.t 1)⟩, ⟨some 4, none, .mv (.c (.bool false))⟩]) (.seq (.seq (.reg [⟨some 5, none, .fa 0 (.t 2)⟩, ⟨some 6, none, .ld 1 false (.t 5)⟩, ⟨some 7, none, .fa 0 (.t 3)⟩, ⟨some 8, none, .ld 1 false (.t 7)⟩, ⟨some 9, none, .bin .neq (.t 6) (.t 8)⟩]) (.cond (.t 9) (.seq (.reg [⟨some 4, none, .mv (.c (.bool false))⟩]) (.ret)) (.skip))) (.seq (.seq (.reg [⟨some 10, none, .fa 1 (.t 2)⟩, ⟨some 11, none, .ld 1 false (.t 10)⟩, ⟨some 12, none, .fa 1 (.t 3)⟩, ⟨some 13, none, .ld 1 false (.t 12)⟩, ⟨some 14, none, .call 37 [(.t 11), (.t 13)]⟩, ⟨some 15, none, .un .not (.t 14)⟩]) (.cond (.t 15) (.seq (.reg [⟨some 4, none, .mv (.c (.bool false))⟩]) (.ret)) (.skip))) (.seq (.seq (.reg [⟨some 16, none, .fa 2 (.t 2)⟩, ⟨some 17, none, .ld 1 false (.t 16)⟩, ⟨some 18, none, .fa 2 (.t 3)⟩, ⟨some 19, none, .ld 1 false (.t 18)⟩, ⟨some 20, none, .call 37 [(.t 17), (.t 19)]⟩, ⟨some 21, none, .un .not (.t 20)⟩]) (.cond (.t 21) (.seq (.reg [⟨some 4, none, .mv (.c (.bool false))⟩]) (.ret)) (.skip))) (.seq (.reg [⟨some 4, none, .mv (.c (.bool true))⟩]) (.ret)))))⟩
def K_laws_eqGate : Keeps := []
theorem r_laws_eqGate : resolveF Try.prog Try.f135 K_laws_eqGate = some F_laws_eqGate := by kernel_rfl
noncomputable def X_laws_eqGate : Ctx := Ctx.cons 37 G_laws_eqIntS (fun _ => none)
theorem co_laws_eqGate : CtxOk Try.prog X_laws_eqGate := CtxOk.cons (CtxOk.nil) ok_laws_eqIntS
theorem cx_laws_eqGate : ((∀ args hp, callX X_laws_eqGate 37 args hp = callS G_laws_eqIntS args hp) ∧ (trC (X_laws_eqGate 37) = false)) := ⟨fun _ _ => rfl, rfl⟩
noncomputable def S_laws_eqGate : ByV := ⟨none, false, semF X_laws_eqGate F_laws_eqGate none false⟩
noncomputable def G_laws_eqGate : CK := .byv S_laws_eqGate
theorem sg_laws_eqGate (args : List AV) : S_laws_eqGate.sem args = semF X_laws_eqGate F_laws_eqGate none false args := rfl
theorem cl_laws_eqGate (args : List AV) (hp : Hp) : callS G_laws_eqGate args hp = byvS S_laws_eqGate args hp := callS_byv rfl rfl args hp
theorem ok_laws_eqGate : InlOk Try.prog 135 (callS G_laws_eqGate) := byv_none co_laws_eqGate Try.func135 r_laws_eqGate rfl (fun _ _ h => h)
/- 82 laws_eqGateS calls [laws_eqGate]  -/
def B0_laws_eqGateS : RC :=
  .seq (.seq (.reg [⟨some 11, none, .mv (.t 5)⟩, ⟨some 12, none, .mv (.t 0)⟩, ⟨some 13, none, .len false (.t 12)⟩, ⟨some 14, none, .bin .lss (.t 11) (.t 13)⟩]) (.cond (.t 14) (.skip) (.exit 0))) (.seq (.block 1 (.seq (.regd [(0, ⟨some 17, none, .mv (.t 0)⟩), (0, ⟨some 18, none, .mv (.t 5)⟩), (1, ⟨some 19, none, .ia 3 (.t 17) (.t 18)⟩), (1, ⟨some 20, none, .ld 3 true (.t 19)⟩), (0, ⟨some 21, none, .mv (.t 1)⟩), (0, ⟨some 22, none, .mv (.t 5)⟩), (1, ⟨some 23, none, .ia 3 (.t 21) (.t 22)⟩), (1, ⟨some 24, none, .ld 3 true (.t 23)⟩), (1, ⟨some 25, none, .call 135 [(.t 20), (.t 24)]⟩), (0, ⟨some 26, none, .un .not (.t 25)⟩)] []) (.cond (.t 26) (.seq (.reg [⟨some 4, none, .mv (.c (.bool false))⟩]) (.ret)) (.skip)))) (.reg [⟨some 15, none, .mv (.t 5)⟩, ⟨some 16, none, .bin .add (.t 15) (.c (.int .i64 1))⟩, ⟨some 5, none, .mv (.t 16)⟩]))
def F_laws_eqGateS : RF := ⟨27, 2, [.t 4],
  .seq (.reg [⟨some 4, none, .mv (.c (.bool false))⟩]) (.seq (.seq (.reg [⟨some 6, none, .mv (.t 0)⟩, ⟨some 7, none, .len false (.t 6)⟩, ⟨some 8, none, .mv (.t 1)⟩, ⟨some 9, none, .len false (.t 8)⟩, ⟨some 10, none, .bin .neq (.t 7) (.t 9)⟩]) (.cond (.t 10) (.seq (.reg [⟨some 4, none, .mv (.c (.bool false))⟩]) (.ret)) (.skip))) (.seq (.seq (.reg [⟨some 5, none, .mv (.c (.int .i64 0))⟩]) (.block 0 (.loop [0, 1, 5] [(1, []), (0, [4])] B0_laws_eqGateS))) (.seq (.reg [⟨some 4, none, .mv (.c (.bool true))⟩]) (.ret))))⟩
def K_laws_eqGateS : Keeps := [([0, 1, 5], [(1, []), (0, [4])])]
theorem r_laws_eqGateS : resolveF Try.prog Try.f82 K_laws_eqGateS = some F_laws_eqGateS := by kernel_rfl
noncomputable def X_laws_eqGateS : Ctx := Ctx.cons 135 G_laws_eqGate (fun _ => none)
theorem co_laws_eqGateS : CtxOk Try.prog X_laws_eqGateS := CtxOk.cons (CtxOk.nil) ok_laws_eqGate
theorem cx_laws_eqGateS : ((∀ args hp, callX X_laws_eqGateS 135 args hp = callS G_laws_eqGate args hp) ∧ (trC (X_laws_eqGateS 135) = false)) := ⟨fun _ _ => rfl, rfl⟩
noncomputable def S_laws_eqGateS : ByV := ⟨none, false, semF X_laws_eqGateS F_laws_eqGateS none false⟩
noncomputable def G_laws_eqGateS : CK := .byv S_laws_eqGateS
theorem sg_laws_eqGateS (args : List AV) : S_laws_eqGateS.sem args = semF X_laws_eqGateS F_laws_eqGateS none false args := rfl
theorem cl_laws_eqGateS (args : List AV) (hp : Hp) : callS G_laws_eqGateS args hp = byvS S_laws_eqGateS args hp := callS_byv rfl rfl args hp
theorem ok_laws_eqGateS : InlOk Try.prog 82 (callS G_laws_eqGateS) := byv_none co_laws_eqGateS Try.func82 r_laws_eqGateS rfl (fun _ _ h => h)
/- 30 laws_eqCore calls [laws_eqIntS]  -/
def F_laws_eqCore : RF := ⟨21, 2, [.t 4],
  .seq (.reg [⟨some 2, none, .box (.t 0)⟩, ⟨some 3, none, .box (.t 1)⟩, ⟨some 4, none, .mv (.c (.bool false))⟩]) (.seq (.seq (.reg [⟨some 5, none, .fa 0 (.t 2)⟩, ⟨some 6, none, .ld 1 false (.t 5)⟩, ⟨some 7, none, .fa 0 (.t 3)⟩, ⟨some 8, none, .ld 1 false (.t 7)⟩, ⟨some 9, none, .call 37 [(.t 6), (.t 8)]⟩, ⟨some 10, none, .un .not (.t 9)⟩]) (.cond (.t 10) (.seq (.reg [⟨some 4, none, .mv (.c (.bool false))⟩]) (.ret)) (.skip))) (.seq (.seq (.reg [⟨some 11, none, .fa 1 (.t 2)⟩, ⟨some 12, none, .ld 1 false (.t 11)⟩, ⟨some 13, none, .fa 1 (.t 3)⟩, ⟨some 14, none, .ld 1 false (.t 13)⟩, ⟨some 15, none, .bin .neq (.t 12) (.t 14)⟩]) (.cond (.t 15) (.seq (.reg [⟨some 4, none, .mv (.c (.bool false))⟩]) (.ret)) (.skip))) (.seq (.seq (.reg [⟨some 16, none, .fa 2 (.t 2)⟩, ⟨some 17, none, .ld 1 false (.t 16)⟩, ⟨some 18, none, .fa 2 (.t 3)⟩, ⟨some 19, none, .ld 1 false (.t 18)⟩, ⟨some 20, none, .bin .neq (.t 17) (.t 19)⟩]) (.cond (.t 20) (.seq (.reg [⟨some 4, none, .mv (.c (.bool false))⟩]) (.ret)) (.skip))) (.seq (.reg [⟨some 4, none, .mv (.c (.bool true))⟩]) (.ret)))))⟩
def K_laws_eqCore : Keeps := []
theorem r_laws_eqCore : resolveF Try.prog Try.f30 K_laws_eqCore = some F_laws_eqCore := by kernel_rfl
noncomputable def X_laws_eqCore : Ctx := Ctx.cons 37 G_laws_eqIntS (fun _ => none)
theorem co_laws_eqCore : CtxOk Try.prog X_laws_eqCore := CtxOk.cons (CtxOk.nil) ok_laws_eqIntS
theorem cx_laws_eqCore : ((∀ args hp, callX X_laws_eqCore 37 args hp = callS G_laws_eqIntS args hp) ∧ (trC (X_laws_eqCore 37) = false)) := ⟨fun _ _ => rfl, rfl⟩
noncomputable def S_laws_eqCore : ByV := ⟨none, false, semF X_laws_eqCore F_laws_eqCore none false⟩
noncomputable def G_laws_eqCore : CK := .byv S_laws_eqCore
theorem sg_laws_eqCore (args : List AV) : S_laws_eqCore.sem args = semF X_laws_eqCore F_laws_eqCore none false args := rfl
theorem cl_laws_eqCore (args : List AV) (hp : Hp) : callS G_laws_eqCore args hp = byvS S_laws_eqCore args hp := callS_byv rfl rfl args hp
theorem ok_laws_eqCore : InlOk Try.prog 30 (callS G_laws_eqCore) := byv_none co_laws_eqCore Try.func30 r_laws_eqCore rfl (fun _ _ h => h)
/- 65 laws_eqCoreS calls [laws_eqCore]  -/
def B0_laws_eqCoreS : RC :=
  .seq (.seq (.reg [⟨some 11, none, .mv (.t 5)⟩, ⟨some 12, none, .mv (.t 0)⟩, ⟨some 13, none, .len false (.t 12)⟩, ⟨some 14, none, .bin .lss (.t 11) (.t 13)⟩]) (.cond (.t 14) (.skip) (.exit 0))) (.seq (.block 1 (.seq (.regd [(0, ⟨some 17, none, .mv (.t 0)⟩), (0, ⟨some 18, none, .mv (.t 5)⟩), (1, ⟨some 19, none, .ia 3 (.t 17) (.t 18)⟩), (1, ⟨some 20, none, .ld 3 true (.t 19)⟩), (0, ⟨some 21, none, .mv (.t 1)⟩), (0, ⟨some 22, none, .mv (.t 5)⟩), (1, ⟨some 23, none, .ia 3 (.t 21) (.t 22)⟩), (1, ⟨some 24, none, .ld 3 true (.t 23)⟩), (1, ⟨some 25, none, .call 30 [(.t 20), (.t 24)]⟩), (0, ⟨some 26, none, .un .not (.t 25)⟩)] []) (.cond (.t 26) (.seq (.reg [⟨some 4, none, .mv (.c (.bool false))⟩]) (.ret)) (.skip)))) (.reg [⟨some 15, none, .mv (.t 5)⟩, ⟨some 16, none, .bin .add (.t 15) (.c (.int .i64 1))⟩, ⟨some 5, none, .mv (.t 16)⟩]))
def F_laws_eqCoreS : RF := ⟨27, 2, [.t 4],
  .seq (.reg [⟨some 4, none, .mv (.c (.bool false))⟩]) (.seq (.seq (.reg [⟨some 6, none, .mv (.t 0)⟩, ⟨some 7, none, .len false (.t 6)⟩, ⟨some 8, none, .mv (.t 1)⟩, ⟨some 9, none, .len false (.t 8)⟩, ⟨some 10, none, .bin .neq (.t 7) (.t 9)⟩]) (.cond (.t 10) (.seq (.reg [⟨some 4, none, .mv (.c (.bool false))⟩]) (.ret)) (.skip))) (.seq (.seq (.reg [⟨some 5, none, .mv (.c (.int .i64 0))⟩]) (.block 0 (.loop [0, 1, 5] [(1, []), (0, [4])] B0_laws_eqCoreS))) (.seq (.reg [⟨some 4, none, .mv (.c (.bool true))⟩]) (.ret))))⟩
def K_laws_eqCoreS : Keeps := [([0, 1, 5], [(1, []), (0, [4])])]
theorem r_laws_eqCoreS : resolveF Try.prog Try.f65 K_laws_eqCoreS = some F_laws_eqCoreS := by kernel_rfl
noncomputable def X_laws_eqCoreS : Ctx := Ctx.cons 30 G_laws_eqCore (fun _ => none)
theorem co_laws_eqCoreS : CtxOk Try.prog X_laws_eqCoreS := CtxOk.cons (CtxOk.nil) ok_laws_eqCore
theorem cx_laws_eqCoreS : ((∀ args hp, callX X_laws_eqCoreS 30 args hp = callS G_laws_eqCore args hp) ∧ (trC (X_laws_eqCoreS 30) = false)) := ⟨fun _ _ => rfl, rfl⟩
noncomputable def S_laws_eqCoreS : ByV := ⟨none, false, semF X_laws_eqCoreS F_laws_eqCoreS none false⟩
noncomputable def G_laws_eqCoreS : CK := .byv S_laws_eqCoreS
theorem sg_laws_eqCoreS (args : List AV) : S_laws_eqCoreS.sem args = semF X_laws_eqCoreS F_laws_eqCoreS none false args := rfl
theorem cl_laws_eqCoreS (args : List AV) (hp : Hp) : callS G_laws_eqCoreS args hp = byvS S_laws_eqCoreS args hp := callS_byv rfl rfl args hp
theorem ok_laws_eqCoreS : InlOk Try.prog 65 (callS G_laws_eqCoreS) := byv_none co_laws_eqCoreS Try.func65 r_laws_eqCoreS rfl (fun _ _ h => h)
/- 83 laws_eqBoolS calls []  -/
def B0_laws_eqBoolS : RC :=
  .seq (.seq (.reg [⟨some 11, none, .mv (.t 5)⟩, ⟨some 12, none, .mv (.t 0)⟩, ⟨some 13, none, .len false (.t 12)⟩, ⟨some 14, none, .bin .lss (.t 11) (.t 13)⟩]) (.cond (.t 14) (.skip) (.exit 0))) (.seq (.block 1 (.seq (.regd [(0, ⟨some 17, none, .mv (.t 0)⟩), (0, ⟨some 18, none, .mv (.t 5)⟩), (1, ⟨some 19, none, .ia 1 (.t 17) (.t 18)⟩), (1, ⟨some 20, none, .ld 1 false (.t 19)⟩), (0, ⟨some 21, none, .mv (.t 1)⟩), (0, ⟨some 22, none, .mv (.t 5)⟩), (1, ⟨some 23, none, .ia 1 (.t 21) (.t 22)⟩), (1, ⟨some 24, none, .ld 1 false (.t 23)⟩), (0, ⟨some 25, none, .bib .neq (.t 20) (.t 24)⟩)] []) (.cond (.t 25) (.seq (.reg [⟨some 4, none, .mv (.c (.bool false))⟩]) (.ret)) (.skip)))) (.reg [⟨some 15, none, .mv (.t 5)⟩, ⟨some 16, none, .bin .add (.t 15) (.c (.int .i64 1))⟩, ⟨some 5, none, .mv (.t 16)⟩]))
def F_laws_eqBoolS : RF := ⟨26, 2, [.t 4],
  .seq (.reg [⟨some 4, none, .mv (.c (.bool false))⟩]) (.seq (.seq (.reg [⟨some 6, none, .mv (.t 0)⟩, ⟨some 7, none, .len false (.t 6)⟩, ⟨some 8, none, .mv (.t 1)⟩, ⟨some 9, none, .len false (.t 8)⟩, ⟨some 10, none, .bin .neq (.t 7) (.t 9)⟩]) (.cond (.t 10) (.seq (.reg [⟨some 4, none, .mv (.c (.bool false))⟩]) (.ret)) (.skip))) (.seq (.seq (.reg [⟨some 5, none, .mv (.c (.int .i64 0))⟩]) (.block 0 (.loop [0, 1, 5] [(1, []), (0, [4])] B0_laws_eqBoolS))) (.seq (.reg [⟨some 4, none, .mv (.c (.bool true))⟩]) (.ret))))⟩
def K_laws_eqBoolS : Keeps := [([0, 1, 5], [(1, []), (0, [4])])]
theorem r_laws_eqBoolS : resolveF Try.prog Try.f83 K_laws_eqBoolS = some F_laws_eqBoolS := by kernel_rfl
noncomputable def X_laws_eqBoolS : Ctx := fun _ => none
theorem co_laws_eqBoolS : CtxOk Try.prog X_laws_eqBoolS := CtxOk.nil
theorem cx_laws_eqBoolS : True := trivial
noncomputable def S_laws_eqBoolS : ByV := ⟨none, false, semF X_laws_eqBoolS F_laws_eqBoolS none false⟩
noncomputable def G_laws_eqBoolS : CK := .byv S_laws_eqBoolS
theorem sg_laws_eqBoolS (args : List AV) : S_laws_eqBoolS.sem args = semF X_laws_eqBoolS F_laws_eqBoolS none false args := rfl
theorem cl_laws_eqBoolS (args : List AV) (hp : Hp) : callS G_laws_eqBoolS args hp = byvS S_laws_eqBoolS args hp := callS_byv rfl rfl args hp
theorem ok_laws_eqBoolS : InlOk Try.prog 83 (callS G_laws_eqBoolS) := byv_none co_laws_eqBoolS Try.func83 r_laws_eqBoolS rfl (fun _ _ h => h)
/- 29 laws_eqKernel calls [laws_eqGateS, laws_eqIntS, laws_eqCoreS, laws_eqBoolS]  -/
def F_laws_eqKernel : RF := ⟨29, 2, [.t 4],
  .seq (.reg [⟨some 2, none, .box (.t 0)⟩, ⟨some 3, none, .box (.t 1)⟩, ⟨some 4, none, .mv (.c (.bool false))⟩]) (.seq (.seq (.reg [⟨some 5, none, .fa 0 (.t 2)⟩, ⟨some 6, none, .ld 1 false (.t 5)⟩, ⟨some 7, none, .fa 0 (.t 3)⟩, ⟨some 8, none, .ld 1 false (.t 7)⟩, ⟨some 9, none, .call 82 [(.t 6), (.t 8)]⟩, ⟨some 10, none, .un .not (.t 9)⟩]) (.cond (.t 10) (.seq (.reg [⟨some 4, none, .mv (.c (.bool false))⟩]) (.ret)) (.skip))) (.seq (.seq (.reg [⟨some 11, none, .fa 1 (.t 2)⟩, ⟨some 12, none, .ld 1 false (.t 11)⟩, ⟨some 13, none, .fa 1 (.t 3)⟩, ⟨some 14, none, .ld 1 false (.t 13)⟩, ⟨some 15, none, .call 37 [(.t 12), (.t 14)]⟩, ⟨some 16, none, .un .not (.t 15)⟩]) (.cond (.t 16) (.seq (.reg [⟨some 4, none, .mv (.c (.bool false))⟩]) (.ret)) (.skip))) (.seq (.seq (.reg [⟨some 17, none, .fa 2 (.t 2)⟩, ⟨some 18, none, .ld 1 false (.t 17)⟩, ⟨some 19, none, .fa 2 (.t 3)⟩, ⟨some 20, none, .ld 1 false (.t 19)⟩, ⟨some 21, none, .call 65 [(.t 18), (.t 20)]⟩, ⟨some 22, none, .un .not (.t 21)⟩]) (.cond (.t 22) (.seq (.reg [⟨some 4, none, .mv (.c (.bool false))⟩]) (.ret)) (.skip))) (.seq (.seq (.reg [⟨some 23, none, .fa 3 (.t 2)⟩, ⟨some 24, none, .ld 1 false (.t 23)⟩, ⟨some 25, none, .fa 3 (.t 3)⟩, ⟨some 26, none, .ld 1 false (.t 25)⟩, ⟨some 27, none, .call 83 [(.t 24), (.t 26)]⟩, ⟨some 28, none, .un .not (.t 27)⟩]) (.cond (.t 28) (.seq (.reg [⟨some 4, none, .mv (.c (.bool false))⟩]) (.ret)) (.skip))) (.seq (.reg [⟨some 4, none, .mv (.c (.bool true))⟩]) (.ret))))))⟩
def K_laws_eqKernel : Keeps := []
theorem r_laws_eqKernel : resolveF Try.prog Try.f29 K_laws_eqKernel = some F_laws_eqKernel := by kernel_rfl
noncomputable def X_laws_eqKernel : Ctx := Ctx.cons 82 G_laws_eqGateS (Ctx.cons 37 G_laws_eqIntS (Ctx.cons 65 G_laws_eqCoreS (Ctx.cons 83 G_laws_eqBoolS (fun _ => none))))
theorem co_laws_eqKernel : CtxOk Try.prog X_laws_eqKernel := CtxOk.cons (CtxOk.cons (CtxOk.cons (CtxOk.cons (CtxOk.nil) ok_laws_eqBoolS) ok_laws_eqCoreS) ok_laws_eqIntS) ok_laws_eqGateS
theorem cx_laws_eqKernel : ((∀ args hp, callX X_laws_eqKernel 82 args hp = callS G_laws_eqGateS args hp) ∧ (trC (X_laws_eqKernel 82) = false)) ∧ ((∀ args hp, callX X_laws_eqKernel 37 args hp = callS G_laws_eqIntS args hp) ∧ (trC (X_laws_eqKernel 37) = false)) ∧ ((∀ args hp, callX X_laws_eqKernel 65 args hp = callS G_laws_eqCoreS args hp) ∧ (trC (X_laws_eqKernel 65) = false)) ∧ ((∀ args hp, callX X_laws_eqKernel 83 args hp = callS G_laws_eqBoolS args hp) ∧ (trC (X_laws_eqKernel 83) = false)) := ⟨⟨fun _ _ => rfl, rfl⟩, ⟨fun _ _ => rfl, rfl⟩, ⟨fun _ _ => rfl, rfl⟩, ⟨fun _ _ => rfl, rfl⟩⟩
noncomputable def S_laws_eqKernel : ByV := ⟨none, false, semF X_laws_eqKernel F_laws_eqKernel none false⟩
noncomputable def G_laws_eqKernel : CK := .byv S_laws_eqKernel
theorem sg_laws_eqKernel (args : List AV) : S_laws_eqKernel.sem args = semF X_laws_eqKernel F_laws_eqKernel none false args := rfl
theorem cl_laws_eqKernel (args : List AV) (hp : Hp) : callS G_laws_eqKernel args hp = byvS S_laws_eqKernel args hp := callS_byv rfl rfl args hp
theorem ok_laws_eqKernel : InlOk Try.prog 29 (callS G_laws_eqKernel) := byv_none co_laws_eqKernel Try.func29 r_laws_eqKernel rfl (fun _ _ h => h)
/- 38 laws_markIntS calls []  -/
def B0_laws_markIntS : RC :=
  .seq (.seq (.reg [⟨some 6, none, .mv (.t 5)⟩, ⟨some 7, none, .mv (.t 0)⟩, ⟨some 8, none, .len false (.t 7)⟩, ⟨some 9, none, .bin .lss (.t 6) (.t 8)⟩]) (.cond (.t 9) (.skip) (.exit 0))) (.seq (.block 1 (.seq (.reg [⟨some 12, none, .mv (.t 0)⟩, ⟨some 13, none, .mv (.t 5)⟩, ⟨some 14, none, .mv (.t 1)⟩, ⟨some 15, none, .ia 1 (.t 12) (.t 13)⟩, ⟨none, none, .st 1 (.t 15) (.t 14)⟩]) (.reg [⟨some 16, none, .mv (.t 1)⟩, ⟨some 17, none, .bin .add (.t 16) (.c (.int .i64 1))⟩, ⟨some 1, none, .mv (.t 17)⟩]))) (.reg [⟨some 10, none, .mv (.t 5)⟩, ⟨some 11, none, .bin .add (.t 10) (.c (.int .i64 1))⟩, ⟨some 5, none, .mv (.t 11)⟩]))
def F_laws_markIntS : RF := ⟨19, 2, [.t 4],
  .seq (.reg [⟨some 4, none, .mv (.c (.int .i64 0))⟩]) (.seq (.seq (.reg [⟨some 5, none, .mv (.c (.int .i64 0))⟩]) (.block 0 (.loop [0, 1, 5] [(1, [1])] B0_laws_markIntS))) (.seq (.reg [⟨some 18, none, .mv (.t 1)⟩, ⟨some 4, none, .mv (.t 18)⟩]) (.ret)))⟩
def K_laws_markIntS : Keeps := [([0, 1, 5], [(1, [1])])]
theorem r_laws_markIntS : resolveF Try.prog Try.f38 K_laws_markIntS = some F_laws_markIntS := by kernel_rfl
noncomputable def X_laws_markIntS : Ctx := fun _ => none
theorem co_laws_markIntS : CtxOk Try.prog X_laws_markIntS := CtxOk.nil
theorem cx_laws_markIntS : True := trivial
noncomputable def S_laws_markIntS : ByV := ⟨some 0, false, semF X_laws_markIntS F_laws_markIntS (some 0) false⟩
noncomputable def G_laws_markIntS : CK := .byv S_laws_markIntS
theorem sg_laws_markIntS (args : List AV) : S_laws_markIntS.sem args = semF X_laws_markIntS F_laws_markIntS (some 0) false args := rfl
theorem cl_laws_markIntS (args : List AV) (hp : Hp) : callS G_laws_markIntS args hp = byvM S_laws_markIntS args hp := callS_byvM rfl args hp
theorem ok_laws_markIntS : InlOk Try.prog 38 (callS G_laws_markIntS) := byv_mark co_laws_markIntS Try.func38 r_laws_markIntS rfl (ro := false) (fun _ _ h => h)
/- 84 laws_markGateS calls [laws_markIntS]  -/
def B0_laws_markGateS : RC :=
  .seq (.seq (.reg [⟨some 6, none, .mv (.t 5)⟩, ⟨some 7, none, .mv (.t 0)⟩, ⟨some 8, none, .len false (.t 7)⟩, ⟨some 9, none, .bin .lss (.t 6) (.t 8)⟩]) (.cond (.t 9) (.skip) (.exit 0))) (.seq (.block 1 (.seq (.reg [⟨some 12, none, .mv (.t 0)⟩, ⟨some 13, none, .mv (.t 5)⟩, ⟨some 14, none, .mv (.t 1)⟩, ⟨some 15, none, .ia 3 (.t 12) (.t 13)⟩, ⟨some 16, none, .fa 0 (.t 15)⟩, ⟨none, none, .st 1 (.t 16) (.t 14)⟩]) (.seq (.reg [⟨some 17, none, .mv (.t 1)⟩, ⟨some 18, none, .bin .add (.t 17) (.c (.int .i64 1))⟩, ⟨some 1, none, .mv (.t 18)⟩]) (.seq (.reg [⟨some 19, none, .mv (.t 0)⟩, ⟨some 20, none, .mv (.t 5)⟩, ⟨some 21, none, .ia 3 (.t 19) (.t 20)⟩, ⟨some 22, none, .fa 1 (.t 21)⟩, ⟨some 23, none, .ld 1 false (.t 22)⟩, ⟨some 24, none, .mv (.t 1)⟩, ⟨some 25, none, .call 38 [(.t 23), (.t 24)]⟩, ⟨some 1, none, .mv (.t 25)⟩]) (.reg [⟨some 26, none, .mv (.t 0)⟩, ⟨some 27, none, .mv (.t 5)⟩, ⟨some 28, none, .ia 3 (.t 26) (.t 27)⟩, ⟨some 29, none, .fa 2 (.t 28)⟩, ⟨some 30, none, .ld 1 false (.t 29)⟩, ⟨some 31, none, .mv (.t 1)⟩, ⟨some 32, none, .call 38 [(.t 30), (.t 31)]⟩, ⟨some 1, none, .mv (.t 32)⟩]))))) (.reg [⟨some 10, none, .mv (.t 5)⟩, ⟨some 11, none, .bin .add (.t 10) (.c (.int .i64 1))⟩, ⟨some 5, none, .mv (.t 11)⟩]))
def F_laws_markGateS : RF := ⟨34, 2, [.t 4],
  .seq (.reg [⟨some 4, none, .mv (.c (.int .i64 0))⟩]) (.seq (.seq (.reg [⟨some 5, none, .mv (.c (.int .i64 0))⟩]) (.block 0 (.loop [0, 1, 5] [(1, [1])] B0_laws_markGateS))) (.seq (.reg [⟨some 33, none, .mv (.t 1)⟩, ⟨some 4, none, .mv (.t 33)⟩]) (.ret)))⟩
def K_laws_markGateS : Keeps := [([0, 1, 5], [(1, [1])])]
theorem r_laws_markGateS : resolveF Try.prog Try.f84 K_laws_markGateS = some F_laws_markGateS := by kernel_rfl
noncomputable def X_laws_markGateS : Ctx := Ctx.cons 38 G_laws_markIntS (fun _ => none)
theorem co_laws_markGateS : CtxOk Try.prog X_laws_markGateS := CtxOk.cons (CtxOk.nil) ok_laws_markIntS
theorem cx_laws_markGateS : ((∀ args hp, callX X_laws_markGateS 38 args hp = callS G_laws_markIntS args hp) ∧ (trC (X_laws_markGateS 38) = true)) := ⟨fun _ _ => rfl, rfl⟩
noncomputable def S_laws_markGateS : ByV := ⟨some 0, false, semF X_laws_markGateS F_laws_markGateS (some 0) false⟩
noncomputable def G_laws_markGateS : CK := .byv S_laws_markGateS
theorem sg_laws_markGateS (args : List AV) : S_laws_markGateS.sem args = semF X_laws_markGateS F_laws_markGateS (some 0) false args := rfl
theorem cl_laws_markGateS (args : List AV) (hp : Hp) : callS G_laws_markGateS args hp = byvM S_laws_markGateS args hp := callS_byvM rfl args hp
theorem ok_laws_markGateS : InlOk Try.prog 84 (callS G_laws_markGateS) := byv_mark co_laws_markGateS Try.func84 r_laws_markGateS rfl (ro := false) (fun _ _ h => h)
/- 85 laws_markCoreS calls [laws_markIntS]  -/
def B0_laws_markCoreS : RC :=
  .seq (.seq (.reg [⟨some 6, none, .mv (.t 5)⟩, ⟨some 7, none, .mv (.t 0)⟩, ⟨some 8, none, .len false (.t 7)⟩, ⟨some 9, none, .bin .lss (.t 6) (.t 8)⟩]) (.cond (.t 9) (.skip) (.exit 0))) (.seq (.block 1 (.seq (.reg [⟨some 12, none, .mv (.t 0)⟩, ⟨some 13, none, .mv (.t 5)⟩, ⟨some 14, none, .ia 3 (.t 12) (.t 13)⟩, ⟨some 15, none, .fa 0 (.t 14)⟩, ⟨some 16, none, .ld 1 false (.t 15)⟩, ⟨some 17, none, .mv (.t 1)⟩, ⟨some 18, none, .call 38 [(.t 16), (.t 17)]⟩, ⟨some 1, none, .mv (.t 18)⟩]) (.seq (.reg [⟨some 19, none, .mv (.t 0)⟩, ⟨some 20, none, .mv (.t 5)⟩, ⟨some 21, none, .mv (.t 1)⟩, ⟨some 22, none, .ia 3 (.t 19) (.t 20)⟩, ⟨some 23, none, .fa 1 (.t 22)⟩, ⟨none, none, .st 1 (.t 23) (.t 21)⟩]) (.seq (.reg [⟨some 24, none, .mv (.t 1)⟩, ⟨some 25, none, .bin .add (.t 24) (.c (.int .i64 1))⟩, ⟨some 1, none, .mv (.t 25)⟩]) (.seq (.reg [⟨some 26, none, .mv (.t 0)⟩, ⟨some 27, none, .mv (.t 5)⟩, ⟨some 28, none, .mv (.t 1)⟩, ⟨some 29, none, .ia 3 (.t 26) (.t 27)⟩, ⟨some 30, none, .fa 2 (.t 29)⟩, ⟨none, none, .st 1 (.t 30) (.t 28)⟩]) (.reg [⟨some 31, none, .mv (.t 1)⟩, ⟨some 32, none, .bin .add (.t 31) (.c (.int .i64 1))⟩, ⟨some 1, none, .mv (.t 32)⟩])))))) (.reg [⟨some 10, none, .mv (.t 5)⟩, ⟨some 11, none, .bin .add (.t 10) (.c (.int .i64 1))⟩, ⟨some 5, none, .mv (.t 11)⟩]))
def F_laws_markCoreS : RF := ⟨34, 2, [.t 4],
  .seq (.reg [⟨some 4, none, .mv (.c (.int .i64 0))⟩]) (.seq (.seq (.reg [⟨some 5, none, .mv (.c (.int .i64 0))⟩]) (.block 0 (.loop [0, 1, 5] [(1, [1])] B0_laws_markCoreS))) (.seq (.reg [⟨some 33, none, .mv (.t 1)⟩, ⟨some 4, none, .mv (.t 33)⟩]) (.ret)))⟩
def K_laws_markCoreS : Keeps := [([0, 1, 5], [(1, [1])])]
theorem r_laws_markCoreS : resolveF Try.prog Try.f85 K_laws_markCoreS = some F_laws_markCoreS := by kernel_rfl
noncomputable def X_laws_markCoreS : Ctx := Ctx.cons 38 G_laws_markIntS (fun _ => none)
theorem co_laws_markCoreS : CtxOk Try.prog X_laws_markCoreS := CtxOk.cons (CtxOk.nil) ok_laws_markIntS
theorem cx_laws_markCoreS : ((∀ args hp, callX X_laws_markCoreS 38 args hp = callS G_laws_markIntS args hp) ∧ (trC (X_laws_markCoreS 38) = true)) := ⟨fun _ _ => rfl, rfl⟩
noncomputable def S_laws_markCoreS : ByV := ⟨some 0, false, semF X_laws_markCoreS F_laws_markCoreS (some 0) false⟩
noncomputable def G_laws_markCoreS : CK := .byv S_laws_markCoreS
theorem sg_laws_markCoreS (args : List AV) : S_laws_markCoreS.sem args = semF X_laws_markCoreS F_laws_markCoreS (some 0) false args := rfl
theorem cl_laws_markCoreS (args : List AV) (hp : Hp) : callS G_laws_markCoreS args hp = byvM S_laws_markCoreS args hp := callS_byvM rfl args hp
theorem ok_laws_markCoreS : InlOk Try.prog 85 (callS G_laws_markCoreS) := byv_mark co_laws_markCoreS Try.func85 r_laws_markCoreS rfl (ro := false) (fun _ _ h => h)
/- 86 laws_markBoolS calls []  -/
def B0_laws_markBoolS : RC :=
  .seq (.seq (.reg [⟨some 6, none, .mv (.t 5)⟩, ⟨some 7, none, .mv (.t 0)⟩, ⟨some 8, none, .len false (.t 7)⟩, ⟨some 9, none, .bin .lss (.t 6) (.t 8)⟩]) (.cond (.t 9) (.skip) (.exit 0))) (.seq (.block 1 (.seq (.reg [⟨some 12, none, .mv (.t 0)⟩, ⟨some 13, none, .mv (.t 5)⟩, ⟨some 14, none, .mv (.t 1)⟩, ⟨some 15, none, .bin .rem (.t 14) (.c (.int .i64 3))⟩, ⟨some 16, none, .bin .eql (.t 15) (.c (.int .i64 0))⟩, ⟨some 17, none, .ia 1 (.t 12) (.t 13)⟩, ⟨none, none, .st 1 (.t 17) (.t 16)⟩]) (.reg [⟨some 18, none, .mv (.t 1)⟩, ⟨some 19, none, .bin .add (.t 18) (.c (.int .i64 1))⟩, ⟨some 1, none, .mv (.t 19)⟩]))) (.reg [⟨some 10, none, .mv (.t 5)⟩, ⟨some 11, none, .bin .add (.t 10) (.c (.int .i64 1))⟩, ⟨some 5, none, .mv (.t 11)⟩]))
def F_laws_markBoolS : RF := ⟨21, 2, [.t 4],
  .seq (.reg [⟨some 4, none, .mv (.c (.int .i64 0))⟩]) (.seq (.seq (.reg [⟨some 5, none, .mv (.c (.int .i64 0))⟩]) (.block 0 (.loop [0, 1, 5] [(1, [1])] B0_laws_markBoolS))) (.seq (.reg [⟨some 20, none, .mv (.t 1)⟩, ⟨some 4, none, .mv (.t 20)⟩]) (.ret)))⟩
def K_laws_markBoolS : Keeps := [([0, 1, 5], [(1, [1])])]
theorem r_laws_markBoolS : resolveF Try.prog Try.f86 K_laws_markBoolS = some F_laws_markBoolS := by kernel_rfl
noncomputable def X_laws_markBoolS : Ctx := fun _ => none
theorem co_laws_markBoolS : CtxOk Try.prog X_laws_markBoolS := CtxOk.nil
theorem cx_laws_markBoolS : True := trivial
noncomputable def S_laws_markBoolS : ByV := ⟨some 0, false, semF X_laws_markBoolS F_laws_markBoolS (some 0) false⟩
noncomputable def G_laws_markBoolS : CK := .byv S_laws_markBoolS
theorem sg_laws_markBoolS (args : List AV) : S_laws_markBoolS.sem args = semF X_laws_markBoolS F_laws_markBoolS (some 0) false args := rfl
theorem cl_laws_markBoolS (args : List AV) (hp : Hp) : callS G_laws_markBoolS args hp = byvM S_laws_markBoolS args hp := callS_byvM rfl args hp
theorem ok_laws_markBoolS : InlOk Try.prog 86 (callS G_laws_markBoolS) := byv_mark co_laws_markBoolS Try.func86 r_laws_markBoolS rfl (ro := false) (fun _ _ h => h)
/- 31 laws_markKernel calls [laws_markGateS, laws_markIntS, laws_markCoreS, laws_markBoolS] inl -/
def F_laws_markKernel : RF := ⟨22, 2, [.t 4],
  .seq (.reg [⟨some 2, none, .box (.t 0)⟩, ⟨some 4, none, .mv (.c (.int .i64 0))⟩]) (.seq (.reg [⟨some 5, none, .fa 0 (.t 2)⟩, ⟨some 6, none, .ld 1 false (.t 5)⟩, ⟨some 7, none, .mv (.t 1)⟩, ⟨some 8, none, .call 84 [(.t 6), (.t 7)]⟩, ⟨some 1, none, .mv (.t 8)⟩]) (.seq (.reg [⟨some 9, none, .fa 1 (.t 2)⟩, ⟨some 10, none, .ld 1 false (.t 9)⟩, ⟨some 11, none, .mv (.t 1)⟩, ⟨some 12, none, .call 38 [(.t 10), (.t 11)]⟩, ⟨some 1, none, .mv (.t 12)⟩]) (.seq (.reg [⟨some 13, none, .fa 2 (.t 2)⟩, ⟨some 14, none, .ld 1 false (.t 13)⟩, ⟨some 15, none, .mv (.t 1)⟩, ⟨some 16, none, .call 85 [(.t 14), (.t 15)]⟩, ⟨some 1, none, .mv (.t 16)⟩]) (.seq (.reg [⟨some 17, none, .fa 3 (.t 2)⟩, ⟨some 18, none, .ld 1 false (.t 17)⟩, ⟨some 19, none, .mv (.t 1)⟩, ⟨some 20, none, .call 86 [(.t 18), (.t 19)]⟩, ⟨some 1, none, .mv (.t 20)⟩]) (.seq (.reg [⟨some 21, none, .mv (.t 1)⟩, ⟨some 4, none, .mv (.t 21)⟩]) (.ret))))))⟩
def K_laws_markKernel : Keeps := []
theorem r_laws_markKernel : resolveF Try.prog Try.f31 K_laws_markKernel = some F_laws_markKernel := by kernel_rfl
noncomputable def X_laws_markKernel : Ctx := Ctx.cons 84 G_laws_markGateS (Ctx.cons 38 G_laws_markIntS (Ctx.cons 85 G_laws_markCoreS (Ctx.cons 86 G_laws_markBoolS (fun _ => none))))
theorem co_laws_markKernel : CtxOk Try.prog X_laws_markKernel := CtxOk.cons (CtxOk.cons (CtxOk.cons (CtxOk.cons (CtxOk.nil) ok_laws_markBoolS) ok_laws_markCoreS) ok_laws_markIntS) ok_laws_markGateS
theorem cx_laws_markKernel : ((∀ args hp, callX X_laws_markKernel 84 args hp = callS G_laws_markGateS args hp) ∧ (trC (X_laws_markKernel 84) = true)) ∧ ((∀ args hp, callX X_laws_markKernel 38 args hp = callS G_laws_markIntS args hp) ∧ (trC (X_laws_markKernel 38) = true)) ∧ ((∀ args hp, callX X_laws_markKernel 85 args hp = callS G_laws_markCoreS args hp) ∧ (trC (X_laws_markKernel 85) = true)) ∧ ((∀ args hp, callX X_laws_markKernel 86 args hp = callS G_laws_markBoolS args hp) ∧ (trC (X_laws_markKernel 86) = true)) := ⟨⟨fun _ _ => rfl, rfl⟩, ⟨fun _ _ => rfl, rfl⟩, ⟨fun _ _ => rfl, rfl⟩, ⟨fun _ _ => rfl, rfl⟩⟩
noncomputable def G_laws_markKernel : CK := .inl (runF X_laws_markKernel F_laws_markKernel)
theorem cl_laws_markKernel (args : List AV) (hp : Hp) : callS G_laws_markKernel args hp = runF X_laws_markKernel F_laws_markKernel args hp := rfl
theorem ok_laws_markKernel : InlOk Try.prog 31 (callS G_laws_markKernel) := runF_ok co_laws_markKernel Try.func31 r_laws_markKernel
/- 32 laws_markCore calls [laws_markIntS] inl -/
def F_laws_markCore : RF := ⟨10, 2, [.t 4],
  .seq (.reg [⟨some 2, none, .box (.t 0)⟩, ⟨some 4, none, .mv (.c (.int .i64 0))⟩]) (.seq (.reg [⟨some 5, none, .fa 0 (.t 2)⟩, ⟨some 6, none, .ld 1 false (.t 5)⟩, ⟨some 7, none, .mv (.t 1)⟩, ⟨some 8, none, .call 38 [(.t 6), (.t 7)]⟩, ⟨some 1, none, .mv (.t 8)⟩]) (.seq (.reg [⟨some 9, none, .mv (.t 1)⟩, ⟨some 4, none, .mv (.t 9)⟩]) (.ret)))⟩
def K_laws_markCore : Keeps := []
theorem r_laws_markCore : resolveF Try.prog Try.f32 K_laws_markCore = some F_laws_markCore := by kernel_rfl
noncomputable def X_laws_markCore : Ctx := Ctx.cons 38 G_laws_markIntS (fun _ => none)
theorem co_laws_markCore : CtxOk Try.prog X_laws_markCore := CtxOk.cons (CtxOk.nil) ok_laws_markIntS
theorem cx_laws_markCore : ((∀ args hp, callX X_laws_markCore 38 args hp = callS G_laws_markIntS args hp) ∧ (trC (X_laws_markCore 38) = true)) := ⟨fun _ _ => rfl, rfl⟩
noncomputable def G_laws_markCore : CK := .inl (runF X_laws_markCore F_laws_markCore)
theorem cl_laws_markCore (args : List AV) (hp : Hp) : callS G_laws_markCore args hp = runF X_laws_markCore F_laws_markCore args hp := rfl
theorem ok_laws_markCore : InlOk Try.prog 32 (callS G_laws_markCore) := runF_ok co_laws_markCore Try.func32 r_laws_markCore
/- 40 laws_heldIntS calls []  -/
def B0_laws_heldIntS : RC :=
  .seq (.seq (.reg [⟨some 6, none, .mv (.t 5)⟩, ⟨some 7, none, .mv (.t 0)⟩, ⟨some 8, none, .len false (.t 7)⟩, ⟨some 9, none, .bin .lss (.t 6) (.t 8)⟩]) (.cond (.t 9) (.skip) (.exit 0))) (.seq (.block 1 (.seq (.seq (.reg [⟨some 12, none, .mv (.t 0)⟩, ⟨some 13, none, .mv (.t 5)⟩, ⟨some 14, none, .ia 1 (.t 12) (.t 13)⟩, ⟨some 15, none, .ld 1 false (.t 14)⟩, ⟨some 16, none, .mv (.t 1)⟩, ⟨some 17, none, .bin .neq (.t 15) (.t 16)⟩]) (.cond (.t 17) (.seq (.reg [⟨some 4, none, .mv (.c (.int .i64 (-1)))⟩]) (.ret)) (.skip))) (.reg [⟨some 18, none, .mv (.t 1)⟩, ⟨some 19, none, .bin .add (.t 18) (.c (.int .i64 1))⟩, ⟨some 1, none, .mv (.t 19)⟩]))) (.reg [⟨some 10, none, .mv (.t 5)⟩, ⟨some 11, none, .bin .add (.t 10) (.c (.int .i64 1))⟩, ⟨some 5, none, .mv (.t 11)⟩]))
def F_laws_heldIntS : RF := ⟨21, 2, [.t 4],
  .seq (.reg [⟨some 4, none, .mv (.c (.int .i64 0))⟩]) (.seq (.seq (.reg [⟨some 5, none, .mv (.c (.int .i64 0))⟩]) (.block 0 (.loop [0, 1, 5] [(1, [1]), (0, [4])] B0_laws_heldIntS))) (.seq (.reg [⟨some 20, none, .mv (.t 1)⟩, ⟨some 4, none, .mv (.t 20)⟩]) (.ret)))⟩
def K_laws_heldIntS : Keeps := [([0, 1, 5], [(1, [1]), (0, [4])])]
theorem r_laws_heldIntS : resolveF Try.prog Try.f40 K_laws_heldIntS = some F_laws_heldIntS := by kernel_rfl
noncomputable def X_laws_heldIntS : Ctx := fun _ => none
theorem co_laws_heldIntS : CtxOk Try.prog X_laws_heldIntS := CtxOk.nil
theorem cx_laws_heldIntS : True := trivial
noncomputable def S_laws_heldIntS : ByV := ⟨none, false, semF X_laws_heldIntS F_laws_heldIntS none false⟩
noncomputable def G_laws_heldIntS : CK := .byv S_laws_heldIntS
theorem sg_laws_heldIntS (args : List AV) : S_laws_heldIntS.sem args = semF X_laws_heldIntS F_laws_heldIntS none false args := rfl
theorem cl_laws_heldIntS (args : List AV) (hp : Hp) : callS G_laws_heldIntS args hp = byvS S_laws_heldIntS args hp := callS_byv rfl rfl args hp
theorem ok_laws_heldIntS : InlOk Try.prog 40 (callS G_laws_heldIntS) := byv_none co_laws_heldIntS Try.func40 r_laws_heldIntS rfl (fun _ _ h => h)
/- 87 laws_heldGateS calls [laws_heldIntS]  -/
def B0_laws_heldGateS : RC :=
  .seq (.seq (.reg [⟨some 6, none, .mv (.t 5)⟩, ⟨some 7, none, .mv (.t 0)⟩, ⟨some 8, none, .len false (.t 7)⟩, ⟨some 9, none, .bin .lss (.t 6) (.t 8)⟩]) (.cond (.t 9) (.skip) (.exit 0))) (.seq (.block 1 (.seq (.seq (.reg [⟨some 12, none, .mv (.t 0)⟩, ⟨some 13, none, .mv (.t 5)⟩, ⟨some 14, none, .ia 3 (.t 12) (.t 13)⟩, ⟨some 15, none, .fa 0 (.t 14)⟩, ⟨some 16, none, .ld 1 false (.t 15)⟩, ⟨some 17, none, .mv (.t 1)⟩, ⟨some 18, none, .bin .neq (.t 16) (.t 17)⟩]) (.cond (.t 18) (.seq (.reg [⟨some 4, none, .mv (.c (.int .i64 (-1)))⟩]) (.ret)) (.skip))) (.seq (.reg [⟨some 19, none, .mv (.t 1)⟩, ⟨some 20, none, .bin .add (.t 19) (.c (.int .i64 1))⟩, ⟨some 1, none, .mv (.t 20)⟩]) (.seq (.reg [⟨some 21, none, .mv (.t 0)⟩, ⟨some 22, none, .mv (.t 5)⟩, ⟨some 23, none, .ia 3 (.t 21) (.t 22)⟩, ⟨some 24, none, .fa 1 (.t 23)⟩, ⟨some 25, none, .ld 1 false (.t 24)⟩, ⟨some 26, none, .mv (.t 1)⟩, ⟨some 27, none, .call 40 [(.t 25), (.t 26)]⟩, ⟨some 1, none, .mv (.t 27)⟩]) (.seq (.seq (.reg [⟨some 28, none, .mv (.t 1)⟩, ⟨some 29, none, .bin .lss (.t 28) (.c (.int .i64 0))⟩]) (.cond (.t 29) (.seq (.reg [⟨some 4, none, .mv (.c (.int .i64 (-1)))⟩]) (.ret)) (.skip))) (.seq (.reg [⟨some 30, none, .mv (.t 0)⟩, ⟨some 31, none, .mv (.t 5)⟩, ⟨some 32, none, .ia 3 (.t 30) (.t 31)⟩, ⟨some 33, none, .fa 2 (.t 32)⟩, ⟨some 34, none, .ld 1 false (.t 33)⟩, ⟨some 35, none, .mv (.t 1)⟩, ⟨some 36, none, .call 40 [(.t 34), (.t 35)]⟩, ⟨some 1, none, .mv (.t 36)⟩]) (.seq (.reg [⟨some 37, none, .mv (.t 1)⟩, ⟨some 38, none, .bin .lss (.t 37) (.c (.int .i64 0))⟩]) (.cond (.t 38) (.seq (.reg [⟨some 4, none, .mv (.c (.int .i64 (-1)))⟩]) (.ret)) (.skip))))))))) (.reg [⟨some 10, none, .mv (.t 5)⟩, ⟨some 11, none, .bin .add (.t 10) (.c (.int .i64 1))⟩, ⟨some 5, none, .mv (.t 11)⟩]))
def F_laws_heldGateS : RF := ⟨40, 2, [.t 4],
  .seq (.reg [⟨some 4, none, .mv (.c (.int .i64 0))⟩]) (.seq (.seq (.reg [⟨some 5, none, .mv (.c (.int .i64 0))⟩]) (.block 0 (.loop [0, 1, 5] [(1, [1]), (0, [4])] B0_laws_heldGateS))) (.seq (.reg [⟨some 39, none, .mv (.t 1)⟩, ⟨some 4, none, .mv (.t 39)⟩]) (.ret)))⟩
def K_laws_heldGateS : Keeps := [([0, 1, 5], [(1, [1]), (0, [4])])]
theorem r_laws_heldGateS : resolveF Try.prog Try.f87 K_laws_heldGateS = some F_laws_heldGateS := by kernel_rfl
noncomputable def X_laws_heldGateS : Ctx := Ctx.cons 40 G_laws_heldIntS (fun _ => none)
theorem co_laws_heldGateS : CtxOk Try.prog X_laws_heldGateS := CtxOk.cons (CtxOk.nil) ok_laws_heldIntS
theorem cx_laws_heldGateS : ((∀ args hp, callX X_laws_heldGateS 40 args hp = callS G_laws_heldIntS args hp) ∧ (trC (X_laws_heldGateS 40) = false)) := ⟨fun _ _ => rfl, rfl⟩
noncomputable def S_laws_heldGateS : ByV := ⟨none, false, semF X_laws_heldGateS F_laws_heldGateS none false⟩
noncomputable def G_laws_heldGateS : CK := .byv S_laws_heldGateS
theorem sg_laws_heldGateS (args : List AV) : S_laws_heldGateS.sem args = semF X_laws_heldGateS F_laws_heldGateS none false args := rfl
theorem cl_laws_heldGateS (args : List AV) (hp : Hp) : callS G_laws_heldGateS args hp = byvS S_laws_heldGateS args hp := callS_byv rfl rfl args hp
theorem ok_laws_heldGateS : InlOk Try.prog 87 (callS G_laws_heldGateS) := byv_none co_laws_heldGateS Try.func87 r_laws_heldGateS rfl (fun _ _ h => h)
/- 88 laws_heldCoreS calls [laws_heldIntS]  -/
def B0_laws_heldCoreS : RC :=
  .seq (.seq (.reg [⟨some 6, none, .mv (.t 5)⟩, ⟨some 7, none, .mv (.t 0)⟩, ⟨some 8, none, .len false (.t 7)⟩, ⟨some 9, none, .bin .lss (.t 6) (.t 8)⟩]) (.cond (.t 9) (.skip) (.exit 0))) (.seq (.block 1 (.seq (.reg [⟨some 12, none, .mv (.t 0)⟩, ⟨some 13, none, .mv (.t 5)⟩, ⟨some 14, none, .ia 3 (.t 12) (.t 13)⟩, ⟨some 15, none, .fa 0 (.t 14)⟩, ⟨some 16, none, .ld 1 false (.t 15)⟩, ⟨some 17, none, .mv (.t 1)⟩, ⟨some 18, none, .call 40 [(.t 16), (.t 17)]⟩, ⟨some 1, none, .mv (.t 18)⟩]) (.seq (.seq (.reg [⟨some 19, none, .mv (.t 1)⟩, ⟨some 20, none, .bin .lss (.t 19) (.c (.int .i64 0))⟩]) (.cond (.t 20) (.seq (.reg [⟨some 4, none, .mv (.c (.int .i64 (-1)))⟩]) (.ret)) (.skip))) (.seq (.seq (.reg [⟨some 21, none, .mv (.t 0)⟩, ⟨some 22, none, .mv (.t 5)⟩, ⟨some 23, none, .ia 3 (.t 21) (.t 22)⟩, ⟨some 24, none, .fa 1 (.t 23)⟩, ⟨some 25, none, .ld 1 false (.t 24)⟩, ⟨some 26, none, .mv (.t 1)⟩, ⟨some 27, none, .bin .neq (.t 25) (.t 26)⟩]) (.cond (.t 27) (.seq (.reg [⟨some 4, none, .mv (.c (.int .i64 (-1)))⟩]) (.ret)) (.skip))) (.seq (.reg [⟨some 28, none, .mv (.t 1)⟩, ⟨some 29, none, .bin .add (.t 28) (.c (.int .i64 1))⟩, ⟨some 1, none, .mv (.t 29)⟩]) (.seq (.seq (.reg [⟨some 30, none, .mv (.t 0)⟩, ⟨some 31, none, .mv (.t 5)⟩, ⟨some 32, none, .ia 3 (.t 30) (.t 31)⟩, ⟨some 33, none, .fa 2 (.t 32)⟩, ⟨some 34, none, .ld 1 false (.t 33)⟩, ⟨some 35, none, .mv (.t 1)⟩, ⟨some 36, none, .bin .neq (.t 34) (.t 35)⟩]) (.cond (.t 36) (.seq (.reg [⟨some 4, none, .mv (.c (.int .i64 (-1)))⟩]) (.ret)) (.skip))) (.reg [⟨some 37, none, .mv (.t 1)⟩, ⟨some 38, none, .bin .add (.t 37) (.c (.int .i64 1))⟩, ⟨some 1, none, .mv (.t 38)⟩]))))))) (.reg [⟨some 10, none, .mv (.t 5)⟩, ⟨some 11, none, .bin .add (.t 10) (.c (.int .i64 1))⟩, ⟨some 5, none, .mv (.t 11)⟩]))
def F_laws_heldCoreS : RF := ⟨40, 2, [.t 4],
  .seq (.reg [⟨some 4, none, .mv (.c (.int .i64 0))⟩]) (.seq (.seq (.reg [⟨some 5, none, .mv (.c (.int .i64 0))⟩]) (.block 0 (.loop [0, 1, 5] [(1, [1]), (0, [4])] B0_laws_heldCoreS))) (.seq (.reg [⟨some 39, none, .mv (.t 1)⟩, ⟨some 4, none, .mv (.t 39)⟩]) (.ret)))⟩
def K_laws_heldCoreS : Keeps := [([0, 1, 5], [(1, [1]), (0, [4])])]
theorem r_laws_heldCoreS : resolveF Try.prog Try.f88 K_laws_heldCoreS = some F_laws_heldCoreS := by kernel_rfl
noncomputable def X_laws_heldCoreS : Ctx := Ctx.cons 40 G_laws_heldIntS (fun _ => none)
theorem co_laws_heldCoreS : CtxOk Try.prog X_laws_heldCoreS := CtxOk.cons (CtxOk.nil) ok_laws_heldIntS
theorem cx_laws_heldCoreS : ((∀ args hp, callX X_laws_heldCoreS 40 args hp = callS G_laws_heldIntS args hp) ∧ (trC (X_laws_heldCoreS 40) = false)) := ⟨fun _ _ => rfl, rfl⟩
noncomputable def S_laws_heldCoreS : ByV := ⟨none, false, semF X_laws_heldCoreS F_laws_heldCoreS none false⟩
noncomputable def G_laws_heldCoreS : CK := .byv S_laws_heldCoreS
theorem sg_laws_heldCoreS (args : List AV) : S_laws_heldCoreS.sem args = semF X_laws_heldCoreS F_laws_heldCoreS none false args := rfl
theorem cl_laws_heldCoreS (args : List AV) (hp : Hp) : callS G_laws_heldCoreS args hp = byvS S_laws_heldCoreS args hp := callS_byv rfl rfl args hp
theorem ok_laws_heldCoreS : InlOk Try.prog 88 (callS G_laws_heldCoreS) := byv_none co_laws_heldCoreS Try.func88 r_laws_heldCoreS rfl (fun _ _ h => h)
/- 89 laws_heldBoolS calls []  -/
def B0_laws_heldBoolS : RC :=
  .seq (.seq (.reg [⟨some 6, none, .mv (.t 5)⟩, ⟨some 7, none, .mv (.t 0)⟩, ⟨some 8, none, .len false (.t 7)⟩, ⟨some 9, none, .bin .lss (.t 6) (.t 8)⟩]) (.cond (.t 9) (.skip) (.exit 0))) (.seq (.block 1 (.seq (.seq (.reg [⟨some 12, none, .mv (.t 0)⟩, ⟨some 13, none, .mv (.t 5)⟩, ⟨some 14, none, .ia 1 (.t 12) (.t 13)⟩, ⟨some 15, none, .ld 1 false (.t 14)⟩, ⟨some 16, none, .mv (.t 1)⟩, ⟨some 17, none, .bin .rem (.t 16) (.c (.int .i64 3))⟩, ⟨some 18, none, .bin .eql (.t 17) (.c (.int .i64 0))⟩, ⟨some 19, none, .bib .neq (.t 15) (.t 18)⟩]) (.cond (.t 19) (.seq (.reg [⟨some 4, none, .mv (.c (.int .i64 (-1)))⟩]) (.ret)) (.skip))) (.reg [⟨some 20, none, .mv (.t 1)⟩, ⟨some 21, none, .bin .add (.t 20) (.c (.int .i64 1))⟩, ⟨some 1, none, .mv (.t 21)⟩]))) (.reg [⟨some 10, none, .mv (.t 5)⟩, ⟨some 11, none, .bin .add (.t 10) (.c (.int .i64 1))⟩, ⟨some 5, none, .mv (.t 11)⟩]))
def F_laws_heldBoolS : RF := ⟨23, 2, [.t 4],
  .seq (.reg [⟨some 4, none, .mv (.c (.int .i64 0))⟩]) (.seq (.seq (.reg [⟨some 5, none, .mv (.c (.int .i64 0))⟩]) (.block 0 (.loop [0, 1, 5] [(1, [1]), (0, [4])] B0_laws_heldBoolS))) (.seq (.reg [⟨some 22, none, .mv (.t 1)⟩, ⟨some 4, none, .mv (.t 22)⟩]) (.ret)))⟩
def K_laws_heldBoolS : Keeps := [([0, 1, 5], [(1, [1]), (0, [4])])]
theorem r_laws_heldBoolS : resolveF Try.prog Try.f89 K_laws_heldBoolS = some F_laws_heldBoolS := by kernel_rfl
noncomputable def X_laws_heldBoolS : Ctx := fun _ => none
theorem co_laws_heldBoolS : CtxOk Try.prog X_laws_heldBoolS := CtxOk.nil
theorem cx_laws_heldBoolS : True := trivial
noncomputable def S_laws_heldBoolS : ByV := ⟨none, false, semF X_laws_heldBoolS F_laws_heldBoolS none false⟩
noncomputable def G_laws_heldBoolS : CK := .byv S_laws_heldBoolS
theorem sg_laws_heldBoolS (args : List AV) : S_laws_heldBoolS.sem args = semF X_laws_heldBoolS F_laws_heldBoolS none false args := rfl
theorem cl_laws_heldBoolS (args : List AV) (hp : Hp) : callS G_laws_heldBoolS args hp = byvS S_laws_heldBoolS args hp := callS_byv rfl rfl args hp
theorem ok_laws_heldBoolS : InlOk Try.prog 89 (callS G_laws_heldBoolS) := byv_none co_laws_heldBoolS Try.func89 r_laws_heldBoolS rfl (fun _ _ h => h)
/- 33 laws_heldKernel calls [laws_heldGateS, laws_heldIntS, laws_heldCoreS, laws_heldBoolS]  -/
def F_laws_heldKernel : RF := ⟨30, 2, [.t 4],
  .seq (.reg [⟨some 2, none, .box (.t 0)⟩, ⟨some 4, none, .mv (.c (.int .i64 0))⟩]) (.seq (.reg [⟨some 5, none, .fa 0 (.t 2)⟩, ⟨some 6, none, .ld 1 false (.t 5)⟩, ⟨some 7, none, .mv (.t 1)⟩, ⟨some 8, none, .call 87 [(.t 6), (.t 7)]⟩, ⟨some 1, none, .mv (.t 8)⟩]) (.seq (.seq (.reg [⟨some 9, none, .mv (.t 1)⟩, ⟨some 10, none, .bin .lss (.t 9) (.c (.int .i64 0))⟩]) (.cond (.t 10) (.seq (.reg [⟨some 4, none, .mv (.c (.int .i64 (-1)))⟩]) (.ret)) (.skip))) (.seq (.reg [⟨some 11, none, .fa 1 (.t 2)⟩, ⟨some 12, none, .ld 1 false (.t 11)⟩, ⟨some 13, none, .mv (.t 1)⟩, ⟨some 14, none, .call 40 [(.t 12), (.t 13)]⟩, ⟨some 1, none, .mv (.t 14)⟩]) (.seq (.seq (.reg [⟨some 15, none, .mv (.t 1)⟩, ⟨some 16, none, .bin .lss (.t 15) (.c (.int .i64 0))⟩]) (.cond (.t 16) (.seq (.reg [⟨some 4, none, .mv (.c (.int .i64 (-1)))⟩]) (.ret)) (.skip))) (.seq (.reg [⟨some 17, none, .fa 2 (.t 2)⟩, ⟨some 18, none, .ld 1 false (.t 17)⟩, ⟨some 19, none, .mv (.t 1)⟩, ⟨some 20, none, .call 88 [(.t 18), (.t 19)]⟩, ⟨some 1, none, .mv (.t 20)⟩]) (.seq (.seq (.reg [⟨some 21, none, .mv (.t 1)⟩, ⟨some 22, none, .bin .lss (.t 21) (.c (.int .i64 0))⟩]) (.cond (.t 22) (.seq (.reg [⟨some 4, none, .mv (.c (.int .i64 (-1)))⟩]) (.ret)) (.skip))) (.seq (.reg [⟨some 23, none, .fa 3 (.t 2)⟩, ⟨some 24, none, .ld 1 false (.t 23)⟩, ⟨some 25, none, .mv (.t 1)⟩, ⟨some 26, none, .call 89 [(.t 24), (.t 25)]⟩, ⟨some 1, none, .mv (.t 26)⟩]) (.seq (.seq (.reg [⟨some 27, none, .mv (.t 1)⟩, ⟨some 28, none, .bin .lss (.t 27) (.c (.int .i64 0))⟩]) (.cond (.t 28) (.seq (.reg [⟨some 4, none, .mv (.c (.int .i64 (-1)))⟩]) (.ret)) (.skip))) (.seq (.reg [⟨some 29, none, .mv (.t 1)⟩, ⟨some 4, none, .mv (.t 29)⟩]) (.ret))))))))))⟩
def K_laws_heldKernel : Keeps := []
theorem r_laws_heldKernel : resolveF Try.prog Try.f33 K_laws_heldKernel = some F_laws_heldKernel := by kernel_rfl
noncomputable def X_laws_heldKernel : Ctx := Ctx.cons 87 G_laws_heldGateS (Ctx.cons 40 G_laws_heldIntS (Ctx.cons 88 G_laws_heldCoreS (Ctx.cons 89 G_laws_heldBoolS (fun _ => none))))
theorem co_laws_heldKernel : CtxOk Try.prog X_laws_heldKernel := CtxOk.cons (CtxOk.cons (CtxOk.cons (CtxOk.cons (CtxOk.nil) ok_laws_heldBoolS) ok_laws_heldCoreS) ok_laws_heldIntS) ok_laws_heldGateS
theorem cx_laws_heldKernel : ((∀ args hp, callX X_laws_heldKernel 87 args hp = callS G_laws_heldGateS args hp) ∧ (trC (X_laws_heldKernel 87) = false)) ∧ ((∀ args hp, callX X_laws_heldKernel 40 args hp = callS G_laws_heldIntS args hp) ∧ (trC (X_laws_heldKernel 40) = false)) ∧ ((∀ args hp, callX X_laws_heldKernel 88 args hp = callS G_laws_heldCoreS args hp) ∧ (trC (X_laws_heldKernel 88) = false)) ∧ ((∀ args hp, callX X_laws_heldKernel 89 args hp = callS G_laws_heldBoolS args hp) ∧ (trC (X_laws_heldKernel 89) = false)) := ⟨⟨fun _ _ => rfl, rfl⟩, ⟨fun _ _ => rfl, rfl⟩, ⟨fun _ _ => rfl, rfl⟩, ⟨fun _ _ => rfl, rfl⟩⟩
noncomputable def S_laws_heldKernel : ByV := ⟨none, false, semF X_laws_heldKernel F_laws_heldKernel none false⟩
noncomputable def G_laws_heldKernel : CK := .byv S_laws_heldKernel
theorem sg_laws_heldKernel (args : List AV) : S_laws_heldKernel.sem args = semF X_laws_heldKernel F_laws_heldKernel none false args := rfl
theorem cl_laws_heldKernel (args : List AV) (hp : Hp) : callS G_laws_heldKernel args hp = byvS S_laws_heldKernel args hp := callS_byv rfl rfl args hp
theorem ok_laws_heldKernel : InlOk Try.prog 33 (callS G_laws_heldKernel) := byv_none co_laws_heldKernel Try.func33 r_laws_heldKernel rfl (fun _ _ h => h)
/- 39 laws_heldCore calls [laws_heldIntS]  -/
def F_laws_heldCore : RF := ⟨12, 2, [.t 4],
  .seq (.reg [⟨some 2, none, .box (.t 0)⟩, ⟨some 4, none, .mv (.c (.int .i64 0))⟩]) (.seq (.reg [⟨some 5, none, .fa 0 (.t 2)⟩, ⟨some 6, none, .ld 1 false (.t 5)⟩, ⟨some 7, none, .mv (.t 1)⟩, ⟨some 8, none, .call 40 [(.t 6), (.t 7)]⟩, ⟨some 1, none, .mv (.t 8)⟩]) (.seq (.seq (.reg [⟨some 9, none, .mv (.t 1)⟩, ⟨some 10, none, .bin .lss (.t 9) (.c (.int .i64 0))⟩]) (.cond (.t 10) (.seq (.reg [⟨some 4, none, .mv (.c (.int .i64 (-1)))⟩]) (.ret)) (.skip))) (.seq (.reg [⟨some 11, none, .mv (.t 1)⟩, ⟨some 4, none, .mv (.t 11)⟩]) (.ret))))⟩
def K_laws_heldCore : Keeps := []
theorem r_laws_heldCore : resolveF Try.prog Try.f39 K_laws_heldCore = some F_laws_heldCore := by kernel_rfl
noncomputable def X_laws_heldCore : Ctx := Ctx.cons 40 G_laws_heldIntS (fun _ => none)
theorem co_laws_heldCore : CtxOk Try.prog X_laws_heldCore := CtxOk.cons (CtxOk.nil) ok_laws_heldIntS
theorem cx_laws_heldCore : ((∀ args hp, callX X_laws_heldCore 40 args hp = callS G_laws_heldIntS args hp) ∧ (trC (X_laws_heldCore 40) = false)) := ⟨fun _ _ => rfl, rfl⟩
noncomputable def S_laws_heldCore : ByV := ⟨none, false, semF X_laws_heldCore F_laws_heldCore none false⟩
noncomputable def G_laws_heldCore : CK := .byv S_laws_heldCore
theorem sg_laws_heldCore (args : List AV) : S_laws_heldCore.sem args = semF X_laws_heldCore F_laws_heldCore none false args := rfl
theorem cl_laws_heldCore (args : List AV) (hp : Hp) : callS G_laws_heldCore args hp = byvS S_laws_heldCore args hp := callS_byv rfl rfl args hp
theorem ok_laws_heldCore : InlOk Try.prog 39 (callS G_laws_heldCore) := byv_none co_laws_heldCore Try.func39 r_laws_heldCore rfl (fun _ _ h => h)
/- 7 laws_FnExactPick calls [laws_szKernel, laws_toKernel, spec_Pick, impl_Pick, laws_eqKernel, laws_eqCore, laws_markKernel, laws_markCore, laws_heldKernel, laws_heldCore]  -/
def F_laws_FnExactPick : RF := ⟨133, 1, [.t 2],
  .seq (.reg [⟨some 1, none, .box (.t 0)⟩, ⟨some 2, none, .mv (.c (.bool false))⟩]) (.seq (.reg [⟨some 3, none, .mv (.c (.int .i64 1048576))⟩]) (.seq (.reg [⟨some 17, none, .ld 4 true (.t 1)⟩, ⟨some 18, none, .mv (.t 3)⟩, ⟨some 19, none, .call 23 [(.t 17), (.t 18)]⟩, ⟨some 3, none, .mv (.t 19)⟩]) (.seq (.seq (.reg [⟨some 20, none, .mv (.t 3)⟩, ⟨some 21, none, .bin .lss (.t 20) (.c (.int .i64 0))⟩]) (.cond (.t 21) (.seq (.reg [⟨some 2, none, .mv (.c (.bool true))⟩]) (.ret)) (.skip))) (.seq (.reg [⟨some 23, none, .ld 4 true (.t 1)⟩, ⟨some 24, none, .call 26 [(.t 23)]⟩, ⟨some 25, none, .call 41 [(.t 24)]⟩, ⟨some 22, none, .mv (.t 25)⟩, ⟨some 26, none, .ex (.t 22) 0⟩, ⟨some 27, none, .ex (.t 22) 1⟩, ⟨some 28, none, .ex (.t 22) 2⟩, ⟨some 4, none, .new [(.nil 3), (.nil 1), (.nil 3), (.nil 1)]⟩, ⟨some 5, none, .new [(.nil 1), (.int .i64 0), (.int .i64 0)]⟩, ⟨none, none, .st 4 (.t 4) (.t 26)⟩, ⟨none, none, .st 3 (.t 5) (.t 27)⟩, ⟨some 6, none, .mv (.t 28)⟩]) (.seq (.reg [⟨some 29, none, .ld 4 true (.t 1)⟩, ⟨some 30, none, .call 26 [(.t 29)]⟩, ⟨some 7, none, .new [(.nil 3), (.nil 1), (.nil 3), (.nil 1)]⟩, ⟨none, none, .st 4 (.t 7) (.t 30)⟩]) (.seq (.reg [⟨some 32, none, .ld 4 true (.t 7)⟩, ⟨some 33, none, .call 42 [(.t 32)]⟩, ⟨some 31, none, .mv (.t 33)⟩, ⟨some 34, none, .ex (.t 31) 0⟩, ⟨some 35, none, .ex (.t 31) 1⟩, ⟨some 36, none, .ex (.t 31) 2⟩, ⟨some 8, none, .new [(.nil 3), (.nil 1), (.nil 3), (.nil 1)]⟩, ⟨some 9, none, .new [(.nil 1), (.int .i64 0), (.int .i64 0)]⟩, ⟨none, none, .st 4 (.t 8) (.t 34)⟩, ⟨none, none, .st 3 (.t 9) (.t 35)⟩, ⟨some 10, none, .mv (.t 36)⟩]) (.seq (.seq (.reg [⟨some 37, none, .ld 4 true (.t 8)⟩, ⟨some 38, none, .ld 4 true (.t 4)⟩, ⟨some 39, none, .call 29 [(.t 37), (.t 38)]⟩, ⟨some 40, none, .un .not (.t 39)⟩, ⟨some 41, none, .mv (.t 40)⟩, ⟨some 42, some (41, false), .ld 3 true (.t 9)⟩, ⟨some 43, some (41, false), .ld 3 true (.t 5)⟩, ⟨some 44, some (41, false), .call 30 [(.t 42), (.t 43)]⟩, ⟨some 45, some (41, false), .un .not (.t 44)⟩, ⟨some 46, none, .pick (.t 41) (.c (.bool true)) (.t 45)⟩, ⟨some 47, none, .mv (.t 46)⟩, ⟨some 48, some (47, false), .mv (.t 10)⟩, ⟨some 49, some (47, false), .mv (.t 6)⟩, ⟨some 50, some (47, false), .bib .neq (.t 48) (.t 49)⟩, ⟨some 51, none, .pick (.t 47) (.c (.bool true)) (.t 50)⟩]) (.cond (.t 51) (.seq (.reg [⟨some 2, none, .mv (.c (.bool false))⟩]) (.ret)) (.skip))) (.seq (.seq (.regd [(2, ⟨some 52, none, .ld 4 true (.t 7)⟩), (1, ⟨some 53, none, .ld 4 true (.t 1)⟩), (2, ⟨some 54, none, .call 26 [(.t 53)]⟩), (1, ⟨some 55, none, .call 29 [(.t 52), (.t 54)]⟩), (0, ⟨some 56, none, .un .not (.t 55)⟩)] [(0, 2)]) (.cond (.t 56) (.seq (.reg [⟨some 2, none, .mv (.c (.bool false))⟩]) (.ret)) (.skip))) (.seq (.reg [⟨some 11, none, .mv (.c (.int .i64 1))⟩]) (.seq (.reg [⟨some 57, none, .ld 4 true (.t 7)⟩, ⟨some 58, none, .mv (.t 11)⟩, ⟨some 59, none, .call 31 [(.t 57), (.t 58)]⟩, ⟨some 11, none, .mv (.t 59)⟩]) (.seq (.seq (.reg [⟨some 60, none, .mv (.t 11)⟩, ⟨some 61, none, .bin .lss (.t 60) (.c (.int .i64 0))⟩, ⟨some 62, none, .mv (.t 61)⟩, ⟨some 63, some (62, false), .ld 4 true (.t 8)⟩, ⟨some 64, some (62, false), .ld 4 true (.t 4)⟩, ⟨some 65, some (62, false), .call 29 [(.t 63), (.t 64)]⟩, ⟨some 66, some (62, false), .un .not (.t 65)⟩, ⟨some 67, none, .pick (.t 62) (.c (.bool true)) (.t 66)⟩, ⟨some 68, none, .mv (.t 67)⟩, ⟨some 69, some (68, false), .ld 3 true (.t 9)⟩, ⟨some 70, some (68, false), .ld 3 true (.t 5)⟩, ⟨some 71, some (68, false), .call 30 [(.t 69), (.t 70)]⟩, ⟨some 72, some (68, false), .un .not (.t 71)⟩, ⟨some 73, none, .pick (.t 68) (.c (.bool true)) (.t 72)⟩, ⟨some 74, none, .mv (.t 73)⟩, ⟨some 75, some (74, false), .mv (.t 10)⟩, ⟨some 76, some (74, false), .mv (.t 6)⟩, ⟨some 77, some (74, false), .bib .neq (.t 75) (.t 76)⟩, ⟨some 78, none, .pick (.t 74) (.c (.bool true)) (.t 77)⟩]) (.cond (.t 78) (.seq (.reg [⟨some 2, none, .mv (.c (.bool false))⟩]) (.ret)) (.skip))) (.seq (.reg [⟨some 12, none, .mv (.c (.int .i64 1))⟩]) (.seq (.reg [⟨some 79, none, .ld 4 true (.t 8)⟩, ⟨some 80, none, .mv (.t 12)⟩, ⟨some 81, none, .call 31 [(.t 79), (.t 80)]⟩, ⟨some 12, none, .mv (.t 81)⟩]) (.seq (.reg [⟨some 82, none, .ld 3 true (.t 9)⟩, ⟨some 83, none, .mv (.t 12)⟩, ⟨some 84, none, .call 32 [(.t 82), (.t 83)]⟩, ⟨some 12, none, .mv (.t 84)⟩]) (.seq (.reg [⟨some 13, none, .mv (.c (.int .i64 1))⟩]) (.seq (.reg [⟨some 85, none, .ld 4 true (.t 8)⟩, ⟨some 86, none, .mv (.t 13)⟩, ⟨some 87, none, .call 33 [(.t 85), (.t 86)]⟩, ⟨some 13, none, .mv (.t 87)⟩]) (.seq (.seq (.reg [⟨some 88, none, .mv (.t 13)⟩, ⟨some 89, none, .bin .lss (.t 88) (.c (.int .i64 0))⟩]) (.cond (.t 89) (.seq (.reg [⟨some 2, none, .mv (.c (.bool false))⟩]) (.ret)) (.skip))) (.seq (.reg [⟨some 90, none, .ld 3 true (.t 9)⟩, ⟨some 91, none, .mv (.t 13)⟩, ⟨some 92, none, .call 39 [(.t 90), (.t 91)]⟩, ⟨some 13, none, .mv (.t 92)⟩]) (.seq (.seq (.reg [⟨some 93, none, .mv (.t 13)⟩, ⟨some 94, none, .bin .lss (.t 93) (.c (.int .i64 0))⟩]) (.cond (.t 94) (.seq (.reg [⟨some 2, none, .mv (.c (.bool false))⟩]) (.ret)) (.skip))) (.seq (.seq (.reg [⟨some 95, none, .mv (.t 13)⟩, ⟨some 96, none, .mv (.t 12)⟩, ⟨some 97, none, .bin .neq (.t 95) (.t 96)⟩]) (.cond (.t 97) (.seq (.reg [⟨some 2, none, .mv (.c (.bool false))⟩]) (.ret)) (.skip))) (.seq (.reg [⟨some 99, none, .ld 4 true (.t 1)⟩, ⟨some 100, none, .call 26 [(.t 99)]⟩, ⟨some 101, none, .call 42 [(.t 100)]⟩, ⟨some 98, none, .mv (.t 101)⟩, ⟨some 102, none, .ex (.t 98) 0⟩, ⟨some 103, none, .ex (.t 98) 1⟩, ⟨some 104, none, .ex (.t 98) 2⟩, ⟨some 14, none, .new [(.nil 3), (.nil 1), (.nil 3), (.nil 1)]⟩, ⟨some 15, none, .new [(.nil 1), (.int .i64 0), (.int .i64 0)]⟩, ⟨none, none, .st 4 (.t 14) (.t 102)⟩, ⟨none, none, .st 3 (.t 15) (.t 103)⟩, ⟨some 16, none, .mv (.t 104)⟩]) (.seq (.seq (.reg [⟨some 105, none, .ld 4 true (.t 14)⟩, ⟨some 106, none, .ld 4 true (.t 4)⟩, ⟨some 107, none, .call 29 [(.t 105), (.t 106)]⟩, ⟨some 108, none, .un .not (.t 107)⟩, ⟨some 109, none, .mv (.t 108)⟩, ⟨some 110, some (109, false), .ld 3 true (.t 15)⟩, ⟨some 111, some (109, false), .ld 3 true (.t 5)⟩, ⟨some 112, some (109, false), .call 30 [(.t 110), (.t 111)]⟩, ⟨some 113, some (109, false), .un .not (.t 112)⟩, ⟨some 114, none, .pick (.t 109) (.c (.bool true)) (.t 113)⟩, ⟨some 115, none, .mv (.t 114)⟩, ⟨some 116, some (115, false), .mv (.t 16)⟩, ⟨some 117, some (115, false), .mv (.t 6)⟩, ⟨some 118, some (115, false), .bib .neq (.t 116) (.t 117)⟩, ⟨some 119, none, .pick (.t 115) (.c (.bool true)) (.t 118)⟩]) (.cond (.t 119) (.seq (.reg [⟨some 2, none, .mv (.c (.bool false))⟩]) (.ret)) (.skip))) (.seq (.reg [⟨some 13, none, .mv (.c (.int .i64 1))⟩]) (.seq (.reg [⟨some 120, none, .ld 4 true (.t 8)⟩, ⟨some 121, none, .mv (.t 13)⟩, ⟨some 122, none, .call 33 [(.t 120), (.t 121)]⟩, ⟨some 13, none, .mv (.t 122)⟩]) (.seq (.seq (.reg [⟨some 123, none, .mv (.t 13)⟩, ⟨some 124, none, .bin .lss (.t 123) (.c (.int .i64 0))⟩]) (.cond (.t 124) (.seq (.reg [⟨some 2, none, .mv (.c (.bool false))⟩]) (.ret)) (.skip))) (.seq (.reg [⟨some 125, none, .ld 3 true (.t 9)⟩, ⟨some 126, none, .mv (.t 13)⟩, ⟨some 127, none, .call 39 [(.t 125), (.t 126)]⟩, ⟨some 13, none, .mv (.t 127)⟩]) (.seq (.seq (.reg [⟨some 128, none, .mv (.t 13)⟩, ⟨some 129, none, .bin .lss (.t 128) (.c (.int .i64 0))⟩]) (.cond (.t 129) (.seq (.reg [⟨some 2, none, .mv (.c (.bool false))⟩]) (.ret)) (.skip))) (.seq (.seq (.reg [⟨some 130, none, .mv (.t 13)⟩, ⟨some 131, none, .mv (.t 12)⟩, ⟨some 132, none, .bin .neq (.t 130) (.t 131)⟩]) (.cond (.t 132) (.seq (.reg [⟨some 2, none, .mv (.c (.bool false))⟩]) (.ret)) (.skip))) (.seq (.reg [⟨some 2, none, .mv (.c (.bool true))⟩]) (.ret))))))))))))))))))))))))))))))⟩
def K_laws_FnExactPick : Keeps := []
theorem r_laws_FnExactPick : resolveF Try.prog Try.f7 K_laws_FnExactPick = some F_laws_FnExactPick := by kernel_rfl
noncomputable def X_laws_FnExactPick : Ctx := Ctx.cons 23 G_laws_szKernel (Ctx.cons 26 G_laws_toKernel (Ctx.cons 41 G_spec_Pick (Ctx.cons 42 G_impl_Pick (Ctx.cons 29 G_laws_eqKernel (Ctx.cons 30 G_laws_eqCore (Ctx.cons 31 G_laws_markKernel (Ctx.cons 32 G_laws_markCore (Ctx.cons 33 G_laws_heldKernel (Ctx.cons 39 G_laws_heldCore (fun _ => none))))))))))
theorem co_laws_FnExactPick : CtxOk Try.prog X_laws_FnExactPick := CtxOk.cons (CtxOk.cons (CtxOk.cons (CtxOk.cons (CtxOk.cons (CtxOk.cons (CtxOk.cons (CtxOk.cons (CtxOk.cons (CtxOk.cons (CtxOk.nil) ok_laws_heldCore) ok_laws_heldKernel) ok_laws_markCore) ok_laws_markKernel) ok_laws_eqCore) ok_laws_eqKernel) ok_impl_Pick) ok_spec_Pick) ok_laws_toKernel) ok_laws_szKernel
theorem cx_laws_FnExactPick : ((∀ args hp, callX X_laws_FnExactPick 23 args hp = callS G_laws_szKernel args hp) ∧ (trC (X_laws_FnExactPick 23) = false)) ∧ ((∀ args hp, callX X_laws_FnExactPick 26 args hp = callS G_laws_toKernel args hp) ∧ (trC (X_laws_FnExactPick 26) = false)) ∧ ((∀ args hp, callX X_laws_FnExactPick 41 args hp = callS G_spec_Pick args hp) ∧ (trC (X_laws_FnExactPick 41) = false)) ∧ ((∀ args hp, callX X_laws_FnExactPick 42 args hp = callS G_impl_Pick args hp) ∧ (trC (X_laws_FnExactPick 42) = false)) ∧ ((∀ args hp, callX X_laws_FnExactPick 29 args hp = callS G_laws_eqKernel args hp) ∧ (trC (X_laws_FnExactPick 29) = false)) ∧ ((∀ args hp, callX X_laws_FnExactPick 30 args hp = callS G_laws_eqCore args hp) ∧ (trC (X_laws_FnExactPick 30) = false)) ∧ ((∀ args hp, callX X_laws_FnExactPick 31 args hp = callS G_laws_markKernel args hp) ∧ (trC (X_laws_FnExactPick 31) = true)) ∧ ((∀ args hp, callX X_laws_FnExactPick 32 args hp = callS G_laws_markCore args hp) ∧ (trC (X_laws_FnExactPick 32) = true)) ∧ ((∀ args hp, callX X_laws_FnExactPick 33 args hp = callS G_laws_heldKernel args hp) ∧ (trC (X_laws_FnExactPick 33) = false)) ∧ ((∀ args hp, callX X_laws_FnExactPick 39 args hp = callS G_laws_heldCore args hp) ∧ (trC (X_laws_FnExactPick 39) = false)) := ⟨⟨fun _ _ => rfl, rfl⟩, ⟨fun _ _ => rfl, rfl⟩, ⟨fun _ _ => rfl, rfl⟩, ⟨fun _ _ => rfl, rfl⟩, ⟨fun _ _ => rfl, rfl⟩, ⟨fun _ _ => rfl, rfl⟩, ⟨fun _ _ => rfl, rfl⟩, ⟨fun _ _ => rfl, rfl⟩, ⟨fun _ _ => rfl, rfl⟩, ⟨fun _ _ => rfl, rfl⟩⟩
end Go.Proofs.Ythdbglhdadinkaa.AI
