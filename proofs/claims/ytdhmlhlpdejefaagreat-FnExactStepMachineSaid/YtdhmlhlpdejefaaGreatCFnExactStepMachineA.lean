/- The functions that the law FnExactStepMachine reaches, in the reckoner's words. -/
import Derived.Test.YtdhmlhlpdejefaaGreatAEqs5
import Derived.Test.YtdhmlhlpdejefaaGreatChecked
import Derived.ProofKit
namespace Go.Proofs.YtdhmlhlpdejefaaGreat.AI
open Go.Proofs
set_option linter.all false
set_option maxRecDepth 100000
noncomputable section
def F_laws_szIntS : RF := ⟨12, 2, [.t 4],
  .seq (.reg [o 4 (.mv (.c (.int .i64 0)))]) (.seq (.reg [o 5 (.mv (.t 1)), o 6 (.mv (.t 0)), o 7 (.len false (.t 6)), o 8 (.bin .sub (.t 5) (.t 7)), o 1 (.mv (.t 8))]) (.seq (.seq (.reg [o 9 (.mv (.t 1)), o 10 (.bin .lss (.t 9) (.c (.int .i64 0)))]) (.cond (.t 10) (.seq (.reg [o 4 (.mv (.c (.int .i64 (-1))))]) (.ret)) (.skip))) (.seq (.reg [o 11 (.mv (.t 1)), o 4 (.mv (.t 11))]) (.ret))))⟩
def K_laws_szIntS : Keeps := []
theorem r_laws_szIntS : resolveF Tryz.prog Tryz.f12 K_laws_szIntS = some F_laws_szIntS := by kernel_rfl
def X_laws_szIntS : Ctx := fun _ => none
theorem co_laws_szIntS : CtxOk Tryz.prog X_laws_szIntS := CtxOk.nil
theorem cx_laws_szIntS : True := trivial
def S_laws_szIntS : ByV := ⟨none, false, semF X_laws_szIntS F_laws_szIntS none false⟩
def G_laws_szIntS : CK := .byv S_laws_szIntS
theorem sg_laws_szIntS (args : List AV) : S_laws_szIntS.sem args = semF X_laws_szIntS F_laws_szIntS none false args := rfl
theorem cl_laws_szIntS (args hp) : callS G_laws_szIntS args hp = byvS S_laws_szIntS args hp := callS_byv rfl rfl args hp
theorem ok_laws_szIntS : InlOk Tryz.prog 12 (callS G_laws_szIntS) := byv_none co_laws_szIntS Tryz.func12 r_laws_szIntS rfl (fun _ _ h => h)
def F_laws_szImage : RF := ⟨18, 2, [.t 4],
  .seq (.reg [o 2 (.box (.t 0)), o 4 (.mv (.c (.int .i64 0)))]) (.seq (.reg [o 5 (.fa 0 (.t 2)), o 6 (.ld 1 false (.t 5)), o 7 (.mv (.t 1)), o 8 (.call 12 [(.t 6), (.t 7)]), o 1 (.mv (.t 8))]) (.seq (.seq (.reg [o 9 (.mv (.t 1)), o 10 (.bin .lss (.t 9) (.c (.int .i64 0)))]) (.cond (.t 10) (.seq (.reg [o 4 (.mv (.c (.int .i64 (-1))))]) (.ret)) (.skip))) (.seq (.reg [o 11 (.fa 1 (.t 2)), o 12 (.ld 1 false (.t 11)), o 13 (.mv (.t 1)), o 14 (.call 12 [(.t 12), (.t 13)]), o 1 (.mv (.t 14))]) (.seq (.seq (.reg [o 15 (.mv (.t 1)), o 16 (.bin .lss (.t 15) (.c (.int .i64 0)))]) (.cond (.t 16) (.seq (.reg [o 4 (.mv (.c (.int .i64 (-1))))]) (.ret)) (.skip))) (.seq (.reg [o 17 (.mv (.t 1)), o 4 (.mv (.t 17))]) (.ret))))))⟩
def K_laws_szImage : Keeps := []
theorem r_laws_szImage : resolveF Tryz.prog Tryz.f11 K_laws_szImage = some F_laws_szImage := by kernel_rfl
def X_laws_szImage : Ctx := Ctx.cons 12 G_laws_szIntS (fun _ => none)
theorem co_laws_szImage : CtxOk Tryz.prog X_laws_szImage := CtxOk.cons (CtxOk.nil) ok_laws_szIntS
theorem cx_laws_szImage : (CX X_laws_szImage 12 G_laws_szIntS false) := cxI rfl rfl
def S_laws_szImage : ByV := ⟨none, false, semF X_laws_szImage F_laws_szImage none false⟩
def G_laws_szImage : CK := .byv S_laws_szImage
theorem sg_laws_szImage (args : List AV) : S_laws_szImage.sem args = semF X_laws_szImage F_laws_szImage none false args := rfl
theorem cl_laws_szImage (args hp) : callS G_laws_szImage args hp = byvS S_laws_szImage args hp := callS_byv rfl rfl args hp
theorem ok_laws_szImage : InlOk Tryz.prog 11 (callS G_laws_szImage) := byv_none co_laws_szImage Tryz.func11 r_laws_szImage rfl (fun _ _ h => h)
def F_laws_szCore : RF := ⟨12, 2, [.t 4],
  .seq (.reg [o 2 (.box (.t 0)), o 4 (.mv (.c (.int .i64 0)))]) (.seq (.reg [o 5 (.fa 0 (.t 2)), o 6 (.ld 1 false (.t 5)), o 7 (.mv (.t 1)), o 8 (.call 12 [(.t 6), (.t 7)]), o 1 (.mv (.t 8))]) (.seq (.seq (.reg [o 9 (.mv (.t 1)), o 10 (.bin .lss (.t 9) (.c (.int .i64 0)))]) (.cond (.t 10) (.seq (.reg [o 4 (.mv (.c (.int .i64 (-1))))]) (.ret)) (.skip))) (.seq (.reg [o 11 (.mv (.t 1)), o 4 (.mv (.t 11))]) (.ret))))⟩
def K_laws_szCore : Keeps := []
theorem r_laws_szCore : resolveF Tryz.prog Tryz.f45 K_laws_szCore = some F_laws_szCore := by kernel_rfl
def X_laws_szCore : Ctx := Ctx.cons 12 G_laws_szIntS (fun _ => none)
theorem co_laws_szCore : CtxOk Tryz.prog X_laws_szCore := CtxOk.cons (CtxOk.nil) ok_laws_szIntS
theorem cx_laws_szCore : (CX X_laws_szCore 12 G_laws_szIntS false) := cxI rfl rfl
def S_laws_szCore : ByV := ⟨none, false, semF X_laws_szCore F_laws_szCore none false⟩
def G_laws_szCore : CK := .byv S_laws_szCore
theorem sg_laws_szCore (args : List AV) : S_laws_szCore.sem args = semF X_laws_szCore F_laws_szCore none false args := rfl
theorem cl_laws_szCore (args hp) : callS G_laws_szCore args hp = byvS S_laws_szCore args hp := callS_byv rfl rfl args hp
theorem ok_laws_szCore : InlOk Tryz.prog 45 (callS G_laws_szCore) := byv_none co_laws_szCore Tryz.func45 r_laws_szCore rfl (fun _ _ h => h)
def B0_laws_szCoreS : RC :=
  .seq (.seq (.reg [o 12 (.mv (.t 5)), o 13 (.mv (.t 0)), o 14 (.len false (.t 13)), o 15 (.bin .lss (.t 12) (.t 14))]) (.cond (.t 15) (.skip) (.exit 0))) (.seq (.block 1 (.seq (.reg [o 18 (.mv (.t 0)), o 19 (.mv (.t 5)), o 20 (.ia 3 (.t 18) (.t 19)), o 21 (.ld 3 true (.t 20)), o 22 (.mv (.t 1)), o 23 (.call 45 [(.t 21), (.t 22)]), o 1 (.mv (.t 23))]) (.seq (.reg [o 24 (.mv (.t 1)), o 25 (.bin .lss (.t 24) (.c (.int .i64 0)))]) (.cond (.t 25) (.seq (.reg [o 4 (.mv (.c (.int .i64 (-1))))]) (.ret)) (.skip))))) (.reg [o 16 (.mv (.t 5)), o 17 (.bin .add (.t 16) (.c (.int .i64 1))), o 5 (.mv (.t 17))]))
def F_laws_szCoreS : RF := ⟨27, 2, [.t 4],
  .seq (.reg [o 4 (.mv (.c (.int .i64 0)))]) (.seq (.reg [o 6 (.mv (.t 1)), o 7 (.mv (.t 0)), o 8 (.len false (.t 7)), o 9 (.bin .sub (.t 6) (.t 8)), o 1 (.mv (.t 9))]) (.seq (.seq (.reg [o 10 (.mv (.t 1)), o 11 (.bin .lss (.t 10) (.c (.int .i64 0)))]) (.cond (.t 11) (.seq (.reg [o 4 (.mv (.c (.int .i64 (-1))))]) (.ret)) (.skip))) (.seq (.seq (.reg [o 5 (.mv (.c (.int .i64 0)))]) (.block 0 (.loop [0, 1, 5] [(1, [1]), (0, [4])] B0_laws_szCoreS))) (.seq (.reg [o 26 (.mv (.t 1)), o 4 (.mv (.t 26))]) (.ret)))))⟩
def K_laws_szCoreS : Keeps := [([0, 1, 5], [(1, [1]), (0, [4])])]
theorem r_laws_szCoreS : resolveF Tryz.prog Tryz.f13 K_laws_szCoreS = some F_laws_szCoreS := by kernel_rfl
def X_laws_szCoreS : Ctx := Ctx.cons 45 G_laws_szCore (fun _ => none)
theorem co_laws_szCoreS : CtxOk Tryz.prog X_laws_szCoreS := CtxOk.cons (CtxOk.nil) ok_laws_szCore
theorem cx_laws_szCoreS : (CX X_laws_szCoreS 45 G_laws_szCore false) := cxI rfl rfl
def S_laws_szCoreS : ByV := ⟨none, false, semF X_laws_szCoreS F_laws_szCoreS none false⟩
def G_laws_szCoreS : CK := .byv S_laws_szCoreS
theorem sg_laws_szCoreS (args : List AV) : S_laws_szCoreS.sem args = semF X_laws_szCoreS F_laws_szCoreS none false args := rfl
theorem cl_laws_szCoreS (args hp) : callS G_laws_szCoreS args hp = byvS S_laws_szCoreS args hp := callS_byv rfl rfl args hp
theorem ok_laws_szCoreS : InlOk Tryz.prog 13 (callS G_laws_szCoreS) := byv_none co_laws_szCoreS Tryz.func13 r_laws_szCoreS rfl (fun _ _ h => h)
def F_laws_szGate : RF := ⟨18, 2, [.t 4],
  .seq (.reg [o 2 (.box (.t 0)), o 4 (.mv (.c (.int .i64 0)))]) (.seq (.reg [o 5 (.fa 1 (.t 2)), o 6 (.ld 1 false (.t 5)), o 7 (.mv (.t 1)), o 8 (.call 12 [(.t 6), (.t 7)]), o 1 (.mv (.t 8))]) (.seq (.seq (.reg [o 9 (.mv (.t 1)), o 10 (.bin .lss (.t 9) (.c (.int .i64 0)))]) (.cond (.t 10) (.seq (.reg [o 4 (.mv (.c (.int .i64 (-1))))]) (.ret)) (.skip))) (.seq (.reg [o 11 (.fa 2 (.t 2)), o 12 (.ld 1 false (.t 11)), o 13 (.mv (.t 1)), o 14 (.call 12 [(.t 12), (.t 13)]), o 1 (.mv (.t 14))]) (.seq (.seq (.reg [o 15 (.mv (.t 1)), o 16 (.bin .lss (.t 15) (.c (.int .i64 0)))]) (.cond (.t 16) (.seq (.reg [o 4 (.mv (.c (.int .i64 (-1))))]) (.ret)) (.skip))) (.seq (.reg [o 17 (.mv (.t 1)), o 4 (.mv (.t 17))]) (.ret))))))⟩
def K_laws_szGate : Keeps := []
theorem r_laws_szGate : resolveF Tryz.prog Tryz.f79 K_laws_szGate = some F_laws_szGate := by kernel_rfl
def X_laws_szGate : Ctx := Ctx.cons 12 G_laws_szIntS (fun _ => none)
theorem co_laws_szGate : CtxOk Tryz.prog X_laws_szGate := CtxOk.cons (CtxOk.nil) ok_laws_szIntS
theorem cx_laws_szGate : (CX X_laws_szGate 12 G_laws_szIntS false) := cxI rfl rfl
def S_laws_szGate : ByV := ⟨none, false, semF X_laws_szGate F_laws_szGate none false⟩
def G_laws_szGate : CK := .byv S_laws_szGate
theorem sg_laws_szGate (args : List AV) : S_laws_szGate.sem args = semF X_laws_szGate F_laws_szGate none false args := rfl
theorem cl_laws_szGate (args hp) : callS G_laws_szGate args hp = byvS S_laws_szGate args hp := callS_byv rfl rfl args hp
theorem ok_laws_szGate : InlOk Tryz.prog 79 (callS G_laws_szGate) := byv_none co_laws_szGate Tryz.func79 r_laws_szGate rfl (fun _ _ h => h)
def B0_laws_szGateS : RC :=
  .seq (.seq (.reg [o 12 (.mv (.t 5)), o 13 (.mv (.t 0)), o 14 (.len false (.t 13)), o 15 (.bin .lss (.t 12) (.t 14))]) (.cond (.t 15) (.skip) (.exit 0))) (.seq (.block 1 (.seq (.reg [o 18 (.mv (.t 0)), o 19 (.mv (.t 5)), o 20 (.ia 3 (.t 18) (.t 19)), o 21 (.ld 3 true (.t 20)), o 22 (.mv (.t 1)), o 23 (.call 79 [(.t 21), (.t 22)]), o 1 (.mv (.t 23))]) (.seq (.reg [o 24 (.mv (.t 1)), o 25 (.bin .lss (.t 24) (.c (.int .i64 0)))]) (.cond (.t 25) (.seq (.reg [o 4 (.mv (.c (.int .i64 (-1))))]) (.ret)) (.skip))))) (.reg [o 16 (.mv (.t 5)), o 17 (.bin .add (.t 16) (.c (.int .i64 1))), o 5 (.mv (.t 17))]))
def F_laws_szGateS : RF := ⟨27, 2, [.t 4],
  .seq (.reg [o 4 (.mv (.c (.int .i64 0)))]) (.seq (.reg [o 6 (.mv (.t 1)), o 7 (.mv (.t 0)), o 8 (.len false (.t 7)), o 9 (.bin .sub (.t 6) (.t 8)), o 1 (.mv (.t 9))]) (.seq (.seq (.reg [o 10 (.mv (.t 1)), o 11 (.bin .lss (.t 10) (.c (.int .i64 0)))]) (.cond (.t 11) (.seq (.reg [o 4 (.mv (.c (.int .i64 (-1))))]) (.ret)) (.skip))) (.seq (.seq (.reg [o 5 (.mv (.c (.int .i64 0)))]) (.block 0 (.loop [0, 1, 5] [(1, [1]), (0, [4])] B0_laws_szGateS))) (.seq (.reg [o 26 (.mv (.t 1)), o 4 (.mv (.t 26))]) (.ret)))))⟩
def K_laws_szGateS : Keeps := [([0, 1, 5], [(1, [1]), (0, [4])])]
theorem r_laws_szGateS : resolveF Tryz.prog Tryz.f46 K_laws_szGateS = some F_laws_szGateS := by kernel_rfl
def X_laws_szGateS : Ctx := Ctx.cons 79 G_laws_szGate (fun _ => none)
theorem co_laws_szGateS : CtxOk Tryz.prog X_laws_szGateS := CtxOk.cons (CtxOk.nil) ok_laws_szGate
theorem cx_laws_szGateS : (CX X_laws_szGateS 79 G_laws_szGate false) := cxI rfl rfl
def S_laws_szGateS : ByV := ⟨none, false, semF X_laws_szGateS F_laws_szGateS none false⟩
def G_laws_szGateS : CK := .byv S_laws_szGateS
theorem sg_laws_szGateS (args : List AV) : S_laws_szGateS.sem args = semF X_laws_szGateS F_laws_szGateS none false args := rfl
theorem cl_laws_szGateS (args hp) : callS G_laws_szGateS args hp = byvS S_laws_szGateS args hp := callS_byv rfl rfl args hp
theorem ok_laws_szGateS : InlOk Tryz.prog 46 (callS G_laws_szGateS) := byv_none co_laws_szGateS Tryz.func46 r_laws_szGateS rfl (fun _ _ h => h)
def F_laws_szBoolS : RF := ⟨12, 2, [.t 4],
  .seq (.reg [o 4 (.mv (.c (.int .i64 0)))]) (.seq (.reg [o 5 (.mv (.t 1)), o 6 (.mv (.t 0)), o 7 (.len false (.t 6)), o 8 (.bin .sub (.t 5) (.t 7)), o 1 (.mv (.t 8))]) (.seq (.seq (.reg [o 9 (.mv (.t 1)), o 10 (.bin .lss (.t 9) (.c (.int .i64 0)))]) (.cond (.t 10) (.seq (.reg [o 4 (.mv (.c (.int .i64 (-1))))]) (.ret)) (.skip))) (.seq (.reg [o 11 (.mv (.t 1)), o 4 (.mv (.t 11))]) (.ret))))⟩
def K_laws_szBoolS : Keeps := []
theorem r_laws_szBoolS : resolveF Tryz.prog Tryz.f47 K_laws_szBoolS = some F_laws_szBoolS := by kernel_rfl
def X_laws_szBoolS : Ctx := fun _ => none
theorem co_laws_szBoolS : CtxOk Tryz.prog X_laws_szBoolS := CtxOk.nil
theorem cx_laws_szBoolS : True := trivial
def S_laws_szBoolS : ByV := ⟨none, false, semF X_laws_szBoolS F_laws_szBoolS none false⟩
def G_laws_szBoolS : CK := .byv S_laws_szBoolS
theorem sg_laws_szBoolS (args : List AV) : S_laws_szBoolS.sem args = semF X_laws_szBoolS F_laws_szBoolS none false args := rfl
theorem cl_laws_szBoolS (args hp) : callS G_laws_szBoolS args hp = byvS S_laws_szBoolS args hp := callS_byv rfl rfl args hp
theorem ok_laws_szBoolS : InlOk Tryz.prog 47 (callS G_laws_szBoolS) := byv_none co_laws_szBoolS Tryz.func47 r_laws_szBoolS rfl (fun _ _ h => h)
def F_laws_szKernel : RF := ⟨30, 2, [.t 4],
  .seq (.reg [o 2 (.box (.t 0)), o 4 (.mv (.c (.int .i64 0)))]) (.seq (.reg [o 5 (.fa 0 (.t 2)), o 6 (.ld 1 false (.t 5)), o 7 (.mv (.t 1)), o 8 (.call 46 [(.t 6), (.t 7)]), o 1 (.mv (.t 8))]) (.seq (.seq (.reg [o 9 (.mv (.t 1)), o 10 (.bin .lss (.t 9) (.c (.int .i64 0)))]) (.cond (.t 10) (.seq (.reg [o 4 (.mv (.c (.int .i64 (-1))))]) (.ret)) (.skip))) (.seq (.reg [o 11 (.fa 1 (.t 2)), o 12 (.ld 1 false (.t 11)), o 13 (.mv (.t 1)), o 14 (.call 12 [(.t 12), (.t 13)]), o 1 (.mv (.t 14))]) (.seq (.seq (.reg [o 15 (.mv (.t 1)), o 16 (.bin .lss (.t 15) (.c (.int .i64 0)))]) (.cond (.t 16) (.seq (.reg [o 4 (.mv (.c (.int .i64 (-1))))]) (.ret)) (.skip))) (.seq (.reg [o 17 (.fa 2 (.t 2)), o 18 (.ld 1 false (.t 17)), o 19 (.mv (.t 1)), o 20 (.call 13 [(.t 18), (.t 19)]), o 1 (.mv (.t 20))]) (.seq (.seq (.reg [o 21 (.mv (.t 1)), o 22 (.bin .lss (.t 21) (.c (.int .i64 0)))]) (.cond (.t 22) (.seq (.reg [o 4 (.mv (.c (.int .i64 (-1))))]) (.ret)) (.skip))) (.seq (.reg [o 23 (.fa 3 (.t 2)), o 24 (.ld 1 false (.t 23)), o 25 (.mv (.t 1)), o 26 (.call 47 [(.t 24), (.t 25)]), o 1 (.mv (.t 26))]) (.seq (.seq (.reg [o 27 (.mv (.t 1)), o 28 (.bin .lss (.t 27) (.c (.int .i64 0)))]) (.cond (.t 28) (.seq (.reg [o 4 (.mv (.c (.int .i64 (-1))))]) (.ret)) (.skip))) (.seq (.reg [o 29 (.mv (.t 1)), o 4 (.mv (.t 29))]) (.ret))))))))))⟩
def K_laws_szKernel : Keeps := []
theorem r_laws_szKernel : resolveF Tryz.prog Tryz.f14 K_laws_szKernel = some F_laws_szKernel := by kernel_rfl
def X_laws_szKernel : Ctx := Ctx.cons 46 G_laws_szGateS (Ctx.cons 12 G_laws_szIntS (Ctx.cons 13 G_laws_szCoreS (Ctx.cons 47 G_laws_szBoolS (fun _ => none))))
theorem co_laws_szKernel : CtxOk Tryz.prog X_laws_szKernel := CtxOk.cons (CtxOk.cons (CtxOk.cons (CtxOk.cons (CtxOk.nil) ok_laws_szBoolS) ok_laws_szCoreS) ok_laws_szIntS) ok_laws_szGateS
theorem cx_laws_szKernel : (CX X_laws_szKernel 46 G_laws_szGateS false) ∧ (CX X_laws_szKernel 12 G_laws_szIntS false) ∧ (CX X_laws_szKernel 13 G_laws_szCoreS false) ∧ (CX X_laws_szKernel 47 G_laws_szBoolS false) := ⟨cxI rfl rfl, cxI rfl rfl, cxI rfl rfl, cxI rfl rfl⟩
def S_laws_szKernel : ByV := ⟨none, false, semF X_laws_szKernel F_laws_szKernel none false⟩
def G_laws_szKernel : CK := .byv S_laws_szKernel
theorem sg_laws_szKernel (args : List AV) : S_laws_szKernel.sem args = semF X_laws_szKernel F_laws_szKernel none false args := rfl
theorem cl_laws_szKernel (args hp) : callS G_laws_szKernel args hp = byvS S_laws_szKernel args hp := callS_byv rfl rfl args hp
theorem ok_laws_szKernel : InlOk Tryz.prog 14 (callS G_laws_szKernel) := byv_none co_laws_szKernel Tryz.func14 r_laws_szKernel rfl (fun _ _ h => h)
def F_laws_szEventS : RF := ⟨12, 2, [.t 4],
  .seq (.reg [o 4 (.mv (.c (.int .i64 0)))]) (.seq (.reg [o 5 (.mv (.t 1)), o 6 (.mv (.t 0)), o 7 (.len false (.t 6)), o 8 (.bin .sub (.t 5) (.t 7)), o 1 (.mv (.t 8))]) (.seq (.seq (.reg [o 9 (.mv (.t 1)), o 10 (.bin .lss (.t 9) (.c (.int .i64 0)))]) (.cond (.t 10) (.seq (.reg [o 4 (.mv (.c (.int .i64 (-1))))]) (.ret)) (.skip))) (.seq (.reg [o 11 (.mv (.t 1)), o 4 (.mv (.t 11))]) (.ret))))⟩
def K_laws_szEventS : Keeps := []
theorem r_laws_szEventS : resolveF Tryz.prog Tryz.f15 K_laws_szEventS = some F_laws_szEventS := by kernel_rfl
def X_laws_szEventS : Ctx := fun _ => none
theorem co_laws_szEventS : CtxOk Tryz.prog X_laws_szEventS := CtxOk.nil
theorem cx_laws_szEventS : True := trivial
def S_laws_szEventS : ByV := ⟨none, false, semF X_laws_szEventS F_laws_szEventS none false⟩
def G_laws_szEventS : CK := .byv S_laws_szEventS
theorem sg_laws_szEventS (args : List AV) : S_laws_szEventS.sem args = semF X_laws_szEventS F_laws_szEventS none false args := rfl
theorem cl_laws_szEventS (args hp) : callS G_laws_szEventS args hp = byvS S_laws_szEventS args hp := callS_byv rfl rfl args hp
theorem ok_laws_szEventS : InlOk Tryz.prog 15 (callS G_laws_szEventS) := byv_none co_laws_szEventS Tryz.func15 r_laws_szEventS rfl (fun _ _ h => h)
def F_laws_szMachine : RF := ⟨42, 2, [.t 4],
  .seq (.reg [o 2 (.box (.t 0)), o 4 (.mv (.c (.int .i64 0)))]) (.seq (.reg [o 5 (.fa 0 (.t 2)), o 6 (.ld 3 true (.t 5)), o 7 (.mv (.t 1)), o 8 (.call 11 [(.t 6), (.t 7)]), o 1 (.mv (.t 8))]) (.seq (.seq (.reg [o 9 (.mv (.t 1)), o 10 (.bin .lss (.t 9) (.c (.int .i64 0)))]) (.cond (.t 10) (.seq (.reg [o 4 (.mv (.c (.int .i64 (-1))))]) (.ret)) (.skip))) (.seq (.reg [o 11 (.fa 3 (.t 2)), o 12 (.ld 1 false (.t 11)), o 13 (.mv (.t 1)), o 14 (.call 12 [(.t 12), (.t 13)]), o 1 (.mv (.t 14))]) (.seq (.seq (.reg [o 15 (.mv (.t 1)), o 16 (.bin .lss (.t 15) (.c (.int .i64 0)))]) (.cond (.t 16) (.seq (.reg [o 4 (.mv (.c (.int .i64 (-1))))]) (.ret)) (.skip))) (.seq (.reg [o 17 (.fa 4 (.t 2)), o 18 (.ld 1 false (.t 17)), o 19 (.mv (.t 1)), o 20 (.call 13 [(.t 18), (.t 19)]), o 1 (.mv (.t 20))]) (.seq (.seq (.reg [o 21 (.mv (.t 1)), o 22 (.bin .lss (.t 21) (.c (.int .i64 0)))]) (.cond (.t 22) (.seq (.reg [o 4 (.mv (.c (.int .i64 (-1))))]) (.ret)) (.skip))) (.seq (.reg [o 23 (.fa 5 (.t 2)), o 24 (.ld 4 true (.t 23)), o 25 (.mv (.t 1)), o 26 (.call 14 [(.t 24), (.t 25)]), o 1 (.mv (.t 26))]) (.seq (.seq (.reg [o 27 (.mv (.t 1)), o 28 (.bin .lss (.t 27) (.c (.int .i64 0)))]) (.cond (.t 28) (.seq (.reg [o 4 (.mv (.c (.int .i64 (-1))))]) (.ret)) (.skip))) (.seq (.reg [o 29 (.fa 9 (.t 2)), o 30 (.ld 1 false (.t 29)), o 31 (.mv (.t 1)), o 32 (.call 12 [(.t 30), (.t 31)]), o 1 (.mv (.t 32))]) (.seq (.seq (.reg [o 33 (.mv (.t 1)), o 34 (.bin .lss (.t 33) (.c (.int .i64 0)))]) (.cond (.t 34) (.seq (.reg [o 4 (.mv (.c (.int .i64 (-1))))]) (.ret)) (.skip))) (.seq (.reg [o 35 (.fa 10 (.t 2)), o 36 (.ld 1 false (.t 35)), o 37 (.mv (.t 1)), o 38 (.call 15 [(.t 36), (.t 37)]), o 1 (.mv (.t 38))]) (.seq (.seq (.reg [o 39 (.mv (.t 1)), o 40 (.bin .lss (.t 39) (.c (.int .i64 0)))]) (.cond (.t 40) (.seq (.reg [o 4 (.mv (.c (.int .i64 (-1))))]) (.ret)) (.skip))) (.seq (.reg [o 41 (.mv (.t 1)), o 4 (.mv (.t 41))]) (.ret))))))))))))))⟩
def K_laws_szMachine : Keeps := []
theorem r_laws_szMachine : resolveF Tryz.prog Tryz.f4 K_laws_szMachine = some F_laws_szMachine := by kernel_rfl
def X_laws_szMachine : Ctx := Ctx.cons 11 G_laws_szImage (Ctx.cons 12 G_laws_szIntS (Ctx.cons 13 G_laws_szCoreS (Ctx.cons 14 G_laws_szKernel (Ctx.cons 15 G_laws_szEventS (fun _ => none)))))
theorem co_laws_szMachine : CtxOk Tryz.prog X_laws_szMachine := CtxOk.cons (CtxOk.cons (CtxOk.cons (CtxOk.cons (CtxOk.cons (CtxOk.nil) ok_laws_szEventS) ok_laws_szKernel) ok_laws_szCoreS) ok_laws_szIntS) ok_laws_szImage
theorem cx_laws_szMachine : (CX X_laws_szMachine 11 G_laws_szImage false) ∧ (CX X_laws_szMachine 12 G_laws_szIntS false) ∧ (CX X_laws_szMachine 13 G_laws_szCoreS false) ∧ (CX X_laws_szMachine 14 G_laws_szKernel false) ∧ (CX X_laws_szMachine 15 G_laws_szEventS false) := ⟨cxI rfl rfl, cxI rfl rfl, cxI rfl rfl, cxI rfl rfl, cxI rfl rfl⟩
def S_laws_szMachine : ByV := ⟨none, false, semF X_laws_szMachine F_laws_szMachine none false⟩
def G_laws_szMachine : CK := .byv S_laws_szMachine
theorem sg_laws_szMachine (args : List AV) : S_laws_szMachine.sem args = semF X_laws_szMachine F_laws_szMachine none false args := rfl
theorem cl_laws_szMachine (args hp) : callS G_laws_szMachine args hp = byvS S_laws_szMachine args hp := callS_byv rfl rfl args hp
theorem ok_laws_szMachine : InlOk Tryz.prog 4 (callS G_laws_szMachine) := byv_none co_laws_szMachine Tryz.func4 r_laws_szMachine rfl (fun _ _ h => h)
def B0_laws_toIntS : RC :=
  .seq (.seq (.reg [o 8 (.mv (.t 4)), o 9 (.mv (.t 0)), o 10 (.len false (.t 9)), o 11 (.bin .lss (.t 8) (.t 10))]) (.cond (.t 11) (.skip) (.exit 0))) (.seq (.block 1 (.reg [o 14 (.mv (.t 3)), o 15 (.mv (.t 4)), o 16 (.mv (.t 0)), o 17 (.mv (.t 4)), o 18 (.ia 1 (.t 16) (.t 17)), o 19 (.ld 1 false (.t 18)), o 20 (.ia 1 (.t 14) (.t 15)), ⟨none, none, .st 1 (.t 20) (.t 19)⟩])) (.reg [o 12 (.mv (.t 4)), o 13 (.bin .add (.t 12) (.c (.int .i64 1))), o 4 (.mv (.t 13))]))
def F_laws_toIntS : RF := ⟨22, 1, [.t 2],
  .seq (.reg [o 2 (.mv (.c (.nil 1)))]) (.seq (.reg [o 5 (.mv (.t 0)), o 6 (.len false (.t 5)), o 7 (.mk 1 [(.int .i64 0)] 8 (.t 6) (.t 6)), o 3 (.mv (.t 7))]) (.seq (.seq (.reg [o 4 (.mv (.c (.int .i64 0)))]) (.block 0 (.loop [0, 3, 4] [(1, [3])] B0_laws_toIntS))) (.seq (.reg [o 21 (.mv (.t 3)), o 2 (.mv (.t 21))]) (.ret))))⟩
def K_laws_toIntS : Keeps := [([0, 3, 4], [(1, [3])])]
theorem r_laws_toIntS : resolveF Tryz.prog Tryz.f19 K_laws_toIntS = some F_laws_toIntS := by kernel_rfl
def X_laws_toIntS : Ctx := fun _ => none
theorem co_laws_toIntS : CtxOk Tryz.prog X_laws_toIntS := CtxOk.nil
theorem cx_laws_toIntS : True := trivial
def S_laws_toIntS : ByV := ⟨none, false, semF X_laws_toIntS F_laws_toIntS none false⟩
def G_laws_toIntS : CK := .byv S_laws_toIntS
theorem sg_laws_toIntS (args : List AV) : S_laws_toIntS.sem args = semF X_laws_toIntS F_laws_toIntS none false args := rfl
theorem cl_laws_toIntS (args hp) : callS G_laws_toIntS args hp = byvS S_laws_toIntS args hp := callS_byv rfl rfl args hp
theorem ok_laws_toIntS : InlOk Tryz.prog 19 (callS G_laws_toIntS) := byv_none co_laws_toIntS Tryz.func19 r_laws_toIntS rfl (fun _ _ h => h)
def F_laws_toImage : RF := ⟨16, 1, [.cell 2 3 true],
  .seq (.reg [o 1 (.box (.t 0)), o 2 (.new [(.nil 1), (.nil 1), (.int .i64 0)])]) (.seq (.reg [o 3 (.new [(.nil 1), (.nil 1), (.int .i64 0)])]) (.seq (.reg [o 4 (.fa 0 (.t 1)), o 5 (.ld 1 false (.t 4)), o 6 (.call 19 [(.t 5)]), o 7 (.fa 0 (.t 3)), ⟨none, none, .st 1 (.t 7) (.t 6)⟩]) (.seq (.reg [o 8 (.fa 1 (.t 1)), o 9 (.ld 1 false (.t 8)), o 10 (.call 19 [(.t 9)]), o 11 (.fa 1 (.t 3)), ⟨none, none, .st 1 (.t 11) (.t 10)⟩]) (.seq (.reg [o 12 (.fa 2 (.t 1)), o 13 (.ld 1 false (.t 12)), o 14 (.fa 2 (.t 3)), ⟨none, none, .st 1 (.t 14) (.t 13)⟩]) (.seq (.reg [o 15 (.ld 3 true (.t 3)), ⟨none, none, .st 3 (.t 2) (.t 15)⟩]) (.ret))))))⟩
def K_laws_toImage : Keeps := []
theorem r_laws_toImage : resolveF Tryz.prog Tryz.f18 K_laws_toImage = some F_laws_toImage := by kernel_rfl
def X_laws_toImage : Ctx := Ctx.cons 19 G_laws_toIntS (fun _ => none)
theorem co_laws_toImage : CtxOk Tryz.prog X_laws_toImage := CtxOk.cons (CtxOk.nil) ok_laws_toIntS
theorem cx_laws_toImage : (CX X_laws_toImage 19 G_laws_toIntS false) := cxI rfl rfl
def S_laws_toImage : ByV := ⟨none, false, semF X_laws_toImage F_laws_toImage none false⟩
def G_laws_toImage : CK := .byv S_laws_toImage
theorem sg_laws_toImage (args : List AV) : S_laws_toImage.sem args = semF X_laws_toImage F_laws_toImage none false args := rfl
theorem cl_laws_toImage (args hp) : callS G_laws_toImage args hp = byvS S_laws_toImage args hp := callS_byv rfl rfl args hp
theorem ok_laws_toImage : InlOk Tryz.prog 18 (callS G_laws_toImage) := byv_none co_laws_toImage Tryz.func18 r_laws_toImage rfl (fun _ _ h => h)
def F_laws_toCore : RF := ⟨15, 1, [.cell 2 3 true],
  .seq (.reg [o 1 (.box (.t 0)), o 2 (.new [(.nil 1), (.int .i64 0), (.int .i64 0)])]) (.seq (.reg [o 3 (.new [(.nil 1), (.int .i64 0), (.int .i64 0)])]) (.seq (.reg [o 4 (.fa 0 (.t 1)), o 5 (.ld 1 false (.t 4)), o 6 (.call 19 [(.t 5)]), o 7 (.fa 0 (.t 3)), ⟨none, none, .st 1 (.t 7) (.t 6)⟩]) (.seq (.reg [o 8 (.fa 1 (.t 1)), o 9 (.ld 1 false (.t 8)), o 10 (.fa 1 (.t 3)), ⟨none, none, .st 1 (.t 10) (.t 9)⟩]) (.seq (.reg [o 11 (.fa 2 (.t 1)), o 12 (.ld 1 false (.t 11)), o 13 (.fa 2 (.t 3)), ⟨none, none, .st 1 (.t 13) (.t 12)⟩]) (.seq (.reg [o 14 (.ld 3 true (.t 3)), ⟨none, none, .st 3 (.t 2) (.t 14)⟩]) (.ret))))))⟩
def K_laws_toCore : Keeps := []
theorem r_laws_toCore : resolveF Tryz.prog Tryz.f56 K_laws_toCore = some F_laws_toCore := by kernel_rfl
def X_laws_toCore : Ctx := Ctx.cons 19 G_laws_toIntS (fun _ => none)
theorem co_laws_toCore : CtxOk Tryz.prog X_laws_toCore := CtxOk.cons (CtxOk.nil) ok_laws_toIntS
theorem cx_laws_toCore : (CX X_laws_toCore 19 G_laws_toIntS false) := cxI rfl rfl
def S_laws_toCore : ByV := ⟨none, false, semF X_laws_toCore F_laws_toCore none false⟩
def G_laws_toCore : CK := .byv S_laws_toCore
theorem sg_laws_toCore (args : List AV) : S_laws_toCore.sem args = semF X_laws_toCore F_laws_toCore none false args := rfl
theorem cl_laws_toCore (args hp) : callS G_laws_toCore args hp = byvS S_laws_toCore args hp := callS_byv rfl rfl args hp
theorem ok_laws_toCore : InlOk Tryz.prog 56 (callS G_laws_toCore) := byv_none co_laws_toCore Tryz.func56 r_laws_toCore rfl (fun _ _ h => h)
def B0_laws_toCoreS : RC :=
  .seq (.seq (.reg [o 8 (.mv (.t 4)), o 9 (.mv (.t 0)), o 10 (.len false (.t 9)), o 11 (.bin .lss (.t 8) (.t 10))]) (.cond (.t 11) (.skip) (.exit 0))) (.seq (.block 1 (.reg [o 14 (.mv (.t 3)), o 15 (.mv (.t 4)), o 16 (.mv (.t 0)), o 17 (.mv (.t 4)), o 18 (.ia 3 (.t 16) (.t 17)), o 19 (.ld 3 true (.t 18)), o 20 (.call 56 [(.t 19)]), o 21 (.ia 3 (.t 14) (.t 15)), ⟨none, none, .st 3 (.t 21) (.t 20)⟩])) (.reg [o 12 (.mv (.t 4)), o 13 (.bin .add (.t 12) (.c (.int .i64 1))), o 4 (.mv (.t 13))]))
def F_laws_toCoreS : RF := ⟨23, 1, [.t 2],
  .seq (.reg [o 2 (.mv (.c (.nil 3)))]) (.seq (.reg [o 5 (.mv (.t 0)), o 6 (.len false (.t 5)), o 7 (.mk 3 [(.tree 1 []), (.int .i64 0), (.int .i64 0)] 40 (.t 6) (.t 6)), o 3 (.mv (.t 7))]) (.seq (.seq (.reg [o 4 (.mv (.c (.int .i64 0)))]) (.block 0 (.loop [0, 3, 4] [(1, [3])] B0_laws_toCoreS))) (.seq (.reg [o 22 (.mv (.t 3)), o 2 (.mv (.t 22))]) (.ret))))⟩
def K_laws_toCoreS : Keeps := [([0, 3, 4], [(1, [3])])]
theorem r_laws_toCoreS : resolveF Tryz.prog Tryz.f20 K_laws_toCoreS = some F_laws_toCoreS := by kernel_rfl
def X_laws_toCoreS : Ctx := Ctx.cons 56 G_laws_toCore (fun _ => none)
theorem co_laws_toCoreS : CtxOk Tryz.prog X_laws_toCoreS := CtxOk.cons (CtxOk.nil) ok_laws_toCore
theorem cx_laws_toCoreS : (CX X_laws_toCoreS 56 G_laws_toCore false) := cxI rfl rfl
def S_laws_toCoreS : ByV := ⟨none, false, semF X_laws_toCoreS F_laws_toCoreS none false⟩
def G_laws_toCoreS : CK := .byv S_laws_toCoreS
theorem sg_laws_toCoreS (args : List AV) : S_laws_toCoreS.sem args = semF X_laws_toCoreS F_laws_toCoreS none false args := rfl
theorem cl_laws_toCoreS (args hp) : callS G_laws_toCoreS args hp = byvS S_laws_toCoreS args hp := callS_byv rfl rfl args hp
theorem ok_laws_toCoreS : InlOk Tryz.prog 20 (callS G_laws_toCoreS) := byv_none co_laws_toCoreS Tryz.func20 r_laws_toCoreS rfl (fun _ _ h => h)
def F_laws_toGate : RF := ⟨16, 1, [.cell 2 3 true],
  .seq (.reg [o 1 (.box (.t 0)), o 2 (.new [(.int .i64 0), (.nil 1), (.nil 1)])]) (.seq (.reg [o 3 (.new [(.int .i64 0), (.nil 1), (.nil 1)])]) (.seq (.reg [o 4 (.fa 0 (.t 1)), o 5 (.ld 1 false (.t 4)), o 6 (.fa 0 (.t 3)), ⟨none, none, .st 1 (.t 6) (.t 5)⟩]) (.seq (.reg [o 7 (.fa 1 (.t 1)), o 8 (.ld 1 false (.t 7)), o 9 (.call 19 [(.t 8)]), o 10 (.fa 1 (.t 3)), ⟨none, none, .st 1 (.t 10) (.t 9)⟩]) (.seq (.reg [o 11 (.fa 2 (.t 1)), o 12 (.ld 1 false (.t 11)), o 13 (.call 19 [(.t 12)]), o 14 (.fa 2 (.t 3)), ⟨none, none, .st 1 (.t 14) (.t 13)⟩]) (.seq (.reg [o 15 (.ld 3 true (.t 3)), ⟨none, none, .st 3 (.t 2) (.t 15)⟩]) (.ret))))))⟩
def K_laws_toGate : Keeps := []
theorem r_laws_toGate : resolveF Tryz.prog Tryz.f88 K_laws_toGate = some F_laws_toGate := by kernel_rfl
def X_laws_toGate : Ctx := Ctx.cons 19 G_laws_toIntS (fun _ => none)
theorem co_laws_toGate : CtxOk Tryz.prog X_laws_toGate := CtxOk.cons (CtxOk.nil) ok_laws_toIntS
theorem cx_laws_toGate : (CX X_laws_toGate 19 G_laws_toIntS false) := cxI rfl rfl
def S_laws_toGate : ByV := ⟨none, false, semF X_laws_toGate F_laws_toGate none false⟩
def G_laws_toGate : CK := .byv S_laws_toGate
theorem sg_laws_toGate (args : List AV) : S_laws_toGate.sem args = semF X_laws_toGate F_laws_toGate none false args := rfl
theorem cl_laws_toGate (args hp) : callS G_laws_toGate args hp = byvS S_laws_toGate args hp := callS_byv rfl rfl args hp
theorem ok_laws_toGate : InlOk Tryz.prog 88 (callS G_laws_toGate) := byv_none co_laws_toGate Tryz.func88 r_laws_toGate rfl (fun _ _ h => h)
def B0_laws_toGateS : RC :=
  .seq (.seq (.reg [o 8 (.mv (.t 4)), o 9 (.mv (.t 0)), o 10 (.len false (.t 9)), o 11 (.bin .lss (.t 8) (.t 10))]) (.cond (.t 11) (.skip) (.exit 0))) (.seq (.block 1 (.reg [o 14 (.mv (.t 3)), o 15 (.mv (.t 4)), o 16 (.mv (.t 0)), o 17 (.mv (.t 4)), o 18 (.ia 3 (.t 16) (.t 17)), o 19 (.ld 3 true (.t 18)), o 20 (.call 88 [(.t 19)]), o 21 (.ia 3 (.t 14) (.t 15)), ⟨none, none, .st 3 (.t 21) (.t 20)⟩])) (.reg [o 12 (.mv (.t 4)), o 13 (.bin .add (.t 12) (.c (.int .i64 1))), o 4 (.mv (.t 13))]))
def F_laws_toGateS : RF := ⟨23, 1, [.t 2],
  .seq (.reg [o 2 (.mv (.c (.nil 3)))]) (.seq (.reg [o 5 (.mv (.t 0)), o 6 (.len false (.t 5)), o 7 (.mk 3 [(.int .i64 0), (.tree 1 []), (.tree 1 [])] 56 (.t 6) (.t 6)), o 3 (.mv (.t 7))]) (.seq (.seq (.reg [o 4 (.mv (.c (.int .i64 0)))]) (.block 0 (.loop [0, 3, 4] [(1, [3])] B0_laws_toGateS))) (.seq (.reg [o 22 (.mv (.t 3)), o 2 (.mv (.t 22))]) (.ret))))⟩
def K_laws_toGateS : Keeps := [([0, 3, 4], [(1, [3])])]
theorem r_laws_toGateS : resolveF Tryz.prog Tryz.f57 K_laws_toGateS = some F_laws_toGateS := by kernel_rfl
def X_laws_toGateS : Ctx := Ctx.cons 88 G_laws_toGate (fun _ => none)
theorem co_laws_toGateS : CtxOk Tryz.prog X_laws_toGateS := CtxOk.cons (CtxOk.nil) ok_laws_toGate
theorem cx_laws_toGateS : (CX X_laws_toGateS 88 G_laws_toGate false) := cxI rfl rfl
def S_laws_toGateS : ByV := ⟨none, false, semF X_laws_toGateS F_laws_toGateS none false⟩
def G_laws_toGateS : CK := .byv S_laws_toGateS
theorem sg_laws_toGateS (args : List AV) : S_laws_toGateS.sem args = semF X_laws_toGateS F_laws_toGateS none false args := rfl
theorem cl_laws_toGateS (args hp) : callS G_laws_toGateS args hp = byvS S_laws_toGateS args hp := callS_byv rfl rfl args hp
theorem ok_laws_toGateS : InlOk Tryz.prog 57 (callS G_laws_toGateS) := byv_none co_laws_toGateS Tryz.func57 r_laws_toGateS rfl (fun _ _ h => h)
def B0_laws_toBoolS : RC :=
  .seq (.seq (.reg [o 8 (.mv (.t 4)), o 9 (.mv (.t 0)), o 10 (.len false (.t 9)), o 11 (.bin .lss (.t 8) (.t 10))]) (.cond (.t 11) (.skip) (.exit 0))) (.seq (.block 1 (.reg [o 14 (.mv (.t 3)), o 15 (.mv (.t 4)), o 16 (.mv (.t 0)), o 17 (.mv (.t 4)), o 18 (.ia 1 (.t 16) (.t 17)), o 19 (.ld 1 false (.t 18)), o 20 (.ia 1 (.t 14) (.t 15)), ⟨none, none, .st 1 (.t 20) (.t 19)⟩])) (.reg [o 12 (.mv (.t 4)), o 13 (.bin .add (.t 12) (.c (.int .i64 1))), o 4 (.mv (.t 13))]))
def F_laws_toBoolS : RF := ⟨22, 1, [.t 2],
  .seq (.reg [o 2 (.mv (.c (.nil 1)))]) (.seq (.reg [o 5 (.mv (.t 0)), o 6 (.len false (.t 5)), o 7 (.mk 1 [(.bool false)] 1 (.t 6) (.t 6)), o 3 (.mv (.t 7))]) (.seq (.seq (.reg [o 4 (.mv (.c (.int .i64 0)))]) (.block 0 (.loop [0, 3, 4] [(1, [3])] B0_laws_toBoolS))) (.seq (.reg [o 21 (.mv (.t 3)), o 2 (.mv (.t 21))]) (.ret))))⟩
def K_laws_toBoolS : Keeps := [([0, 3, 4], [(1, [3])])]
theorem r_laws_toBoolS : resolveF Tryz.prog Tryz.f58 K_laws_toBoolS = some F_laws_toBoolS := by kernel_rfl
def X_laws_toBoolS : Ctx := fun _ => none
theorem co_laws_toBoolS : CtxOk Tryz.prog X_laws_toBoolS := CtxOk.nil
theorem cx_laws_toBoolS : True := trivial
def S_laws_toBoolS : ByV := ⟨none, false, semF X_laws_toBoolS F_laws_toBoolS none false⟩
def G_laws_toBoolS : CK := .byv S_laws_toBoolS
theorem sg_laws_toBoolS (args : List AV) : S_laws_toBoolS.sem args = semF X_laws_toBoolS F_laws_toBoolS none false args := rfl
theorem cl_laws_toBoolS (args hp) : callS G_laws_toBoolS args hp = byvS S_laws_toBoolS args hp := callS_byv rfl rfl args hp
theorem ok_laws_toBoolS : InlOk Tryz.prog 58 (callS G_laws_toBoolS) := byv_none co_laws_toBoolS Tryz.func58 r_laws_toBoolS rfl (fun _ _ h => h)
def F_laws_toKernel : RF := ⟨21, 1, [.cell 2 4 true],
  .seq (.reg [o 1 (.box (.t 0)), o 2 (.new [(.nil 3), (.nil 1), (.nil 3), (.nil 1)])]) (.seq (.reg [o 3 (.new [(.nil 3), (.nil 1), (.nil 3), (.nil 1)])]) (.seq (.reg [o 4 (.fa 0 (.t 1)), o 5 (.ld 1 false (.t 4)), o 6 (.call 57 [(.t 5)]), o 7 (.fa 0 (.t 3)), ⟨none, none, .st 1 (.t 7) (.t 6)⟩]) (.seq (.reg [o 8 (.fa 1 (.t 1)), o 9 (.ld 1 false (.t 8)), o 10 (.call 19 [(.t 9)]), o 11 (.fa 1 (.t 3)), ⟨none, none, .st 1 (.t 11) (.t 10)⟩]) (.seq (.reg [o 12 (.fa 2 (.t 1)), o 13 (.ld 1 false (.t 12)), o 14 (.call 20 [(.t 13)]), o 15 (.fa 2 (.t 3)), ⟨none, none, .st 1 (.t 15) (.t 14)⟩]) (.seq (.reg [o 16 (.fa 3 (.t 1)), o 17 (.ld 1 false (.t 16)), o 18 (.call 58 [(.t 17)]), o 19 (.fa 3 (.t 3)), ⟨none, none, .st 1 (.t 19) (.t 18)⟩]) (.seq (.reg [o 20 (.ld 4 true (.t 3)), ⟨none, none, .st 4 (.t 2) (.t 20)⟩]) (.ret)))))))⟩
def K_laws_toKernel : Keeps := []
theorem r_laws_toKernel : resolveF Tryz.prog Tryz.f21 K_laws_toKernel = some F_laws_toKernel := by kernel_rfl
def X_laws_toKernel : Ctx := Ctx.cons 57 G_laws_toGateS (Ctx.cons 19 G_laws_toIntS (Ctx.cons 20 G_laws_toCoreS (Ctx.cons 58 G_laws_toBoolS (fun _ => none))))
theorem co_laws_toKernel : CtxOk Tryz.prog X_laws_toKernel := CtxOk.cons (CtxOk.cons (CtxOk.cons (CtxOk.cons (CtxOk.nil) ok_laws_toBoolS) ok_laws_toCoreS) ok_laws_toIntS) ok_laws_toGateS
theorem cx_laws_toKernel : (CX X_laws_toKernel 57 G_laws_toGateS false) ∧ (CX X_laws_toKernel 19 G_laws_toIntS false) ∧ (CX X_laws_toKernel 20 G_laws_toCoreS false) ∧ (CX X_laws_toKernel 58 G_laws_toBoolS false) := ⟨cxI rfl rfl, cxI rfl rfl, cxI rfl rfl, cxI rfl rfl⟩
def S_laws_toKernel : ByV := ⟨none, false, semF X_laws_toKernel F_laws_toKernel none false⟩
def G_laws_toKernel : CK := .byv S_laws_toKernel
theorem sg_laws_toKernel (args : List AV) : S_laws_toKernel.sem args = semF X_laws_toKernel F_laws_toKernel none false args := rfl
theorem cl_laws_toKernel (args hp) : callS G_laws_toKernel args hp = byvS S_laws_toKernel args hp := callS_byv rfl rfl args hp
theorem ok_laws_toKernel : InlOk Tryz.prog 21 (callS G_laws_toKernel) := byv_none co_laws_toKernel Tryz.func21 r_laws_toKernel rfl (fun _ _ h => h)
def F_laws_toEvent : RF := ⟨14, 1, [.cell 2 3 true],
  .seq (.reg [o 1 (.box (.t 0)), o 2 (.new [(.int .i64 0), (.int .i64 0), (.int .i64 0)])]) (.seq (.reg [o 3 (.new [(.int .i64 0), (.int .i64 0), (.int .i64 0)])]) (.seq (.reg [o 4 (.fa 0 (.t 1)), o 5 (.ld 1 false (.t 4)), o 6 (.fa 0 (.t 3)), ⟨none, none, .st 1 (.t 6) (.t 5)⟩]) (.seq (.reg [o 7 (.fa 1 (.t 1)), o 8 (.ld 1 false (.t 7)), o 9 (.fa 1 (.t 3)), ⟨none, none, .st 1 (.t 9) (.t 8)⟩]) (.seq (.reg [o 10 (.fa 2 (.t 1)), o 11 (.ld 1 false (.t 10)), o 12 (.fa 2 (.t 3)), ⟨none, none, .st 1 (.t 12) (.t 11)⟩]) (.seq (.reg [o 13 (.ld 3 true (.t 3)), ⟨none, none, .st 3 (.t 2) (.t 13)⟩]) (.ret))))))⟩
def K_laws_toEvent : Keeps := []
theorem r_laws_toEvent : resolveF Tryz.prog Tryz.f59 K_laws_toEvent = some F_laws_toEvent := by kernel_rfl
def X_laws_toEvent : Ctx := fun _ => none
theorem co_laws_toEvent : CtxOk Tryz.prog X_laws_toEvent := CtxOk.nil
theorem cx_laws_toEvent : True := trivial
def S_laws_toEvent : ByV := ⟨none, false, semF X_laws_toEvent F_laws_toEvent none false⟩
def G_laws_toEvent : CK := .byv S_laws_toEvent
theorem sg_laws_toEvent (args : List AV) : S_laws_toEvent.sem args = semF X_laws_toEvent F_laws_toEvent none false args := rfl
theorem cl_laws_toEvent (args hp) : callS G_laws_toEvent args hp = byvS S_laws_toEvent args hp := callS_byv rfl rfl args hp
theorem ok_laws_toEvent : InlOk Tryz.prog 59 (callS G_laws_toEvent) := byv_none co_laws_toEvent Tryz.func59 r_laws_toEvent rfl (fun _ _ h => h)
def B0_laws_toEventS : RC :=
  .seq (.seq (.reg [o 8 (.mv (.t 4)), o 9 (.mv (.t 0)), o 10 (.len false (.t 9)), o 11 (.bin .lss (.t 8) (.t 10))]) (.cond (.t 11) (.skip) (.exit 0))) (.seq (.block 1 (.reg [o 14 (.mv (.t 3)), o 15 (.mv (.t 4)), o 16 (.mv (.t 0)), o 17 (.mv (.t 4)), o 18 (.ia 3 (.t 16) (.t 17)), o 19 (.ld 3 true (.t 18)), o 20 (.call 59 [(.t 19)]), o 21 (.ia 3 (.t 14) (.t 15)), ⟨none, none, .st 3 (.t 21) (.t 20)⟩])) (.reg [o 12 (.mv (.t 4)), o 13 (.bin .add (.t 12) (.c (.int .i64 1))), o 4 (.mv (.t 13))]))
def F_laws_toEventS : RF := ⟨23, 1, [.t 2],
  .seq (.reg [o 2 (.mv (.c (.nil 3)))]) (.seq (.reg [o 5 (.mv (.t 0)), o 6 (.len false (.t 5)), o 7 (.mk 3 [(.int .i64 0), (.int .i64 0), (.int .i64 0)] 24 (.t 6) (.t 6)), o 3 (.mv (.t 7))]) (.seq (.seq (.reg [o 4 (.mv (.c (.int .i64 0)))]) (.block 0 (.loop [0, 3, 4] [(1, [3])] B0_laws_toEventS))) (.seq (.reg [o 22 (.mv (.t 3)), o 2 (.mv (.t 22))]) (.ret))))⟩
def K_laws_toEventS : Keeps := [([0, 3, 4], [(1, [3])])]
theorem r_laws_toEventS : resolveF Tryz.prog Tryz.f22 K_laws_toEventS = some F_laws_toEventS := by kernel_rfl
def X_laws_toEventS : Ctx := Ctx.cons 59 G_laws_toEvent (fun _ => none)
theorem co_laws_toEventS : CtxOk Tryz.prog X_laws_toEventS := CtxOk.cons (CtxOk.nil) ok_laws_toEvent
theorem cx_laws_toEventS : (CX X_laws_toEventS 59 G_laws_toEvent false) := cxI rfl rfl
def S_laws_toEventS : ByV := ⟨none, false, semF X_laws_toEventS F_laws_toEventS none false⟩
def G_laws_toEventS : CK := .byv S_laws_toEventS
theorem sg_laws_toEventS (args : List AV) : S_laws_toEventS.sem args = semF X_laws_toEventS F_laws_toEventS none false args := rfl
theorem cl_laws_toEventS (args hp) : callS G_laws_toEventS args hp = byvS S_laws_toEventS args hp := callS_byv rfl rfl args hp
theorem ok_laws_toEventS : InlOk Tryz.prog 22 (callS G_laws_toEventS) := byv_none co_laws_toEventS Tryz.func22 r_laws_toEventS rfl (fun _ _ h => h)
def F_laws_toMachine : RF := ⟨32, 1, [.cell 2 12 true],
  .seq (.reg [o 1 (.box (.t 0)), o 2 (.new [(.nil 1), (.nil 1), (.int .i64 0), (.nil 1), (.nil 3), (.nil 3), (.nil 1), (.nil 3), (.nil 1), (.nil 1), (.nil 3), (.bool false)])]) (.seq (.reg [o 3 (.new [(.nil 1), (.nil 1), (.int .i64 0), (.nil 1), (.nil 3), (.nil 3), (.nil 1), (.nil 3), (.nil 1), (.nil 1), (.nil 3), (.bool false)])]) (.seq (.reg [o 4 (.fa 0 (.t 1)), o 5 (.ld 3 true (.t 4)), o 6 (.call 18 [(.t 5)]), o 7 (.fa 0 (.t 3)), ⟨none, none, .st 3 (.t 7) (.t 6)⟩]) (.seq (.reg [o 8 (.fa 3 (.t 1)), o 9 (.ld 1 false (.t 8)), o 10 (.call 19 [(.t 9)]), o 11 (.fa 3 (.t 3)), ⟨none, none, .st 1 (.t 11) (.t 10)⟩]) (.seq (.reg [o 12 (.fa 4 (.t 1)), o 13 (.ld 1 false (.t 12)), o 14 (.call 20 [(.t 13)]), o 15 (.fa 4 (.t 3)), ⟨none, none, .st 1 (.t 15) (.t 14)⟩]) (.seq (.reg [o 16 (.fa 5 (.t 1)), o 17 (.ld 4 true (.t 16)), o 18 (.call 21 [(.t 17)]), o 19 (.fa 5 (.t 3)), ⟨none, none, .st 4 (.t 19) (.t 18)⟩]) (.seq (.reg [o 20 (.fa 9 (.t 1)), o 21 (.ld 1 false (.t 20)), o 22 (.call 19 [(.t 21)]), o 23 (.fa 9 (.t 3)), ⟨none, none, .st 1 (.t 23) (.t 22)⟩]) (.seq (.reg [o 24 (.fa 10 (.t 1)), o 25 (.ld 1 false (.t 24)), o 26 (.call 22 [(.t 25)]), o 27 (.fa 10 (.t 3)), ⟨none, none, .st 1 (.t 27) (.t 26)⟩]) (.seq (.reg [o 28 (.fa 11 (.t 1)), o 29 (.ld 1 false (.t 28)), o 30 (.fa 11 (.t 3)), ⟨none, none, .st 1 (.t 30) (.t 29)⟩]) (.seq (.reg [o 31 (.ld 12 true (.t 3)), ⟨none, none, .st 12 (.t 2) (.t 31)⟩]) (.ret))))))))))⟩
def K_laws_toMachine : Keeps := []
theorem r_laws_toMachine : resolveF Tryz.prog Tryz.f6 K_laws_toMachine = some F_laws_toMachine := by kernel_rfl
def X_laws_toMachine : Ctx := Ctx.cons 18 G_laws_toImage (Ctx.cons 19 G_laws_toIntS (Ctx.cons 20 G_laws_toCoreS (Ctx.cons 21 G_laws_toKernel (Ctx.cons 22 G_laws_toEventS (fun _ => none)))))
theorem co_laws_toMachine : CtxOk Tryz.prog X_laws_toMachine := CtxOk.cons (CtxOk.cons (CtxOk.cons (CtxOk.cons (CtxOk.cons (CtxOk.nil) ok_laws_toEventS) ok_laws_toKernel) ok_laws_toCoreS) ok_laws_toIntS) ok_laws_toImage
theorem cx_laws_toMachine : (CX X_laws_toMachine 18 G_laws_toImage false) ∧ (CX X_laws_toMachine 19 G_laws_toIntS false) ∧ (CX X_laws_toMachine 20 G_laws_toCoreS false) ∧ (CX X_laws_toMachine 21 G_laws_toKernel false) ∧ (CX X_laws_toMachine 22 G_laws_toEventS false) := ⟨cxI rfl rfl, cxI rfl rfl, cxI rfl rfl, cxI rfl rfl, cxI rfl rfl⟩
def S_laws_toMachine : ByV := ⟨none, false, semF X_laws_toMachine F_laws_toMachine none false⟩
def G_laws_toMachine : CK := .byv S_laws_toMachine
theorem sg_laws_toMachine (args : List AV) : S_laws_toMachine.sem args = semF X_laws_toMachine F_laws_toMachine none false args := rfl
theorem cl_laws_toMachine (args hp) : callS G_laws_toMachine args hp = byvS S_laws_toMachine args hp := callS_byv rfl rfl args hp
theorem ok_laws_toMachine : InlOk Tryz.prog 6 (callS G_laws_toMachine) := byv_none co_laws_toMachine Tryz.func6 r_laws_toMachine rfl (fun _ _ h => h)
def F_spec_l15Copy : RF := ⟨12, 1, [.cell 2 3 true],
  .seq (.reg [o 1 (.box (.t 0)), o 2 (.new [(.nil 1), (.int .i64 0), (.int .i64 0)])]) (.seq (.regd [(2, o 3 (.bsl 1 [])), (0, o 4 (.fa 0 (.t 1))), (2, o 5 (.ld 1 false (.t 4))), (2, o 6 (.app true 1 8 (.t 3) (.t 5))), (0, o 7 (.fa 1 (.t 1))), (2, o 8 (.ld 1 false (.t 7))), (0, o 9 (.fa 2 (.t 1))), (2, o 10 (.ld 1 false (.t 9))), (0, o 11 (.build [(.nil 1), (.int .i64 0), (.int .i64 0)] [(0, 1, (.t 6)), (1, 1, (.t 8)), (2, 1, (.t 10))])), (1, ⟨none, none, .st 3 (.t 2) (.t 11)⟩)] [(0, 2), (0, 5), (3, 5), (0, 7), (3, 7)]) (.ret))⟩
def K_spec_l15Copy : Keeps := []
theorem r_spec_l15Copy : resolveF Tryz.prog Tryz.f48 K_spec_l15Copy = some F_spec_l15Copy := by kernel_rfl
def X_spec_l15Copy : Ctx := fun _ => none
theorem co_spec_l15Copy : CtxOk Tryz.prog X_spec_l15Copy := CtxOk.nil
theorem cx_spec_l15Copy : True := trivial
def S_spec_l15Copy : ByV := ⟨none, false, semF X_spec_l15Copy F_spec_l15Copy none false⟩
def G_spec_l15Copy : CK := .byv S_spec_l15Copy
theorem sg_spec_l15Copy (args : List AV) : S_spec_l15Copy.sem args = semF X_spec_l15Copy F_spec_l15Copy none false args := rfl
theorem cl_spec_l15Copy (args hp) : callS G_spec_l15Copy args hp = byvS S_spec_l15Copy args hp := callS_byv rfl rfl args hp
theorem ok_spec_l15Copy : InlOk Tryz.prog 48 (callS G_spec_l15Copy) := byv_none co_spec_l15Copy Tryz.func48 r_spec_l15Copy rfl (fun _ _ h => h)
def F_spec_l12Copy : RF := ⟨14, 1, [.cell 2 3 true],
  .seq (.reg [o 1 (.box (.t 0)), o 2 (.new [(.int .i64 0), (.nil 1), (.nil 1)])]) (.seq (.regd [(0, o 3 (.fa 0 (.t 1))), (2, o 4 (.ld 1 false (.t 3))), (2, o 5 (.bsl 1 [])), (0, o 6 (.fa 1 (.t 1))), (2, o 7 (.ld 1 false (.t 6))), (2, o 8 (.app true 1 8 (.t 5) (.t 7))), (2, o 9 (.bsl 1 [])), (0, o 10 (.fa 2 (.t 1))), (2, o 11 (.ld 1 false (.t 10))), (2, o 12 (.app true 1 8 (.t 9) (.t 11))), (0, o 13 (.build [(.int .i64 0), (.nil 1), (.nil 1)] [(0, 1, (.t 4)), (1, 1, (.t 8)), (2, 1, (.t 12))])), (1, ⟨none, none, .st 3 (.t 2) (.t 13)⟩)] [(1, 2), (2, 4), (1, 5), (1, 6), (2, 6), (4, 6), (5, 6), (2, 8), (5, 8), (6, 8), (1, 9)]) (.ret))⟩
def K_spec_l12Copy : Keeps := []
theorem r_spec_l12Copy : resolveF Tryz.prog Tryz.f80 K_spec_l12Copy = some F_spec_l12Copy := by kernel_rfl
def X_spec_l12Copy : Ctx := fun _ => none
theorem co_spec_l12Copy : CtxOk Tryz.prog X_spec_l12Copy := CtxOk.nil
theorem cx_spec_l12Copy : True := trivial
def S_spec_l12Copy : ByV := ⟨none, false, semF X_spec_l12Copy F_spec_l12Copy none false⟩
def G_spec_l12Copy : CK := .byv S_spec_l12Copy
theorem sg_spec_l12Copy (args : List AV) : S_spec_l12Copy.sem args = semF X_spec_l12Copy F_spec_l12Copy none false args := rfl
theorem cl_spec_l12Copy (args hp) : callS G_spec_l12Copy args hp = byvS S_spec_l12Copy args hp := callS_byv rfl rfl args hp
theorem ok_spec_l12Copy : InlOk Tryz.prog 80 (callS G_spec_l12Copy) := byv_none co_spec_l12Copy Tryz.func80 r_spec_l12Copy rfl (fun _ _ h => h)
def B0_spec_l20Copy : RC :=
  .seq (.seq (.reg [o 15 (.mv (.t 4)), o 16 (.fa 0 (.t 1)), o 17 (.ld 1 false (.t 16)), o 18 (.len false (.t 17)), o 19 (.bin .lss (.t 15) (.t 18))]) (.cond (.t 19) (.skip) (.exit 0))) (.seq (.block 1 (.regd [(0, o 22 (.fa 0 (.t 3))), (2, o 23 (.ld 1 false (.t 22))), (0, o 24 (.fa 0 (.t 1))), (1, o 25 (.ld 1 false (.t 24))), (0, o 26 (.mv (.t 4))), (1, o 27 (.ia 3 (.t 25) (.t 26))), (1, o 28 (.ld 3 true (.t 27))), (2, o 29 (.call 80 [(.t 28)])), (2, o 30 (.bsl 3 [(.t 29)])), (1, o 31 (.app false 3 56 (.t 23) (.t 30))), (0, o 32 (.fa 0 (.t 3))), (1, ⟨none, none, .st 1 (.t 32) (.t 31)⟩)] [(1, 7), (1, 8)])) (.reg [o 20 (.mv (.t 4)), o 21 (.bin .add (.t 20) (.c (.int .i64 1))), o 4 (.mv (.t 21))]))
def B1_spec_l20Copy : RC :=
  .seq (.seq (.reg [o 33 (.mv (.t 5)), o 34 (.fa 2 (.t 1)), o 35 (.ld 1 false (.t 34)), o 36 (.len false (.t 35)), o 37 (.bin .lss (.t 33) (.t 36))]) (.cond (.t 37) (.skip) (.exit 2))) (.seq (.block 3 (.regd [(0, o 40 (.fa 2 (.t 3))), (2, o 41 (.ld 1 false (.t 40))), (0, o 42 (.fa 2 (.t 1))), (1, o 43 (.ld 1 false (.t 42))), (0, o 44 (.mv (.t 5))), (1, o 45 (.ia 3 (.t 43) (.t 44))), (1, o 46 (.ld 3 true (.t 45))), (2, o 47 (.call 48 [(.t 46)])), (2, o 48 (.bsl 3 [(.t 47)])), (1, o 49 (.app false 3 40 (.t 41) (.t 48))), (0, o 50 (.fa 2 (.t 3))), (1, ⟨none, none, .st 1 (.t 50) (.t 49)⟩)] [(1, 7), (1, 8)])) (.reg [o 38 (.mv (.t 5)), o 39 (.bin .add (.t 38) (.c (.int .i64 1))), o 5 (.mv (.t 39))]))
def F_spec_l20Copy : RF := ⟨52, 1, [.cell 2 4 true],
  .seq (.reg [o 1 (.box (.t 0)), o 2 (.new [(.nil 3), (.nil 1), (.nil 3), (.nil 1)])]) (.seq (.regd [(2, o 6 (.bsl 1 [])), (0, o 7 (.fa 1 (.t 1))), (2, o 8 (.ld 1 false (.t 7))), (2, o 9 (.app true 1 8 (.t 6) (.t 8))), (2, o 10 (.bsl 1 [])), (0, o 11 (.fa 3 (.t 1))), (2, o 12 (.ld 1 false (.t 11))), (2, o 13 (.app true 1 1 (.t 10) (.t 12))), (0, o 14 (.build [(.nil 3), (.nil 1), (.nil 3), (.nil 1)] [(1, 1, (.t 9)), (3, 1, (.t 13))])), (2, o 3 (.new [(.nil 3), (.nil 1), (.nil 3), (.nil 1)])), (1, ⟨none, none, .st 4 (.t 3) (.t 14)⟩)] [(0, 2), (0, 4), (2, 4), (3, 4), (0, 6), (3, 6), (4, 6), (0, 9), (2, 9), (3, 9), (4, 9), (6, 9), (7, 9)]) (.seq (.seq (.reg [o 4 (.mv (.c (.int .i64 0)))]) (.block 0 (.loop [1, 2, 3, 4] [(1, [1, 2, 3])] B0_spec_l20Copy))) (.seq (.seq (.reg [o 5 (.mv (.c (.int .i64 0)))]) (.block 2 (.loop [1, 2, 3, 5] [(3, [2, 3])] B1_spec_l20Copy))) (.seq (.reg [o 51 (.ld 4 true (.t 3)), ⟨none, none, .st 4 (.t 2) (.t 51)⟩]) (.ret)))))⟩
def K_spec_l20Copy : Keeps := [([1, 2, 3, 4], [(1, [1, 2, 3])]), ([1, 2, 3, 5], [(3, [2, 3])])]
theorem r_spec_l20Copy : resolveF Tryz.prog Tryz.f49 K_spec_l20Copy = some F_spec_l20Copy := by kernel_rfl
def X_spec_l20Copy : Ctx := Ctx.cons 80 G_spec_l12Copy (Ctx.cons 48 G_spec_l15Copy (fun _ => none))
theorem co_spec_l20Copy : CtxOk Tryz.prog X_spec_l20Copy := CtxOk.cons (CtxOk.cons (CtxOk.nil) ok_spec_l15Copy) ok_spec_l12Copy
theorem cx_spec_l20Copy : (CX X_spec_l20Copy 80 G_spec_l12Copy false) ∧ (CX X_spec_l20Copy 48 G_spec_l15Copy false) := ⟨cxI rfl rfl, cxI rfl rfl⟩
def S_spec_l20Copy : ByV := ⟨none, false, semF X_spec_l20Copy F_spec_l20Copy none false⟩
def G_spec_l20Copy : CK := .byv S_spec_l20Copy
theorem sg_spec_l20Copy (args : List AV) : S_spec_l20Copy.sem args = semF X_spec_l20Copy F_spec_l20Copy none false args := rfl
theorem cl_spec_l20Copy (args hp) : callS G_spec_l20Copy args hp = byvS S_spec_l20Copy args hp := callS_byv rfl rfl args hp
theorem ok_spec_l20Copy : InlOk Tryz.prog 49 (callS G_spec_l20Copy) := byv_none co_spec_l20Copy Tryz.func49 r_spec_l20Copy rfl (fun _ _ h => h)
def B0_spec_l21Copy : RC :=
  .seq (.seq (.reg [o 28 (.mv (.t 4)), o 29 (.fa 4 (.t 1)), o 30 (.ld 1 false (.t 29)), o 31 (.len false (.t 30)), o 32 (.bin .lss (.t 28) (.t 31))]) (.cond (.t 32) (.skip) (.exit 0))) (.seq (.block 1 (.regd [(0, o 35 (.fa 4 (.t 3))), (2, o 36 (.ld 1 false (.t 35))), (0, o 37 (.fa 4 (.t 1))), (1, o 38 (.ld 1 false (.t 37))), (0, o 39 (.mv (.t 4))), (1, o 40 (.ia 3 (.t 38) (.t 39))), (1, o 41 (.ld 3 true (.t 40))), (2, o 42 (.call 48 [(.t 41)])), (2, o 43 (.bsl 3 [(.t 42)])), (1, o 44 (.app false 3 40 (.t 36) (.t 43))), (0, o 45 (.fa 4 (.t 3))), (1, ⟨none, none, .st 1 (.t 45) (.t 44)⟩)] [(1, 7), (1, 8)])) (.reg [o 33 (.mv (.t 4)), o 34 (.bin .add (.t 33) (.c (.int .i64 1))), o 4 (.mv (.t 34))]))
def F_spec_l21Copy : RF := ⟨61, 1, [.cell 2 12 true],
  .seq (.reg [o 1 (.box (.t 0)), o 2 (.new [(.nil 1), (.nil 1), (.int .i64 0), (.nil 1), (.nil 3), (.nil 3), (.nil 1), (.nil 3), (.nil 1), (.nil 1), (.nil 3), (.bool false)])]) (.seq (.reg [o 5 (.ld 12 true (.t 1)), o 3 (.new [(.nil 1), (.nil 1), (.int .i64 0), (.nil 1), (.nil 3), (.nil 3), (.nil 1), (.nil 3), (.nil 1), (.nil 1), (.nil 3), (.bool false)]), ⟨none, none, .st 12 (.t 3) (.t 5)⟩]) (.seq (.regd [(2, o 6 (.bsl 1 [])), (0, o 7 (.fa 0 (.t 1))), (0, o 8 (.fa 0 (.t 7))), (2, o 9 (.ld 1 false (.t 8))), (2, o 10 (.app true 1 8 (.t 6) (.t 9))), (2, o 11 (.bsl 1 [])), (0, o 12 (.fa 0 (.t 1))), (0, o 13 (.fa 1 (.t 12))), (2, o 14 (.ld 1 false (.t 13))), (2, o 15 (.app true 1 8 (.t 11) (.t 14))), (0, o 16 (.fa 0 (.t 1))), (0, o 17 (.fa 2 (.t 16))), (2, o 18 (.ld 1 false (.t 17))), (0, o 19 (.build [(.nil 1), (.nil 1), (.int .i64 0)] [(0, 1, (.t 10)), (1, 1, (.t 15)), (2, 1, (.t 18))])), (0, o 20 (.fa 0 (.t 3))), (1, ⟨none, none, .st 3 (.t 20) (.t 19)⟩)] [(0, 3), (0, 5), (3, 5), (4, 5), (0, 8), (4, 8), (5, 8), (0, 12), (4, 12), (5, 12), (9, 12)]) (.seq (.reg [o 21 (.bsl 1 []), o 22 (.fa 3 (.t 1)), o 23 (.ld 1 false (.t 22)), o 24 (.app true 1 8 (.t 21) (.t 23)), o 25 (.fa 3 (.t 3)), ⟨none, none, .st 1 (.t 25) (.t 24)⟩]) (.seq (.reg [o 26 (.bsl 3 []), o 27 (.fa 4 (.t 3)), ⟨none, none, .st 1 (.t 27) (.t 26)⟩]) (.seq (.seq (.reg [o 4 (.mv (.c (.int .i64 0)))]) (.block 0 (.loop [1, 2, 3, 4] [(1, [1, 2, 3])] B0_spec_l21Copy))) (.seq (.reg [o 46 (.fa 5 (.t 1)), o 47 (.ld 4 true (.t 46)), o 48 (.call 49 [(.t 47)]), o 49 (.fa 5 (.t 3)), ⟨none, none, .st 4 (.t 49) (.t 48)⟩]) (.seq (.reg [o 50 (.bsl 1 []), o 51 (.fa 9 (.t 1)), o 52 (.ld 1 false (.t 51)), o 53 (.app true 1 8 (.t 50) (.t 52)), o 54 (.fa 9 (.t 3)), ⟨none, none, .st 1 (.t 54) (.t 53)⟩]) (.seq (.reg [o 55 (.bsl 3 []), o 56 (.fa 10 (.t 1)), o 57 (.ld 1 false (.t 56)), o 58 (.app true 3 24 (.t 55) (.t 57)), o 59 (.fa 10 (.t 3)), ⟨none, none, .st 1 (.t 59) (.t 58)⟩]) (.seq (.reg [o 60 (.ld 12 true (.t 3)), ⟨none, none, .st 12 (.t 2) (.t 60)⟩]) (.ret))))))))))⟩
def K_spec_l21Copy : Keeps := [([1, 2, 3, 4], [(1, [1, 2, 3])])]
theorem r_spec_l21Copy : resolveF Tryz.prog Tryz.f16 K_spec_l21Copy = some F_spec_l21Copy := by kernel_rfl
def X_spec_l21Copy : Ctx := Ctx.cons 48 G_spec_l15Copy (Ctx.cons 49 G_spec_l20Copy (fun _ => none))
theorem co_spec_l21Copy : CtxOk Tryz.prog X_spec_l21Copy := CtxOk.cons (CtxOk.cons (CtxOk.nil) ok_spec_l20Copy) ok_spec_l15Copy
theorem cx_spec_l21Copy : (CX X_spec_l21Copy 48 G_spec_l15Copy false) ∧ (CX X_spec_l21Copy 49 G_spec_l20Copy false) := ⟨cxI rfl rfl, cxI rfl rfl⟩
def S_spec_l21Copy : ByV := ⟨none, false, semF X_spec_l21Copy F_spec_l21Copy none false⟩
def G_spec_l21Copy : CK := .byv S_spec_l21Copy
theorem sg_spec_l21Copy (args : List AV) : S_spec_l21Copy.sem args = semF X_spec_l21Copy F_spec_l21Copy none false args := rfl
theorem cl_spec_l21Copy (args hp) : callS G_spec_l21Copy args hp = byvS S_spec_l21Copy args hp := callS_byv rfl rfl args hp
theorem ok_spec_l21Copy : InlOk Tryz.prog 16 (callS G_spec_l21Copy) := byv_none co_spec_l21Copy Tryz.func16 r_spec_l21Copy rfl (fun _ _ h => h)
def F_spec_l01In : RF := ⟨15, 3, [.t 6],
  .seq (.reg [o 6 (.mv (.c (.bool false)))]) (.seq (.reg [o 7 (.mv (.t 0)), o 8 (.mv (.t 1)), o 9 (.bin .geq (.t 7) (.t 8)), o 10 (.mv (.t 9)), ⟨some 11, some (10, true), .mv (.t 0)⟩, ⟨some 12, some (10, true), .mv (.t 2)⟩, ⟨some 13, some (10, true), .bin .leq (.t 11) (.t 12)⟩, o 14 (.pick (.t 10) (.t 13) (.c (.bool false))), o 6 (.mv (.t 14))]) (.ret))⟩
def K_spec_l01In : Keeps := []
theorem r_spec_l01In : resolveF Tryz.prog Tryz.f50 K_spec_l01In = some F_spec_l01In := by kernel_rfl
def X_spec_l01In : Ctx := fun _ => none
theorem co_spec_l01In : CtxOk Tryz.prog X_spec_l01In := CtxOk.nil
theorem cx_spec_l01In : True := trivial
def S_spec_l01In : ByV := ⟨none, false, semF X_spec_l01In F_spec_l01In none false⟩
def G_spec_l01In : CK := .byv S_spec_l01In
theorem sg_spec_l01In (args : List AV) : S_spec_l01In.sem args = semF X_spec_l01In F_spec_l01In none false args := rfl
theorem cl_spec_l01In (args hp) : callS G_spec_l01In args hp = byvS S_spec_l01In args hp := callS_byv rfl rfl args hp
theorem ok_spec_l01In : InlOk Tryz.prog 50 (callS G_spec_l01In) := byv_none co_spec_l01In Tryz.func50 r_spec_l01In rfl (fun _ _ h => h)
def F_spec_CoreNew : RF := ⟨3, 0, [.cell 0 3 true],
  .seq (.reg [o 0 (.new [(.nil 1), (.int .i64 0), (.int .i64 0)])]) (.seq (.reg [o 1 (.mk 1 [(.int .i64 0)] 8 (.c (.int .i64 8)) (.c (.int .i64 8))), o 2 (.build [(.nil 1), (.int .i64 0), (.int .i64 0)] [(0, 1, (.t 1)), (2, 1, (.c (.int .i64 (-1))))]), ⟨none, none, .st 3 (.t 0) (.t 2)⟩]) (.ret))⟩
def K_spec_CoreNew : Keeps := []
theorem r_spec_CoreNew : resolveF Tryz.prog Tryz.f81 K_spec_CoreNew = some F_spec_CoreNew := by kernel_rfl
def X_spec_CoreNew : Ctx := fun _ => none
theorem co_spec_CoreNew : CtxOk Tryz.prog X_spec_CoreNew := CtxOk.nil
theorem cx_spec_CoreNew : True := trivial
def S_spec_CoreNew : ByV := ⟨none, false, semF X_spec_CoreNew F_spec_CoreNew none false⟩
def G_spec_CoreNew : CK := .byv S_spec_CoreNew
theorem sg_spec_CoreNew (args : List AV) : S_spec_CoreNew.sem args = semF X_spec_CoreNew F_spec_CoreNew none false args := rfl
theorem cl_spec_CoreNew (args hp) : callS G_spec_CoreNew args hp = byvS S_spec_CoreNew args hp := callS_byv rfl rfl args hp
theorem ok_spec_CoreNew : InlOk Tryz.prog 81 (callS G_spec_CoreNew) := byv_none co_spec_CoreNew Tryz.func81 r_spec_CoreNew rfl (fun _ _ h => h)
def F_spec_l20Pick : RF := ⟨52, 1, [.cell 2 3 true, .t 3],
  .seq (.reg [o 2 (.new [(.nil 1), (.int .i64 0), (.int .i64 0)]), o 3 (.mv (.c (.bool false)))]) (.seq (.seq (.regd [(0, o 5 (.mv (.t 0))), (0, o 6 (.nck (.t 5))), (0, o 7 (.fa 1 (.t 6))), (1, o 8 (.ld 1 false (.t 7))), (0, o 9 (.len false (.t 8))), (0, o 10 (.bin .eql (.t 9) (.c (.int .i64 0)))), (0, o 11 (.mv (.t 10))), (0, ⟨some 12, some (11, false), .mv (.t 0)⟩), (0, ⟨some 13, some (11, false), .nck (.t 12)⟩), (0, ⟨some 14, some (11, false), .fa 1 (.t 13)⟩), (1, ⟨some 15, some (11, false), .ld 1 false (.t 14)⟩), (1, ⟨some 16, some (11, false), .ia 1 (.t 15) (.c (.int .i64 0))⟩), (1, ⟨some 17, some (11, false), .ld 1 false (.t 16)⟩), (0, ⟨some 18, some (11, false), .mv (.t 0)⟩), (0, ⟨some 19, some (11, false), .nck (.t 18)⟩), (0, ⟨some 20, some (11, false), .fa 2 (.t 19)⟩), (1, ⟨some 21, some (11, false), .ld 1 false (.t 20)⟩), (0, ⟨some 22, some (11, false), .len false (.t 21)⟩), (0, ⟨some 23, some (11, false), .bin .sub (.t 22) (.c (.int .i64 1))⟩), (1, ⟨some 24, some (11, false), .call 50 [(.t 17), (.c (.int .i64 0)), (.t 23)]⟩), (0, ⟨some 25, some (11, false), .un .not (.t 24)⟩), (0, o 26 (.pick (.t 11) (.c (.bool true)) (.t 25)))] []) (.cond (.t 26) (.seq (.reg [o 27 (.call 81 []), ⟨none, none, .st 3 (.t 2) (.t 27)⟩, o 3 (.mv (.c (.bool false)))]) (.ret)) (.skip))) (.seq (.regd [(0, o 28 (.mv (.t 0))), (0, o 29 (.nck (.t 28))), (0, o 30 (.fa 2 (.t 29))), (2, o 31 (.ld 1 false (.t 30))), (0, o 32 (.mv (.t 0))), (0, o 33 (.nck (.t 32))), (0, o 34 (.fa 1 (.t 33))), (2, o 35 (.ld 1 false (.t 34))), (2, o 36 (.ia 1 (.t 35) (.c (.int .i64 0)))), (2, o 37 (.ld 1 false (.t 36))), (2, o 38 (.ia 3 (.t 31) (.t 37))), (2, o 39 (.ld 3 true (.t 38))), (2, o 40 (.call 48 [(.t 39)])), (2, o 4 (.new [(.nil 1), (.int .i64 0), (.int .i64 0)])), (1, ⟨none, none, .st 3 (.t 4) (.t 40)⟩)] [(3, 13), (7, 13), (8, 13), (9, 13), (10, 13), (11, 13), (12, 13)]) (.seq (.reg [o 41 (.mv (.t 0)), o 42 (.bsl 1 []), o 43 (.mv (.t 0)), o 44 (.nck (.t 43)), o 45 (.fa 1 (.t 44)), o 46 (.ld 1 false (.t 45)), o 47 (.slc false 1 (.t 46) (some (.c (.int .i64 1))) none), o 48 (.app true 1 8 (.t 42) (.t 47)), o 49 (.nck (.t 41)), o 50 (.fa 1 (.t 49)), ⟨none, none, .st 1 (.t 50) (.t 48)⟩]) (.seq (.reg [o 51 (.ld 3 true (.t 4)), ⟨none, none, .st 3 (.t 2) (.t 51)⟩, o 3 (.mv (.c (.bool true)))]) (.ret)))))⟩
def K_spec_l20Pick : Keeps := []
theorem r_spec_l20Pick : resolveF Tryz.prog Tryz.f51 K_spec_l20Pick = some F_spec_l20Pick := by kernel_rfl
def X_spec_l20Pick : Ctx := Ctx.cons 50 G_spec_l01In (Ctx.cons 81 G_spec_CoreNew (Ctx.cons 48 G_spec_l15Copy (fun _ => none)))
theorem co_spec_l20Pick : CtxOk Tryz.prog X_spec_l20Pick := CtxOk.cons (CtxOk.cons (CtxOk.cons (CtxOk.nil) ok_spec_l15Copy) ok_spec_CoreNew) ok_spec_l01In
theorem cx_spec_l20Pick : (CX X_spec_l20Pick 50 G_spec_l01In false) ∧ (CX X_spec_l20Pick 81 G_spec_CoreNew false) ∧ (CX X_spec_l20Pick 48 G_spec_l15Copy false) := ⟨cxI rfl rfl, cxI rfl rfl, cxI rfl rfl⟩
def G_spec_l20Pick : CK := .inl (runF X_spec_l20Pick F_spec_l20Pick)
theorem cl_spec_l20Pick (args hp) : callS G_spec_l20Pick args hp = runF X_spec_l20Pick F_spec_l20Pick args hp := rfl
theorem ok_spec_l20Pick : InlOk Tryz.prog 51 (callS G_spec_l20Pick) := runF_ok co_spec_l20Pick Tryz.func51 r_spec_l20Pick
def F_spec_ValOk : RF := ⟨5, 1, [.t 2],
  .seq (.reg [o 2 (.mv (.c (.bool false)))]) (.seq (.reg [o 3 (.mv (.t 0)), o 4 (.call 50 [(.t 3), (.c (.int .i64 (-1000000))), (.c (.int .i64 1000000))]), o 2 (.mv (.t 4))]) (.ret))⟩
def K_spec_ValOk : Keeps := []
theorem r_spec_ValOk : resolveF Tryz.prog Tryz.f101 K_spec_ValOk = some F_spec_ValOk := by kernel_rfl
def X_spec_ValOk : Ctx := Ctx.cons 50 G_spec_l01In (fun _ => none)
theorem co_spec_ValOk : CtxOk Tryz.prog X_spec_ValOk := CtxOk.cons (CtxOk.nil) ok_spec_l01In
theorem cx_spec_ValOk : (CX X_spec_ValOk 50 G_spec_l01In false) := cxI rfl rfl
def S_spec_ValOk : ByV := ⟨none, false, semF X_spec_ValOk F_spec_ValOk none false⟩
def G_spec_ValOk : CK := .byv S_spec_ValOk
theorem sg_spec_ValOk (args : List AV) : S_spec_ValOk.sem args = semF X_spec_ValOk F_spec_ValOk none false args := rfl
theorem cl_spec_ValOk (args hp) : callS G_spec_ValOk args hp = byvS S_spec_ValOk args hp := callS_byv rfl rfl args hp
theorem ok_spec_ValOk : InlOk Tryz.prog 101 (callS G_spec_ValOk) := byv_none co_spec_ValOk Tryz.func101 r_spec_ValOk rfl (fun _ _ h => h)
def B0_spec_CoreOk : RC :=
  .seq (.seq (.reg [o 4 (.mv (.t 3)), o 5 (.fa 0 (.t 1)), o 6 (.ld 1 false (.t 5)), o 7 (.len false (.t 6)), o 8 (.bin .lss (.t 4) (.t 7))]) (.cond (.t 8) (.skip) (.exit 0))) (.seq (.block 1 (.seq (.reg [o 11 (.fa 0 (.t 1)), o 12 (.ld 1 false (.t 11)), o 13 (.mv (.t 3)), o 14 (.ia 1 (.t 12) (.t 13)), o 15 (.ld 1 false (.t 14)), o 16 (.call 101 [(.t 15)]), o 17 (.un .not (.t 16))]) (.cond (.t 17) (.seq (.reg [o 2 (.mv (.c (.bool false)))]) (.ret)) (.skip)))) (.reg [o 9 (.mv (.t 3)), o 10 (.bin .add (.t 9) (.c (.int .i64 1))), o 3 (.mv (.t 10))]))
def F_spec_CoreOk : RF := ⟨32, 1, [.t 2],
  .seq (.reg [o 1 (.box (.t 0)), o 2 (.mv (.c (.bool false)))]) (.seq (.seq (.reg [o 3 (.mv (.c (.int .i64 0)))]) (.block 0 (.loop [1, 3] [(1, [1]), (0, [2])] B0_spec_CoreOk))) (.seq (.reg [o 18 (.fa 0 (.t 1)), o 19 (.ld 1 false (.t 18)), o 20 (.len false (.t 19)), o 21 (.bin .eql (.t 20) (.c (.int .i64 8))), o 22 (.mv (.t 21)), ⟨some 23, some (22, true), .fa 1 (.t 1)⟩, ⟨some 24, some (22, true), .ld 1 false (.t 23)⟩, ⟨some 25, some (22, true), .bin .geq (.t 24) (.c (.int .i64 0))⟩, o 26 (.pick (.t 22) (.t 25) (.c (.bool false))), o 27 (.mv (.t 26)), ⟨some 28, some (27, true), .fa 2 (.t 1)⟩, ⟨some 29, some (27, true), .ld 1 false (.t 28)⟩, ⟨some 30, some (27, true), .call 50 [(.t 29), (.c (.int .i64 (-1))), (.c (.int .i64 3))]⟩, o 31 (.pick (.t 27) (.t 30) (.c (.bool false))), o 2 (.mv (.t 31))]) (.ret)))⟩
def K_spec_CoreOk : Keeps := [([1, 3], [(1, [1]), (0, [2])])]
theorem r_spec_CoreOk : resolveF Tryz.prog Tryz.f82 K_spec_CoreOk = some F_spec_CoreOk := by kernel_rfl
def X_spec_CoreOk : Ctx := Ctx.cons 101 G_spec_ValOk (Ctx.cons 50 G_spec_l01In (fun _ => none))
theorem co_spec_CoreOk : CtxOk Tryz.prog X_spec_CoreOk := CtxOk.cons (CtxOk.cons (CtxOk.nil) ok_spec_l01In) ok_spec_ValOk
theorem cx_spec_CoreOk : (CX X_spec_CoreOk 101 G_spec_ValOk false) ∧ (CX X_spec_CoreOk 50 G_spec_l01In false) := ⟨cxI rfl rfl, cxI rfl rfl⟩
def S_spec_CoreOk : ByV := ⟨none, false, semF X_spec_CoreOk F_spec_CoreOk none false⟩
def G_spec_CoreOk : CK := .byv S_spec_CoreOk
theorem sg_spec_CoreOk (args : List AV) : S_spec_CoreOk.sem args = semF X_spec_CoreOk F_spec_CoreOk none false args := rfl
theorem cl_spec_CoreOk (args hp) : callS G_spec_CoreOk args hp = byvS S_spec_CoreOk args hp := callS_byv rfl rfl args hp
theorem ok_spec_CoreOk : InlOk Tryz.prog 82 (callS G_spec_CoreOk) := byv_none co_spec_CoreOk Tryz.func82 r_spec_CoreOk rfl (fun _ _ h => h)
def F_spec_InsOk : RF := ⟨71, 1, [.t 2],
  .seq (.reg [o 1 (.box (.t 0)), o 2 (.mv (.c (.bool false)))]) (.seq (.seq (.reg [o 3 (.fa 0 (.t 1)), o 4 (.ld 1 false (.t 3)), o 5 (.call 50 [(.t 4), (.c (.int .i64 1)), (.c (.int .i64 10))]), o 6 (.un .not (.t 5)), o 7 (.mv (.t 6)), ⟨some 8, some (7, false), .fa 1 (.t 1)⟩, ⟨some 9, some (7, false), .ld 1 false (.t 8)⟩, ⟨some 10, some (7, false), .call 50 [(.t 9), (.c (.int .i64 0)), (.c (.int .i64 7))]⟩, ⟨some 11, some (7, false), .un .not (.t 10)⟩, o 12 (.pick (.t 7) (.c (.bool true)) (.t 11)), o 13 (.mv (.t 12)), ⟨some 14, some (13, false), .fa 2 (.t 1)⟩, ⟨some 15, some (13, false), .ld 1 false (.t 14)⟩, ⟨some 16, some (13, false), .call 50 [(.t 15), (.c (.int .i64 0)), (.c (.int .i64 7))]⟩, ⟨some 17, some (13, false), .un .not (.t 16)⟩, o 18 (.pick (.t 13) (.c (.bool true)) (.t 17)), o 19 (.mv (.t 18)), ⟨some 20, some (19, false), .fa 3 (.t 1)⟩, ⟨some 21, some (19, false), .ld 1 false (.t 20)⟩, ⟨some 22, some (19, false), .call 50 [(.t 21), (.c (.int .i64 0)), (.c (.int .i64 4194303))]⟩, ⟨some 23, some (19, false), .un .not (.t 22)⟩, o 24 (.pick (.t 19) (.c (.bool true)) (.t 23))]) (.cond (.t 24) (.seq (.reg [o 2 (.mv (.c (.bool false)))]) (.ret)) (.skip))) (.seq (.seq (.reg [o 25 (.fa 0 (.t 1)), o 26 (.ld 1 false (.t 25)), o 27 (.bin .neq (.t 26) (.c (.int .i64 4))), o 28 (.mv (.t 27)), ⟨some 29, some (28, true), .fa 0 (.t 1)⟩, ⟨some 30, some (28, true), .ld 1 false (.t 29)⟩, ⟨some 31, some (28, true), .bin .neq (.t 30) (.c (.int .i64 10))⟩, o 32 (.pick (.t 28) (.t 31) (.c (.bool false))), o 33 (.mv (.t 32)), ⟨some 34, some (33, true), .fa 2 (.t 1)⟩, ⟨some 35, some (33, true), .ld 1 false (.t 34)⟩, ⟨some 36, some (33, true), .bin .neq (.t 35) (.c (.int .i64 0))⟩, o 37 (.pick (.t 33) (.t 36) (.c (.bool false)))]) (.cond (.t 37) (.seq (.reg [o 2 (.mv (.c (.bool false)))]) (.ret)) (.skip))) (.seq (.seq (.reg [o 38 (.fa 0 (.t 1)), o 39 (.ld 1 false (.t 38))]) (.block 0 (.seq (.reg [o 41 (.bin .eql (.t 39) (.c (.int .i64 1))), o 40 (.mv (.t 41))]) (.cond (.t 40) (.seq (.reg [o 42 (.fa 3 (.t 1)), o 43 (.ld 1 false (.t 42)), o 44 (.bin .leq (.t 43) (.c (.int .i64 1000000))), o 2 (.mv (.t 44))]) (.ret)) (.seq (.reg [o 46 (.bin .eql (.t 39) (.c (.int .i64 4))), o 45 (.mv (.t 46))]) (.cond (.t 45) (.seq (.reg [o 47 (.fa 3 (.t 1)), o 48 (.ld 1 false (.t 47)), o 49 (.call 50 [(.t 48), (.c (.int .i64 1)), (.c (.int .i64 9))]), o 2 (.mv (.t 49))]) (.ret)) (.seq (.seq (.reg [o 51 (.bin .eql (.t 39) (.c (.int .i64 5))), o 50 (.mv (.t 51))]) (.cond (.t 50) (.skip) (.reg [o 52 (.bin .eql (.t 39) (.c (.int .i64 6))), o 50 (.mv (.t 52))]))) (.cond (.t 50) (.seq (.reg [o 53 (.fa 3 (.t 1)), o 54 (.ld 1 false (.t 53)), o 55 (.bin .eql (.t 54) (.c (.int .i64 0))), o 2 (.mv (.t 55))]) (.ret)) (.seq (.reg [o 57 (.bin .eql (.t 39) (.c (.int .i64 8))), o 56 (.mv (.t 57))]) (.cond (.t 56) (.seq (.reg [o 58 (.fa 1 (.t 1)), o 59 (.ld 1 false (.t 58)), o 60 (.bin .eql (.t 59) (.c (.int .i64 0))), o 2 (.mv (.t 60))]) (.ret)) (.seq (.reg [o 62 (.bin .eql (.t 39) (.c (.int .i64 10))), o 61 (.mv (.t 62))]) (.cond (.t 61) (.seq (.reg [o 63 (.fa 1 (.t 1)), o 64 (.ld 1 false (.t 63)), o 65 (.call 50 [(.t 64), (.c (.int .i64 1)), (.c (.int .i64 7))]), o 66 (.mv (.t 65)), ⟨some 67, some (66, true), .fa 2 (.t 1)⟩, ⟨some 68, some (66, true), .ld 1 false (.t 67)⟩, ⟨some 69, some (66, true), .bin .eql (.t 68) (.c (.int .i64 0))⟩, o 70 (.pick (.t 66) (.t 69) (.c (.bool false))), o 2 (.mv (.t 70))]) (.ret)) (.skip))))))))))))) (.seq (.reg [o 2 (.mv (.c (.bool true)))]) (.ret)))))⟩
def K_spec_InsOk : Keeps := []
theorem r_spec_InsOk : resolveF Tryz.prog Tryz.f85 K_spec_InsOk = some F_spec_InsOk := by kernel_rfl
def X_spec_InsOk : Ctx := Ctx.cons 50 G_spec_l01In (fun _ => none)
theorem co_spec_InsOk : CtxOk Tryz.prog X_spec_InsOk := CtxOk.cons (CtxOk.nil) ok_spec_l01In
theorem cx_spec_InsOk : (CX X_spec_InsOk 50 G_spec_l01In false) := cxI rfl rfl
def S_spec_InsOk : ByV := ⟨none, false, semF X_spec_InsOk F_spec_InsOk none false⟩
def G_spec_InsOk : CK := .byv S_spec_InsOk
theorem sg_spec_InsOk (args : List AV) : S_spec_InsOk.sem args = semF X_spec_InsOk F_spec_InsOk none false args := rfl
theorem cl_spec_InsOk (args hp) : callS G_spec_InsOk args hp = byvS S_spec_InsOk args hp := callS_byv rfl rfl args hp
theorem ok_spec_InsOk : InlOk Tryz.prog 85 (callS G_spec_InsOk) := byv_none co_spec_InsOk Tryz.func85 r_spec_InsOk rfl (fun _ _ h => h)
def F_spec_Decode : RF := ⟨25, 1, [.cell 2 4 true, .t 3],
  .seq (.reg [o 2 (.new [(.int .i64 0), (.int .i64 0), (.int .i64 0), (.int .i64 0)]), o 3 (.mv (.c (.bool false)))]) (.seq (.seq (.reg [o 5 (.mv (.t 0)), o 6 (.call 50 [(.t 5), (.c (.int .i64 0)), (.c (.int .i64 8589934592))]), o 7 (.un .not (.t 6))]) (.cond (.t 7) (.seq (.reg [o 8 (.build [(.int .i64 0), (.int .i64 0), (.int .i64 0), (.int .i64 0)] []), ⟨none, none, .st 4 (.t 2) (.t 8)⟩, o 3 (.mv (.c (.bool false)))]) (.ret)) (.skip))) (.seq (.reg [o 9 (.mv (.t 0)), o 10 (.bin .shr (.t 9) (.c (.int .u64 28))), o 11 (.mv (.t 0)), o 12 (.bin .shr (.t 11) (.c (.int .u64 25))), o 13 (.bin .and (.t 12) (.c (.int .i64 7))), o 14 (.mv (.t 0)), o 15 (.bin .shr (.t 14) (.c (.int .u64 22))), o 16 (.bin .and (.t 15) (.c (.int .i64 7))), o 17 (.mv (.t 0)), o 18 (.bin .and (.t 17) (.c (.int .i64 4194303))), o 19 (.build [(.int .i64 0), (.int .i64 0), (.int .i64 0), (.int .i64 0)] [(0, 1, (.t 10)), (1, 1, (.t 13)), (2, 1, (.t 16)), (3, 1, (.t 18))]), o 4 (.new [(.int .i64 0), (.int .i64 0), (.int .i64 0), (.int .i64 0)]), ⟨none, none, .st 4 (.t 4) (.t 19)⟩]) (.seq (.seq (.reg [o 20 (.ld 4 true (.t 4)), o 21 (.call 85 [(.t 20)]), o 22 (.un .not (.t 21))]) (.cond (.t 22) (.seq (.reg [o 23 (.build [(.int .i64 0), (.int .i64 0), (.int .i64 0), (.int .i64 0)] []), ⟨none, none, .st 4 (.t 2) (.t 23)⟩, o 3 (.mv (.c (.bool false)))]) (.ret)) (.skip))) (.seq (.reg [o 24 (.ld 4 true (.t 4)), ⟨none, none, .st 4 (.t 2) (.t 24)⟩, o 3 (.mv (.c (.bool true)))]) (.ret)))))⟩
def K_spec_Decode : Keeps := []
theorem r_spec_Decode : resolveF Tryz.prog Tryz.f53 K_spec_Decode = some F_spec_Decode := by kernel_rfl
def X_spec_Decode : Ctx := Ctx.cons 50 G_spec_l01In (Ctx.cons 85 G_spec_InsOk (fun _ => none))
theorem co_spec_Decode : CtxOk Tryz.prog X_spec_Decode := CtxOk.cons (CtxOk.cons (CtxOk.nil) ok_spec_InsOk) ok_spec_l01In
theorem cx_spec_Decode : (CX X_spec_Decode 50 G_spec_l01In false) ∧ (CX X_spec_Decode 85 G_spec_InsOk false) := ⟨cxI rfl rfl, cxI rfl rfl⟩
def S_spec_Decode : ByV := ⟨none, false, semF X_spec_Decode F_spec_Decode none false⟩
def G_spec_Decode : CK := .byv S_spec_Decode
theorem sg_spec_Decode (args : List AV) : S_spec_Decode.sem args = semF X_spec_Decode F_spec_Decode none false args := rfl
theorem cl_spec_Decode (args hp) : callS G_spec_Decode args hp = byvS S_spec_Decode args hp := callS_byv rfl rfl args hp
theorem ok_spec_Decode : InlOk Tryz.prog 53 (callS G_spec_Decode) := byv_none co_spec_Decode Tryz.func53 r_spec_Decode rfl (fun _ _ h => h)
def F_spec_l15Mem : RF := ⟨63, 3, [.t 6],
  .seq (.reg [o 4 (.box (.t 1)), o 6 (.mv (.c (.int .i64 0)))]) (.seq (.seq (.reg [o 7 (.fa 3 (.t 4)), o 8 (.ld 1 false (.t 7)), o 9 (.mv (.t 2)), o 10 (.len false (.t 9)), o 11 (.bin .sub (.t 10) (.c (.int .i64 1))), o 12 (.call 50 [(.t 8), (.c (.int .i64 0)), (.t 11)]), o 13 (.un .not (.t 12))]) (.cond (.t 13) (.seq (.reg [o 6 (.mv (.c (.int .i64 4)))]) (.ret)) (.skip))) (.seq (.seq (.reg [o 14 (.fa 0 (.t 4)), o 15 (.ld 1 false (.t 14))]) (.block 0 (.seq (.reg [o 43 (.bin .eql (.t 15) (.c (.int .i64 3))), o 42 (.mv (.t 43))]) (.cond (.t 42) (.regd [(0, o 44 (.mv (.t 2))), (0, o 45 (.fa 3 (.t 4))), (1, o 46 (.ld 1 false (.t 45))), (0, o 47 (.mv (.t 0))), (0, o 48 (.nck (.t 47))), (0, o 49 (.fa 0 (.t 48))), (1, o 50 (.ld 1 false (.t 49))), (0, o 51 (.fa 1 (.t 4))), (1, o 52 (.ld 1 false (.t 51))), (1, o 53 (.ia 1 (.t 50) (.t 52))), (1, o 54 (.ld 1 false (.t 53))), (1, o 55 (.ia 1 (.t 44) (.t 46))), (1, ⟨none, none, .st 1 (.t 55) (.t 54)⟩)] []) (.seq (.seq (.reg [o 16 (.mv (.t 2)), o 17 (.fa 3 (.t 4)), o 18 (.ld 1 false (.t 17)), o 19 (.ia 1 (.t 16) (.t 18)), o 20 (.ld 1 false (.t 19)), o 21 (.call 101 [(.t 20)]), o 22 (.un .not (.t 21))]) (.cond (.t 22) (.seq (.reg [o 6 (.mv (.c (.int .i64 4)))]) (.ret)) (.skip))) (.seq (.regd [(0, o 23 (.mv (.t 0))), (0, o 24 (.nck (.t 23))), (0, o 25 (.fa 0 (.t 24))), (1, o 26 (.ld 1 false (.t 25))), (0, o 27 (.fa 1 (.t 4))), (1, o 28 (.ld 1 false (.t 27))), (0, o 29 (.mv (.t 2))), (0, o 30 (.fa 3 (.t 4))), (1, o 31 (.ld 1 false (.t 30))), (1, o 32 (.ia 1 (.t 29) (.t 31))), (1, o 33 (.ld 1 false (.t 32))), (1, o 34 (.ia 1 (.t 26) (.t 28))), (1, ⟨none, none, .st 1 (.t 34) (.t 33)⟩)] []) (.seq (.reg [o 35 (.fa 0 (.t 4)), o 36 (.ld 1 false (.t 35)), o 37 (.bin .eql (.t 36) (.c (.int .i64 9)))]) (.cond (.t 37) (.reg [o 38 (.mv (.t 2)), o 39 (.fa 3 (.t 4)), o 40 (.ld 1 false (.t 39)), o 41 (.ia 1 (.t 38) (.t 40)), ⟨none, none, .st 1 (.t 41) (.c (.int .i64 1))⟩]) (.skip))))))))) (.seq (.reg [o 56 (.mv (.t 0)), o 57 (.nck (.t 56)), o 58 (.fa 1 (.t 57)), o 59 (.ld 1 false (.t 58)), o 60 (.bin .add (.t 59) (.c (.int .i64 1))), o 61 (.nck (.t 56)), o 62 (.fa 1 (.t 61)), ⟨none, none, .st 1 (.t 62) (.t 60)⟩]) (.seq (.reg [o 6 (.mv (.c (.int .i64 0)))]) (.ret)))))⟩
def K_spec_l15Mem : Keeps := []
theorem r_spec_l15Mem : resolveF Tryz.prog Tryz.f83 K_spec_l15Mem = some F_spec_l15Mem := by kernel_rfl
def X_spec_l15Mem : Ctx := Ctx.cons 50 G_spec_l01In (Ctx.cons 101 G_spec_ValOk (fun _ => none))
theorem co_spec_l15Mem : CtxOk Tryz.prog X_spec_l15Mem := CtxOk.cons (CtxOk.cons (CtxOk.nil) ok_spec_ValOk) ok_spec_l01In
theorem cx_spec_l15Mem : (CX X_spec_l15Mem 50 G_spec_l01In false) ∧ (CX X_spec_l15Mem 101 G_spec_ValOk false) := ⟨cxI rfl rfl, cxI rfl rfl⟩
def G_spec_l15Mem : CK := .inl (runF X_spec_l15Mem F_spec_l15Mem)
theorem cl_spec_l15Mem (args hp) : callS G_spec_l15Mem args hp = runF X_spec_l15Mem F_spec_l15Mem args hp := rfl
theorem ok_spec_l15Mem : InlOk Tryz.prog 83 (callS G_spec_l15Mem) := runF_ok co_spec_l15Mem Tryz.func83 r_spec_l15Mem
def F_spec_l03Bit : RF := ⟨4, 1, [.t 2],
  .seq (.reg [o 2 (.mv (.c (.int .i64 0)))]) (.seq (.seq (.reg [o 3 (.mv (.t 0))]) (.cond (.t 3) (.seq (.reg [o 2 (.mv (.c (.int .i64 1)))]) (.ret)) (.skip))) (.seq (.reg [o 2 (.mv (.c (.int .i64 0)))]) (.ret)))⟩
def K_spec_l03Bit : Keeps := []
theorem r_spec_l03Bit : resolveF Tryz.prog Tryz.f116 K_spec_l03Bit = some F_spec_l03Bit := by kernel_rfl
def X_spec_l03Bit : Ctx := fun _ => none
theorem co_spec_l03Bit : CtxOk Tryz.prog X_spec_l03Bit := CtxOk.nil
theorem cx_spec_l03Bit : True := trivial
def S_spec_l03Bit : ByV := ⟨none, false, semF X_spec_l03Bit F_spec_l03Bit none false⟩
def G_spec_l03Bit : CK := .byv S_spec_l03Bit
theorem sg_spec_l03Bit (args : List AV) : S_spec_l03Bit.sem args = semF X_spec_l03Bit F_spec_l03Bit none false args := rfl
theorem cl_spec_l03Bit (args hp) : callS G_spec_l03Bit args hp = byvS S_spec_l03Bit args hp := callS_byv rfl rfl args hp
theorem ok_spec_l03Bit : InlOk Tryz.prog 116 (callS G_spec_l03Bit) := byv_none co_spec_l03Bit Tryz.func116 r_spec_l03Bit rfl (fun _ _ h => h)
def F_spec_Calc : RF := ⟨85, 3, [.t 6, .t 7],
  .seq (.reg [o 6 (.mv (.c (.int .i64 0))), o 7 (.mv (.c (.int .i64 0)))]) (.seq (.seq (.reg [o 9 (.mv (.t 1)), o 10 (.call 101 [(.t 9)]), o 11 (.un .not (.t 10)), o 12 (.mv (.t 11)), ⟨some 13, some (12, false), .mv (.t 2)⟩, ⟨some 14, some (12, false), .call 101 [(.t 13)]⟩, ⟨some 15, some (12, false), .un .not (.t 14)⟩, o 16 (.pick (.t 12) (.c (.bool true)) (.t 15)), o 17 (.mv (.t 16)), ⟨some 18, some (17, false), .mv (.t 0)⟩, ⟨some 19, some (17, false), .call 50 [(.t 18), (.c (.int .i64 1)), (.c (.int .i64 9))]⟩, ⟨some 20, some (17, false), .un .not (.t 19)⟩, o 21 (.pick (.t 17) (.c (.bool true)) (.t 20))]) (.cond (.t 21) (.seq (.reg [o 6 (.mv (.c (.int .i64 0))), o 7 (.mv (.c (.int .i64 1)))]) (.ret)) (.skip))) (.seq (.reg [o 8 (.mv (.c (.int .i64 0)))]) (.seq (.seq (.reg [o 22 (.mv (.t 0))]) (.block 0 (.seq (.reg [o 24 (.bin .eql (.t 22) (.c (.int .i64 1))), o 23 (.mv (.t 24))]) (.cond (.t 23) (.reg [o 25 (.mv (.t 1)), o 26 (.mv (.t 2)), o 27 (.bin .add (.t 25) (.t 26)), o 8 (.mv (.t 27))]) (.seq (.reg [o 29 (.bin .eql (.t 22) (.c (.int .i64 2))), o 28 (.mv (.t 29))]) (.cond (.t 28) (.reg [o 30 (.mv (.t 1)), o 31 (.mv (.t 2)), o 32 (.bin .sub (.t 30) (.t 31)), o 8 (.mv (.t 32))]) (.seq (.reg [o 34 (.bin .eql (.t 22) (.c (.int .i64 3))), o 33 (.mv (.t 34))]) (.cond (.t 33) (.reg [o 35 (.mv (.t 1)), o 36 (.mv (.t 2)), o 37 (.bin .mul (.t 35) (.t 36)), o 8 (.mv (.t 37))]) (.seq (.seq (.reg [o 39 (.bin .eql (.t 22) (.c (.int .i64 4))), o 38 (.mv (.t 39))]) (.cond (.t 38) (.skip) (.reg [o 40 (.bin .eql (.t 22) (.c (.int .i64 5))), o 38 (.mv (.t 40))]))) (.cond (.t 38) (.seq (.seq (.reg [o 41 (.mv (.t 2)), o 42 (.bin .eql (.t 41) (.c (.int .i64 0)))]) (.cond (.t 42) (.seq (.reg [o 6 (.mv (.c (.int .i64 0))), o 7 (.mv (.c (.int .i64 2)))]) (.ret)) (.skip))) (.seq (.reg [o 43 (.mv (.t 1)), o 44 (.mv (.t 2)), o 45 (.bin .quo (.t 43) (.t 44)), o 8 (.mv (.t 45))]) (.seq (.reg [o 46 (.mv (.t 0)), o 47 (.bin .eql (.t 46) (.c (.int .i64 5)))]) (.cond (.t 47) (.reg [o 48 (.mv (.t 1)), o 49 (.mv (.t 2)), o 50 (.bin .rem (.t 48) (.t 49)), o 8 (.mv (.t 50))]) (.skip))))) (.seq (.reg [o 52 (.bin .eql (.t 22) (.c (.int .i64 6))), o 51 (.mv (.t 52))]) (.cond (.t 51) (.reg [o 53 (.mv (.t 1)), o 54 (.mv (.t 2)), o 55 (.bin .lss (.t 53) (.t 54)), o 56 (.call 116 [(.t 55)]), o 8 (.mv (.t 56))]) (.seq (.reg [o 58 (.bin .eql (.t 22) (.c (.int .i64 7))), o 57 (.mv (.t 58))]) (.cond (.t 57) (.reg [o 59 (.mv (.t 1)), o 60 (.mv (.t 2)), o 61 (.bin .eql (.t 59) (.t 60)), o 62 (.call 116 [(.t 61)]), o 8 (.mv (.t 62))]) (.seq (.reg [o 64 (.bin .eql (.t 22) (.c (.int .i64 8))), o 63 (.mv (.t 64))]) (.cond (.t 63) (.reg [o 65 (.mv (.t 1)), o 66 (.bin .neq (.t 65) (.c (.int .i64 0))), o 67 (.mv (.t 66)), ⟨some 68, some (67, true), .mv (.t 2)⟩, ⟨some 69, some (67, true), .bin .neq (.t 68) (.c (.int .i64 0))⟩, o 70 (.pick (.t 67) (.t 69) (.c (.bool false))), o 71 (.call 116 [(.t 70)]), o 8 (.mv (.t 71))]) (.seq (.reg [o 73 (.bin .eql (.t 22) (.c (.int .i64 9))), o 72 (.mv (.t 73))]) (.cond (.t 72) (.reg [o 74 (.mv (.t 1)), o 75 (.bin .neq (.t 74) (.c (.int .i64 0))), o 76 (.mv (.t 75)), ⟨some 77, some (76, false), .mv (.t 2)⟩, ⟨some 78, some (76, false), .bin .neq (.t 77) (.c (.int .i64 0))⟩, o 79 (.pick (.t 76) (.c (.bool true)) (.t 78)), o 80 (.call 116 [(.t 79)]), o 8 (.mv (.t 80))]) (.skip))))))))))))))))))) (.seq (.seq (.reg [o 81 (.mv (.t 8)), o 82 (.call 101 [(.t 81)]), o 83 (.un .not (.t 82))]) (.cond (.t 83) (.seq (.reg [o 6 (.mv (.c (.int .i64 0))), o 7 (.mv (.c (.int .i64 1)))]) (.ret)) (.skip))) (.seq (.reg [o 84 (.mv (.t 8)), o 6 (.mv (.t 84)), o 7 (.mv (.c (.int .i64 0)))]) (.ret))))))⟩
def K_spec_Calc : Keeps := []
theorem r_spec_Calc : resolveF Tryz.prog Tryz.f102 K_spec_Calc = some F_spec_Calc := by kernel_rfl
def X_spec_Calc : Ctx := Ctx.cons 101 G_spec_ValOk (Ctx.cons 50 G_spec_l01In (Ctx.cons 116 G_spec_l03Bit (fun _ => none)))
theorem co_spec_Calc : CtxOk Tryz.prog X_spec_Calc := CtxOk.cons (CtxOk.cons (CtxOk.cons (CtxOk.nil) ok_spec_l03Bit) ok_spec_l01In) ok_spec_ValOk
theorem cx_spec_Calc : (CX X_spec_Calc 101 G_spec_ValOk false) ∧ (CX X_spec_Calc 50 G_spec_l01In false) ∧ (CX X_spec_Calc 116 G_spec_l03Bit false) := ⟨cxI rfl rfl, cxI rfl rfl, cxI rfl rfl⟩
def S_spec_Calc : ByV := ⟨none, false, semF X_spec_Calc F_spec_Calc none false⟩
def G_spec_Calc : CK := .byv S_spec_Calc
theorem sg_spec_Calc (args : List AV) : S_spec_Calc.sem args = semF X_spec_Calc F_spec_Calc none false args := rfl
theorem cl_spec_Calc (args hp) : callS G_spec_Calc args hp = byvS S_spec_Calc args hp := callS_byv rfl rfl args hp
theorem ok_spec_Calc : InlOk Tryz.prog 102 (callS G_spec_Calc) := byv_none co_spec_Calc Tryz.func102 r_spec_Calc rfl (fun _ _ h => h)
def F_spec_Denied : RF := ⟨6, 1, [.t 2],
  .seq (.reg [o 2 (.mv (.c (.int .i64 0)))]) (.seq (.reg [o 3 (.mv (.t 0)), o 4 (.bin .eql (.t 3) (.c (.int .i64 0))), o 5 (.call 116 [(.t 4)]), o 2 (.mv (.t 5))]) (.ret))⟩
def K_spec_Denied : Keeps := []
theorem r_spec_Denied : resolveF Tryz.prog Tryz.f103 K_spec_Denied = some F_spec_Denied := by kernel_rfl
def X_spec_Denied : Ctx := Ctx.cons 116 G_spec_l03Bit (fun _ => none)
theorem co_spec_Denied : CtxOk Tryz.prog X_spec_Denied := CtxOk.cons (CtxOk.nil) ok_spec_l03Bit
theorem cx_spec_Denied : (CX X_spec_Denied 116 G_spec_l03Bit false) := cxI rfl rfl
def S_spec_Denied : ByV := ⟨none, false, semF X_spec_Denied F_spec_Denied none false⟩
def G_spec_Denied : CK := .byv S_spec_Denied
theorem sg_spec_Denied (args : List AV) : S_spec_Denied.sem args = semF X_spec_Denied F_spec_Denied none false args := rfl
theorem cl_spec_Denied (args hp) : callS G_spec_Denied args hp = byvS S_spec_Denied args hp := callS_byv rfl rfl args hp
theorem ok_spec_Denied : InlOk Tryz.prog 103 (callS G_spec_Denied) := byv_none co_spec_Denied Tryz.func103 r_spec_Denied rfl (fun _ _ h => h)
def F_spec_Negated : RF := ⟨9, 1, [.t 2, .t 3],
  .seq (.reg [o 2 (.mv (.c (.int .i64 0))), o 3 (.mv (.c (.int .i64 0)))]) (.seq (.seq (.reg [o 4 (.mv (.t 0)), o 5 (.call 101 [(.t 4)]), o 6 (.un .not (.t 5))]) (.cond (.t 6) (.seq (.reg [o 2 (.mv (.c (.int .i64 0))), o 3 (.mv (.c (.int .i64 1)))]) (.ret)) (.skip))) (.seq (.reg [o 7 (.mv (.t 0)), o 8 (.un .neg (.t 7)), o 2 (.mv (.t 8)), o 3 (.mv (.c (.int .i64 0)))]) (.ret)))⟩
def K_spec_Negated : Keeps := []
theorem r_spec_Negated : resolveF Tryz.prog Tryz.f104 K_spec_Negated = some F_spec_Negated := by kernel_rfl
def X_spec_Negated : Ctx := Ctx.cons 101 G_spec_ValOk (fun _ => none)
theorem co_spec_Negated : CtxOk Tryz.prog X_spec_Negated := CtxOk.cons (CtxOk.nil) ok_spec_ValOk
theorem cx_spec_Negated : (CX X_spec_Negated 101 G_spec_ValOk false) := cxI rfl rfl
def S_spec_Negated : ByV := ⟨none, false, semF X_spec_Negated F_spec_Negated none false⟩
def G_spec_Negated : CK := .byv S_spec_Negated
theorem sg_spec_Negated (args : List AV) : S_spec_Negated.sem args = semF X_spec_Negated F_spec_Negated none false args := rfl
theorem cl_spec_Negated (args hp) : callS G_spec_Negated args hp = byvS S_spec_Negated args hp := callS_byv rfl rfl args hp
theorem ok_spec_Negated : InlOk Tryz.prog 104 (callS G_spec_Negated) := byv_none co_spec_Negated Tryz.func104 r_spec_Negated rfl (fun _ _ h => h)
def F_spec_l15Calc : RF := ⟨74, 2, [.t 4],
  .seq (.reg [o 3 (.box (.t 1)), o 4 (.mv (.c (.int .i64 0)))]) (.seq (.regd [(0, o 7 (.mv (.t 0))), (0, o 8 (.nck (.t 7))), (0, o 9 (.fa 0 (.t 8))), (1, o 10 (.ld 1 false (.t 9))), (0, o 11 (.fa 1 (.t 3))), (1, o 12 (.ld 1 false (.t 11))), (1, o 13 (.ia 1 (.t 10) (.t 12))), (1, o 14 (.ld 1 false (.t 13))), (0, o 5 (.mv (.t 14)))] []) (.seq (.reg [o 6 (.mv (.c (.int .i64 0)))]) (.seq (.seq (.reg [o 15 (.fa 0 (.t 3)), o 16 (.ld 1 false (.t 15))]) (.block 0 (.seq (.reg [o 18 (.bin .eql (.t 16) (.c (.int .i64 1))), o 17 (.mv (.t 18))]) (.cond (.t 17) (.reg [o 19 (.fa 3 (.t 3)), o 20 (.ld 1 false (.t 19)), o 5 (.mv (.t 20))]) (.seq (.reg [o 22 (.bin .eql (.t 16) (.c (.int .i64 4))), o 21 (.mv (.t 22))]) (.cond (.t 21) (.regd [(0, o 24 (.fa 3 (.t 3))), (1, o 25 (.ld 1 false (.t 24))), (0, o 26 (.mv (.t 0))), (0, o 27 (.nck (.t 26))), (0, o 28 (.fa 0 (.t 27))), (1, o 29 (.ld 1 false (.t 28))), (0, o 30 (.fa 1 (.t 3))), (1, o 31 (.ld 1 false (.t 30))), (1, o 32 (.ia 1 (.t 29) (.t 31))), (1, o 33 (.ld 1 false (.t 32))), (0, o 34 (.mv (.t 0))), (0, o 35 (.nck (.t 34))), (0, o 36 (.fa 0 (.t 35))), (1, o 37 (.ld 1 false (.t 36))), (0, o 38 (.fa 2 (.t 3))), (1, o 39 (.ld 1 false (.t 38))), (1, o 40 (.ia 1 (.t 37) (.t 39))), (1, o 41 (.ld 1 false (.t 40))), (1, o 42 (.call 102 [(.t 25), (.t 33), (.t 41)])), (0, o 23 (.mv (.t 42))), (0, o 43 (.ex (.t 23) 0)), (0, o 44 (.ex (.t 23) 1)), (0, o 5 (.mv (.t 43))), (0, o 6 (.mv (.t 44)))] []) (.seq (.reg [o 46 (.bin .eql (.t 16) (.c (.int .i64 5))), o 45 (.mv (.t 46))]) (.cond (.t 45) (.reg [o 47 (.mv (.t 5)), o 48 (.call 103 [(.t 47)]), o 5 (.mv (.t 48))]) (.seq (.reg [o 50 (.bin .eql (.t 16) (.c (.int .i64 6))), o 49 (.mv (.t 50))]) (.cond (.t 49) (.reg [o 52 (.mv (.t 5)), o 53 (.call 104 [(.t 52)]), o 51 (.mv (.t 53)), o 54 (.ex (.t 51) 0), o 55 (.ex (.t 51) 1), o 5 (.mv (.t 54)), o 6 (.mv (.t 55))]) (.skip))))))))))) (.seq (.seq (.reg [o 56 (.mv (.t 6)), o 57 (.bin .neq (.t 56) (.c (.int .i64 0)))]) (.cond (.t 57) (.seq (.reg [o 58 (.mv (.t 6)), o 4 (.mv (.t 58))]) (.ret)) (.skip))) (.seq (.regd [(0, o 59 (.mv (.t 0))), (0, o 60 (.nck (.t 59))), (0, o 61 (.fa 0 (.t 60))), (1, o 62 (.ld 1 false (.t 61))), (0, o 63 (.fa 1 (.t 3))), (1, o 64 (.ld 1 false (.t 63))), (0, o 65 (.mv (.t 5))), (1, o 66 (.ia 1 (.t 62) (.t 64))), (1, ⟨none, none, .st 1 (.t 66) (.t 65)⟩)] []) (.seq (.reg [o 67 (.mv (.t 0)), o 68 (.nck (.t 67)), o 69 (.fa 1 (.t 68)), o 70 (.ld 1 false (.t 69)), o 71 (.bin .add (.t 70) (.c (.int .i64 1))), o 72 (.nck (.t 67)), o 73 (.fa 1 (.t 72)), ⟨none, none, .st 1 (.t 73) (.t 71)⟩]) (.seq (.reg [o 4 (.mv (.c (.int .i64 0)))]) (.ret))))))))⟩
def K_spec_l15Calc : Keeps := []
theorem r_spec_l15Calc : resolveF Tryz.prog Tryz.f84 K_spec_l15Calc = some F_spec_l15Calc := by kernel_rfl
def X_spec_l15Calc : Ctx := Ctx.cons 102 G_spec_Calc (Ctx.cons 103 G_spec_Denied (Ctx.cons 104 G_spec_Negated (fun _ => none)))
theorem co_spec_l15Calc : CtxOk Tryz.prog X_spec_l15Calc := CtxOk.cons (CtxOk.cons (CtxOk.cons (CtxOk.nil) ok_spec_Negated) ok_spec_Denied) ok_spec_Calc
theorem cx_spec_l15Calc : (CX X_spec_l15Calc 102 G_spec_Calc false) ∧ (CX X_spec_l15Calc 103 G_spec_Denied false) ∧ (CX X_spec_l15Calc 104 G_spec_Negated false) := ⟨cxI rfl rfl, cxI rfl rfl, cxI rfl rfl⟩
def G_spec_l15Calc : CK := .inl (runF X_spec_l15Calc F_spec_l15Calc)
theorem cl_spec_l15Calc (args hp) : callS G_spec_l15Calc args hp = runF X_spec_l15Calc F_spec_l15Calc args hp := rfl
theorem ok_spec_l15Calc : InlOk Tryz.prog 84 (callS G_spec_l15Calc) := runF_ok co_spec_l15Calc Tryz.func84 r_spec_l15Calc
def F_spec_l15Step : RF := ⟨90, 3, [.t 6],
  .seq (.reg [o 6 (.mv (.c (.int .i64 0)))]) (.seq (.seq (.reg [o 9 (.mv (.t 0)), o 10 (.nck (.t 9)), o 11 (.ld 3 true (.t 10)), o 12 (.call 82 [(.t 11)]), o 13 (.un .not (.t 12)), o 14 (.mv (.t 13)), ⟨some 15, some (14, false), .mv (.t 0)⟩, ⟨some 16, some (14, false), .nck (.t 15)⟩, ⟨some 17, some (14, false), .fa 1 (.t 16)⟩, ⟨some 18, some (14, false), .ld 1 false (.t 17)⟩, ⟨some 19, some (14, false), .mv (.t 1)⟩, ⟨some 20, some (14, false), .len false (.t 19)⟩, ⟨some 21, some (14, false), .bin .sub (.t 20) (.c (.int .i64 1))⟩, ⟨some 22, some (14, false), .call 50 [(.t 18), (.c (.int .i64 0)), (.t 21)]⟩, ⟨some 23, some (14, false), .un .not (.t 22)⟩, o 24 (.pick (.t 14) (.c (.bool true)) (.t 23))]) (.cond (.t 24) (.seq (.reg [o 6 (.mv (.c (.int .i64 4)))]) (.ret)) (.skip))) (.seq (.reg [o 26 (.mv (.t 1)), o 27 (.mv (.t 0)), o 28 (.nck (.t 27)), o 29 (.fa 1 (.t 28)), o 30 (.ld 1 false (.t 29)), o 31 (.ia 1 (.t 26) (.t 30)), o 32 (.ld 1 false (.t 31)), o 33 (.call 53 [(.t 32)]), o 25 (.mv (.t 33)), o 34 (.ex (.t 25) 0), o 35 (.ex (.t 25) 1), o 7 (.new [(.int .i64 0), (.int .i64 0), (.int .i64 0), (.int .i64 0)]), ⟨none, none, .st 4 (.t 7) (.t 34)⟩, o 8 (.mv (.t 35))]) (.seq (.seq (.reg [o 36 (.mv (.t 8)), o 37 (.un .not (.t 36))]) (.cond (.t 37) (.seq (.reg [o 6 (.mv (.c (.int .i64 4)))]) (.ret)) (.skip))) (.seq (.seq (.reg [o 38 (.fa 0 (.t 7)), o 39 (.ld 1 false (.t 38))]) (.block 0 (.seq (.seq (.reg [o 41 (.bin .eql (.t 39) (.c (.int .i64 2))), o 40 (.mv (.t 41))]) (.cond (.t 40) (.skip) (.seq (.reg [o 42 (.bin .eql (.t 39) (.c (.int .i64 3))), o 40 (.mv (.t 42))]) (.cond (.t 40) (.skip) (.reg [o 43 (.bin .eql (.t 39) (.c (.int .i64 9))), o 40 (.mv (.t 43))]))))) (.cond (.t 40) (.seq (.reg [o 44 (.mv (.t 0)), o 45 (.ld 4 true (.t 7)), o 46 (.mv (.t 2)), o 47 (.call 83 [(.t 44), (.t 45), (.t 46)]), o 6 (.mv (.t 47))]) (.ret)) (.seq (.reg [o 49 (.bin .eql (.t 39) (.c (.int .i64 7))), o 48 (.mv (.t 49))]) (.cond (.t 48) (.seq (.seq (.regd [(0, o 50 (.mv (.t 0))), (0, o 51 (.nck (.t 50))), (0, o 52 (.fa 0 (.t 51))), (1, o 53 (.ld 1 false (.t 52))), (0, o 54 (.fa 1 (.t 7))), (1, o 55 (.ld 1 false (.t 54))), (1, o 56 (.ia 1 (.t 53) (.t 55))), (1, o 57 (.ld 1 false (.t 56))), (0, o 58 (.bin .eql (.t 57) (.c (.int .i64 0))))] []) (.cond (.t 58) (.reg [o 59 (.mv (.t 0)), o 60 (.fa 3 (.t 7)), o 61 (.ld 1 false (.t 60)), o 62 (.nck (.t 59)), o 63 (.fa 1 (.t 62)), ⟨none, none, .st 1 (.t 63) (.t 61)⟩]) (.reg [o 64 (.mv (.t 0)), o 65 (.nck (.t 64)), o 66 (.fa 1 (.t 65)), o 67 (.ld 1 false (.t 66)), o 68 (.bin .add (.t 67) (.c (.int .i64 1))), o 69 (.nck (.t 64)), o 70 (.fa 1 (.t 69)), ⟨none, none, .st 1 (.t 70) (.t 68)⟩]))) (.seq (.reg [o 6 (.mv (.c (.int .i64 0)))]) (.ret))) (.seq (.reg [o 72 (.bin .eql (.t 39) (.c (.int .i64 8))), o 71 (.mv (.t 72))]) (.cond (.t 71) (.seq (.reg [o 73 (.mv (.t 0)), o 74 (.fa 3 (.t 7)), o 75 (.ld 1 false (.t 74)), o 76 (.nck (.t 73)), o 77 (.fa 1 (.t 76)), ⟨none, none, .st 1 (.t 77) (.t 75)⟩]) (.seq (.reg [o 6 (.mv (.c (.int .i64 0)))]) (.ret))) (.seq (.reg [o 79 (.bin .eql (.t 39) (.c (.int .i64 10))), o 78 (.mv (.t 79))]) (.cond (.t 78) (.seq (.reg [o 80 (.mv (.t 0)), o 81 (.nck (.t 80)), o 82 (.fa 1 (.t 81)), o 83 (.ld 1 false (.t 82)), o 84 (.bin .add (.t 83) (.c (.int .i64 1))), o 85 (.nck (.t 80)), o 86 (.fa 1 (.t 85)), ⟨none, none, .st 1 (.t 86) (.t 84)⟩]) (.seq (.reg [o 6 (.mv (.c (.int .i64 10)))]) (.ret))) (.skip))))))))))) (.seq (.reg [o 87 (.mv (.t 0)), o 88 (.ld 4 true (.t 7)), o 89 (.call 84 [(.t 87), (.t 88)]), o 6 (.mv (.t 89))]) (.ret))))))⟩
def K_spec_l15Step : Keeps := []
theorem r_spec_l15Step : resolveF Tryz.prog Tryz.f52 K_spec_l15Step = some F_spec_l15Step := by kernel_rfl
def X_spec_l15Step : Ctx := Ctx.cons 82 G_spec_CoreOk (Ctx.cons 50 G_spec_l01In (Ctx.cons 53 G_spec_Decode (Ctx.cons 83 G_spec_l15Mem (Ctx.cons 84 G_spec_l15Calc (fun _ => none)))))
theorem co_spec_l15Step : CtxOk Tryz.prog X_spec_l15Step := CtxOk.cons (CtxOk.cons (CtxOk.cons (CtxOk.cons (CtxOk.cons (CtxOk.nil) ok_spec_l15Calc) ok_spec_l15Mem) ok_spec_Decode) ok_spec_l01In) ok_spec_CoreOk
theorem cx_spec_l15Step : (CX X_spec_l15Step 82 G_spec_CoreOk false) ∧ (CX X_spec_l15Step 50 G_spec_l01In false) ∧ (CX X_spec_l15Step 53 G_spec_Decode false) ∧ (CX X_spec_l15Step 83 G_spec_l15Mem true) ∧ (CX X_spec_l15Step 84 G_spec_l15Calc true) := ⟨cxI rfl rfl, cxI rfl rfl, cxI rfl rfl, cxI rfl rfl, cxI rfl rfl⟩
def H_spec_l15Step : List AV → Hp → Option (AV × Hp) := runF X_spec_l15Step F_spec_l15Step
theorem sh_spec_l15Step (args hp) : H_spec_l15Step args hp = runF X_spec_l15Step F_spec_l15Step args hp := rfl
def G_spec_l15Step : CK := .inl (frame H_spec_l15Step)
theorem cl_spec_l15Step (args hp) : callS G_spec_l15Step args hp = frame H_spec_l15Step args hp := rfl
theorem ok_spec_l15Step : InlOk Tryz.prog 52 (callS G_spec_l15Step) := frame_ok (runF_ok co_spec_l15Step Tryz.func52 r_spec_l15Step)
def F_spec_l21Tell : RF := ⟨21, 4, [],
  .reg [o 8 (.mv (.t 0)), o 9 (.mv (.t 0)), o 10 (.nck (.t 9)), o 11 (.fa 10 (.t 10)), o 12 (.ld 1 false (.t 11)), o 13 (.mv (.t 1)), o 14 (.mv (.t 2)), o 15 (.mv (.t 3)), o 16 (.build [(.int .i64 0), (.int .i64 0), (.int .i64 0)] [(0, 1, (.t 13)), (1, 1, (.t 14)), (2, 1, (.t 15))]), o 17 (.bsl 3 [(.t 16)]), o 18 (.app true 3 24 (.t 12) (.t 17)), o 19 (.nck (.t 8)), o 20 (.fa 10 (.t 19)), ⟨none, none, .st 1 (.t 20) (.t 18)⟩]⟩
def K_spec_l21Tell : Keeps := []
theorem r_spec_l21Tell : resolveF Tryz.prog Tryz.f87 K_spec_l21Tell = some F_spec_l21Tell := by kernel_rfl
def X_spec_l21Tell : Ctx := fun _ => none
theorem co_spec_l21Tell : CtxOk Tryz.prog X_spec_l21Tell := CtxOk.nil
theorem cx_spec_l21Tell : True := trivial
def G_spec_l21Tell : CK := .inl (runF X_spec_l21Tell F_spec_l21Tell)
theorem cl_spec_l21Tell (args hp) : callS G_spec_l21Tell args hp = runF X_spec_l21Tell F_spec_l21Tell args hp := rfl
theorem ok_spec_l21Tell : InlOk Tryz.prog 87 (callS G_spec_l21Tell) := runF_ok co_spec_l21Tell Tryz.func87 r_spec_l21Tell
def F_spec_l21Fault : RF := ⟨13, 3, [],
  .seq (.reg [o 6 (.mv (.t 0)), o 7 (.mv (.t 1)), o 8 (.mv (.t 2)), o 9 (.call 87 [(.t 6), (.t 7), (.c (.int .i64 8)), (.t 8)])]) (.reg [o 10 (.mv (.t 0)), o 11 (.nck (.t 10)), o 12 (.fa 11 (.t 11)), ⟨none, none, .st 1 (.t 12) (.c (.bool true))⟩])⟩
def K_spec_l21Fault : Keeps := []
theorem r_spec_l21Fault : resolveF Tryz.prog Tryz.f55 K_spec_l21Fault = some F_spec_l21Fault := by kernel_rfl
def X_spec_l21Fault : Ctx := Ctx.cons 87 G_spec_l21Tell (fun _ => none)
theorem co_spec_l21Fault : CtxOk Tryz.prog X_spec_l21Fault := CtxOk.cons (CtxOk.nil) ok_spec_l21Tell
theorem cx_spec_l21Fault : (CX X_spec_l21Fault 87 G_spec_l21Tell true) := cxI rfl rfl
def G_spec_l21Fault : CK := .inl (runF X_spec_l21Fault F_spec_l21Fault)
theorem cl_spec_l21Fault (args hp) : callS G_spec_l21Fault args hp = runF X_spec_l21Fault F_spec_l21Fault args hp := rfl
theorem ok_spec_l21Fault : InlOk Tryz.prog 55 (callS G_spec_l21Fault) := runF_ok co_spec_l21Fault Tryz.func55 r_spec_l21Fault
def B0_spec_l12In : RC :=
  .seq (.seq (.reg [o 6 (.mv (.t 5)), o 7 (.mv (.t 0)), o 8 (.len false (.t 7)), o 9 (.bin .lss (.t 6) (.t 8))]) (.cond (.t 9) (.skip) (.exit 0))) (.seq (.block 1 (.seq (.reg [o 12 (.mv (.t 0)), o 13 (.mv (.t 5)), o 14 (.ia 1 (.t 12) (.t 13)), o 15 (.ld 1 false (.t 14)), o 16 (.mv (.t 1)), o 17 (.bin .eql (.t 15) (.t 16))]) (.cond (.t 17) (.seq (.reg [o 4 (.mv (.c (.bool true)))]) (.ret)) (.skip)))) (.reg [o 10 (.mv (.t 5)), o 11 (.bin .add (.t 10) (.c (.int .i64 1))), o 5 (.mv (.t 11))]))
def F_spec_l12In : RF := ⟨18, 2, [.t 4],
  .seq (.reg [o 4 (.mv (.c (.bool false)))]) (.seq (.seq (.reg [o 5 (.mv (.c (.int .i64 0)))]) (.block 0 (.loop [0, 1, 5] [(1, []), (0, [4])] B0_spec_l12In))) (.seq (.reg [o 4 (.mv (.c (.bool false)))]) (.ret)))⟩
def K_spec_l12In : Keeps := [([0, 1, 5], [(1, []), (0, [4])])]
theorem r_spec_l12In : resolveF Tryz.prog Tryz.f118 K_spec_l12In = some F_spec_l12In := by kernel_rfl
def X_spec_l12In : Ctx := fun _ => none
theorem co_spec_l12In : CtxOk Tryz.prog X_spec_l12In := CtxOk.nil
theorem cx_spec_l12In : True := trivial
def S_spec_l12In : ByV := ⟨none, false, semF X_spec_l12In F_spec_l12In none false⟩
def G_spec_l12In : CK := .byv S_spec_l12In
theorem sg_spec_l12In (args : List AV) : S_spec_l12In.sem args = semF X_spec_l12In F_spec_l12In none false args := rfl
theorem cl_spec_l12In (args hp) : callS G_spec_l12In args hp = byvS S_spec_l12In args hp := callS_byv rfl rfl args hp
theorem ok_spec_l12In : InlOk Tryz.prog 118 (callS G_spec_l12In) := byv_none co_spec_l12In Tryz.func118 r_spec_l12In rfl (fun _ _ h => h)
def B0_spec_GateOk : RC :=
  .seq (.seq (.reg [o 36 (.mv (.t 4)), o 37 (.fa 1 (.t 1)), o 38 (.ld 1 false (.t 37)), o 39 (.len false (.t 38)), o 40 (.bin .lss (.t 36) (.t 39))]) (.cond (.t 40) (.skip) (.exit 0))) (.seq (.block 1 (.seq (.seq (.reg [o 43 (.fa 1 (.t 1)), o 44 (.ld 1 false (.t 43)), o 45 (.mv (.t 4)), o 46 (.ia 1 (.t 44) (.t 45)), o 47 (.ld 1 false (.t 46)), o 48 (.call 50 [(.t 47), (.c (.int .i64 0)), (.c (.int .i64 3))]), o 49 (.un .not (.t 48)), o 50 (.mv (.t 49)), ⟨some 51, some (50, false), .mv (.t 3)⟩, ⟨some 52, some (50, false), .fa 1 (.t 1)⟩, ⟨some 53, some (50, false), .ld 1 false (.t 52)⟩, ⟨some 54, some (50, false), .mv (.t 4)⟩, ⟨some 55, some (50, false), .ia 1 (.t 53) (.t 54)⟩, ⟨some 56, some (50, false), .ld 1 false (.t 55)⟩, ⟨some 57, some (50, false), .call 118 [(.t 51), (.t 56)]⟩, o 58 (.pick (.t 50) (.c (.bool true)) (.t 57))]) (.cond (.t 58) (.seq (.reg [o 2 (.mv (.c (.bool false)))]) (.ret)) (.skip))) (.reg [o 59 (.mv (.t 3)), o 60 (.fa 1 (.t 1)), o 61 (.ld 1 false (.t 60)), o 62 (.mv (.t 4)), o 63 (.ia 1 (.t 61) (.t 62)), o 64 (.ld 1 false (.t 63)), o 65 (.bsl 1 [(.t 64)]), o 66 (.app true 1 8 (.t 59) (.t 65)), o 3 (.mv (.t 66))]))) (.reg [o 41 (.mv (.t 4)), o 42 (.bin .add (.t 41) (.c (.int .i64 1))), o 4 (.mv (.t 42))]))
def B1_spec_GateOk : RC :=
  .seq (.seq (.reg [o 67 (.mv (.t 5)), o 68 (.fa 2 (.t 1)), o 69 (.ld 1 false (.t 68)), o 70 (.len false (.t 69)), o 71 (.bin .lss (.t 67) (.t 70))]) (.cond (.t 71) (.skip) (.exit 2))) (.seq (.block 3 (.seq (.seq (.reg [o 74 (.fa 2 (.t 1)), o 75 (.ld 1 false (.t 74)), o 76 (.mv (.t 5)), o 77 (.ia 1 (.t 75) (.t 76)), o 78 (.ld 1 false (.t 77)), o 79 (.call 50 [(.t 78), (.c (.int .i64 (-1))), (.c (.int .i64 3))]), o 80 (.un .not (.t 79)), o 81 (.mv (.t 80)), ⟨some 82, some (81, false), .fa 2 (.t 1)⟩, ⟨some 83, some (81, false), .ld 1 false (.t 82)⟩, ⟨some 84, some (81, false), .mv (.t 5)⟩, ⟨some 85, some (81, false), .ia 1 (.t 83) (.t 84)⟩, ⟨some 86, some (81, false), .ld 1 false (.t 85)⟩, ⟨some 87, some (81, false), .bin .geq (.t 86) (.c (.int .i64 0))⟩, ⟨some 88, some (81, false), .mv (.t 87)⟩, ⟨some 89, some (88, true), .mv (.t 3)⟩, ⟨some 90, some (88, true), .fa 2 (.t 1)⟩, ⟨some 91, some (88, true), .ld 1 false (.t 90)⟩, ⟨some 92, some (88, true), .mv (.t 5)⟩, ⟨some 93, some (88, true), .ia 1 (.t 91) (.t 92)⟩, ⟨some 94, some (88, true), .ld 1 false (.t 93)⟩, ⟨some 95, some (88, true), .call 118 [(.t 89), (.t 94)]⟩, ⟨some 96, some (81, false), .pick (.t 88) (.t 95) (.c (.bool false))⟩, o 97 (.pick (.t 81) (.c (.bool true)) (.t 96))]) (.cond (.t 97) (.seq (.reg [o 2 (.mv (.c (.bool false)))]) (.ret)) (.skip))) (.reg [o 98 (.mv (.t 3)), o 99 (.fa 2 (.t 1)), o 100 (.ld 1 false (.t 99)), o 101 (.mv (.t 5)), o 102 (.ia 1 (.t 100) (.t 101)), o 103 (.ld 1 false (.t 102)), o 104 (.bsl 1 [(.t 103)]), o 105 (.app true 1 8 (.t 98) (.t 104)), o 3 (.mv (.t 105))]))) (.reg [o 72 (.mv (.t 5)), o 73 (.bin .add (.t 72) (.c (.int .i64 1))), o 5 (.mv (.t 73))]))
def F_spec_GateOk : RF := ⟨106, 1, [.t 2],
  .seq (.reg [o 1 (.box (.t 0)), o 2 (.mv (.c (.bool false)))]) (.seq (.seq (.reg [o 6 (.fa 0 (.t 1)), o 7 (.ld 1 false (.t 6)), o 8 (.call 50 [(.t 7), (.c (.int .i64 (-1))), (.c (.int .i64 3))]), o 9 (.un .not (.t 8)), o 10 (.mv (.t 9)), ⟨some 11, some (10, false), .fa 2 (.t 1)⟩, ⟨some 12, some (10, false), .ld 1 false (.t 11)⟩, ⟨some 13, some (10, false), .len false (.t 12)⟩, ⟨some 14, some (10, false), .bin .gtr (.t 13) (.c (.int .i64 2))⟩, o 15 (.pick (.t 10) (.c (.bool true)) (.t 14)), o 16 (.mv (.t 15)), ⟨some 17, some (16, false), .fa 0 (.t 1)⟩, ⟨some 18, some (16, false), .ld 1 false (.t 17)⟩, ⟨some 19, some (16, false), .bin .lss (.t 18) (.c (.int .i64 0))⟩, ⟨some 20, some (16, false), .mv (.t 19)⟩, ⟨some 21, some (20, true), .fa 1 (.t 1)⟩, ⟨some 22, some (20, true), .ld 1 false (.t 21)⟩, ⟨some 23, some (20, true), .len false (.t 22)⟩, ⟨some 24, some (20, true), .bin .gtr (.t 23) (.c (.int .i64 0))⟩, ⟨some 25, some (16, false), .pick (.t 20) (.t 24) (.c (.bool false))⟩, o 26 (.pick (.t 16) (.c (.bool true)) (.t 25))]) (.cond (.t 26) (.seq (.reg [o 2 (.mv (.c (.bool false)))]) (.ret)) (.skip))) (.seq (.reg [o 27 (.bsl 1 []), o 3 (.mv (.t 27))]) (.seq (.seq (.reg [o 28 (.fa 0 (.t 1)), o 29 (.ld 1 false (.t 28)), o 30 (.bin .geq (.t 29) (.c (.int .i64 0)))]) (.cond (.t 30) (.reg [o 31 (.mv (.t 3)), o 32 (.fa 0 (.t 1)), o 33 (.ld 1 false (.t 32)), o 34 (.bsl 1 [(.t 33)]), o 35 (.app true 1 8 (.t 31) (.t 34)), o 3 (.mv (.t 35))]) (.skip))) (.seq (.seq (.reg [o 4 (.mv (.c (.int .i64 0)))]) (.block 0 (.loop [1, 3, 4] [(1, [1, 3]), (0, [2])] B0_spec_GateOk))) (.seq (.seq (.reg [o 5 (.mv (.c (.int .i64 0)))]) (.block 2 (.loop [1, 3, 5] [(3, []), (0, [2])] B1_spec_GateOk))) (.seq (.reg [o 2 (.mv (.c (.bool true)))]) (.ret)))))))⟩
def K_spec_GateOk : Keeps := [([1, 3, 4], [(1, [1, 3]), (0, [2])]), ([1, 3, 5], [(3, []), (0, [2])])]
theorem r_spec_GateOk : resolveF Tryz.prog Tryz.f117 K_spec_GateOk = some F_spec_GateOk := by kernel_rfl
def X_spec_GateOk : Ctx := Ctx.cons 50 G_spec_l01In (Ctx.cons 118 G_spec_l12In (fun _ => none))
theorem co_spec_GateOk : CtxOk Tryz.prog X_spec_GateOk := CtxOk.cons (CtxOk.cons (CtxOk.nil) ok_spec_l12In) ok_spec_l01In
theorem cx_spec_GateOk : (CX X_spec_GateOk 50 G_spec_l01In false) ∧ (CX X_spec_GateOk 118 G_spec_l12In false) := ⟨cxI rfl rfl, cxI rfl rfl⟩
def S_spec_GateOk : ByV := ⟨none, false, semF X_spec_GateOk F_spec_GateOk none false⟩
def G_spec_GateOk : CK := .byv S_spec_GateOk
theorem sg_spec_GateOk (args : List AV) : S_spec_GateOk.sem args = semF X_spec_GateOk F_spec_GateOk none false args := rfl
theorem cl_spec_GateOk (args hp) : callS G_spec_GateOk args hp = byvS S_spec_GateOk args hp := callS_byv rfl rfl args hp
theorem ok_spec_GateOk : InlOk Tryz.prog 117 (callS G_spec_GateOk) := byv_none co_spec_GateOk Tryz.func117 r_spec_GateOk rfl (fun _ _ h => h)
def F_spec_Arrive : RF := ⟨49, 2, [.cell 4 3 true, .t 5],
  .seq (.reg [o 2 (.box (.t 0)), o 4 (.new [(.int .i64 0), (.nil 1), (.nil 1)]), o 5 (.mv (.c (.bool false)))]) (.seq (.reg [o 7 (.ld 3 true (.t 2)), o 8 (.call 80 [(.t 7)]), o 6 (.new [(.int .i64 0), (.nil 1), (.nil 1)]), ⟨none, none, .st 3 (.t 6) (.t 8)⟩]) (.seq (.seq (.reg [o 9 (.ld 3 true (.t 2)), o 10 (.call 117 [(.t 9)]), o 11 (.un .not (.t 10)), o 12 (.mv (.t 11)), ⟨some 13, some (12, false), .mv (.t 1)⟩, ⟨some 14, some (12, false), .call 50 [(.t 13), (.c (.int .i64 0)), (.c (.int .i64 3))]⟩, ⟨some 15, some (12, false), .un .not (.t 14)⟩, o 16 (.pick (.t 12) (.c (.bool true)) (.t 15)), o 17 (.mv (.t 16)), ⟨some 18, some (17, false), .fa 0 (.t 2)⟩, ⟨some 19, some (17, false), .ld 1 false (.t 18)⟩, ⟨some 20, some (17, false), .mv (.t 1)⟩, ⟨some 21, some (17, false), .bin .eql (.t 19) (.t 20)⟩, o 22 (.pick (.t 17) (.c (.bool true)) (.t 21)), o 23 (.mv (.t 22)), ⟨some 24, some (23, false), .fa 1 (.t 2)⟩, ⟨some 25, some (23, false), .ld 1 false (.t 24)⟩, ⟨some 26, some (23, false), .mv (.t 1)⟩, ⟨some 27, some (23, false), .call 118 [(.t 25), (.t 26)]⟩, o 28 (.pick (.t 23) (.c (.bool true)) (.t 27)), o 29 (.mv (.t 28)), ⟨some 30, some (29, false), .fa 2 (.t 2)⟩, ⟨some 31, some (29, false), .ld 1 false (.t 30)⟩, ⟨some 32, some (29, false), .mv (.t 1)⟩, ⟨some 33, some (29, false), .call 118 [(.t 31), (.t 32)]⟩, o 34 (.pick (.t 29) (.c (.bool true)) (.t 33))]) (.cond (.t 34) (.seq (.reg [o 35 (.ld 3 true (.t 6)), ⟨none, none, .st 3 (.t 4) (.t 35)⟩, o 5 (.mv (.c (.bool false)))]) (.ret)) (.skip))) (.seq (.seq (.reg [o 36 (.fa 0 (.t 2)), o 37 (.ld 1 false (.t 36)), o 38 (.bin .lss (.t 37) (.c (.int .i64 0)))]) (.cond (.t 38) (.seq (.reg [o 39 (.mv (.t 1)), o 40 (.fa 0 (.t 6)), ⟨none, none, .st 1 (.t 40) (.t 39)⟩]) (.seq (.reg [o 41 (.ld 3 true (.t 6)), ⟨none, none, .st 3 (.t 4) (.t 41)⟩, o 5 (.mv (.c (.bool true)))]) (.ret))) (.skip))) (.seq (.reg [o 42 (.fa 1 (.t 6)), o 43 (.ld 1 false (.t 42)), o 44 (.mv (.t 1)), o 45 (.bsl 1 [(.t 44)]), o 46 (.app true 1 8 (.t 43) (.t 45)), o 47 (.fa 1 (.t 6)), ⟨none, none, .st 1 (.t 47) (.t 46)⟩]) (.seq (.reg [o 48 (.ld 3 true (.t 6)), ⟨none, none, .st 3 (.t 4) (.t 48)⟩, o 5 (.mv (.c (.bool false)))]) (.ret))))))⟩
def K_spec_Arrive : Keeps := []
theorem r_spec_Arrive : resolveF Tryz.prog Tryz.f105 K_spec_Arrive = some F_spec_Arrive := by kernel_rfl
def X_spec_Arrive : Ctx := Ctx.cons 80 G_spec_l12Copy (Ctx.cons 117 G_spec_GateOk (Ctx.cons 50 G_spec_l01In (Ctx.cons 118 G_spec_l12In (fun _ => none))))
theorem co_spec_Arrive : CtxOk Tryz.prog X_spec_Arrive := CtxOk.cons (CtxOk.cons (CtxOk.cons (CtxOk.cons (CtxOk.nil) ok_spec_l12In) ok_spec_l01In) ok_spec_GateOk) ok_spec_l12Copy
theorem cx_spec_Arrive : (CX X_spec_Arrive 80 G_spec_l12Copy false) ∧ (CX X_spec_Arrive 117 G_spec_GateOk false) ∧ (CX X_spec_Arrive 50 G_spec_l01In false) ∧ (CX X_spec_Arrive 118 G_spec_l12In false) := ⟨cxI rfl rfl, cxI rfl rfl, cxI rfl rfl, cxI rfl rfl⟩
def S_spec_Arrive : ByV := ⟨none, false, semF X_spec_Arrive F_spec_Arrive none false⟩
def G_spec_Arrive : CK := .byv S_spec_Arrive
theorem sg_spec_Arrive (args : List AV) : S_spec_Arrive.sem args = semF X_spec_Arrive F_spec_Arrive none false args := rfl
theorem cl_spec_Arrive (args hp) : callS G_spec_Arrive args hp = byvS S_spec_Arrive args hp := callS_byv rfl rfl args hp
theorem ok_spec_Arrive : InlOk Tryz.prog 105 (callS G_spec_Arrive) := byv_none co_spec_Arrive Tryz.func105 r_spec_Arrive rfl (fun _ _ h => h)
def F_spec_l20Hold : RF := ⟨22, 2, [],
  .seq (.reg [o 3 (.box (.t 1))]) (.seq (.regd [(0, o 4 (.fa 2 (.t 3))), (1, o 5 (.ld 1 false (.t 4))), (0, o 6 (.mv (.t 0))), (0, o 7 (.nck (.t 6))), (0, o 8 (.fa 2 (.t 7))), (1, o 9 (.ld 1 false (.t 8))), (0, o 10 (.len false (.t 9))), (0, o 11 (.bin .sub (.t 10) (.c (.int .i64 1)))), (1, o 12 (.call 50 [(.t 5), (.c (.int .i64 0)), (.t 11)]))] []) (.cond (.t 12) (.regd [(0, o 13 (.mv (.t 0))), (0, o 14 (.nck (.t 13))), (0, o 15 (.fa 2 (.t 14))), (2, o 16 (.ld 1 false (.t 15))), (0, o 17 (.fa 2 (.t 3))), (2, o 18 (.ld 1 false (.t 17))), (1, o 19 (.ld 3 true (.t 3))), (2, o 20 (.call 48 [(.t 19)])), (1, o 21 (.ia 3 (.t 16) (.t 18))), (1, ⟨none, none, .st 3 (.t 21) (.t 20)⟩)] [(3, 7), (5, 7)]) (.skip)))⟩
def K_spec_l20Hold : Keeps := []
theorem r_spec_l20Hold : resolveF Tryz.prog Tryz.f106 K_spec_l20Hold = some F_spec_l20Hold := by kernel_rfl
def X_spec_l20Hold : Ctx := Ctx.cons 50 G_spec_l01In (Ctx.cons 48 G_spec_l15Copy (fun _ => none))
theorem co_spec_l20Hold : CtxOk Tryz.prog X_spec_l20Hold := CtxOk.cons (CtxOk.cons (CtxOk.nil) ok_spec_l15Copy) ok_spec_l01In
theorem cx_spec_l20Hold : (CX X_spec_l20Hold 50 G_spec_l01In false) ∧ (CX X_spec_l20Hold 48 G_spec_l15Copy false) := ⟨cxI rfl rfl, cxI rfl rfl⟩
def G_spec_l20Hold : CK := .inl (runF X_spec_l20Hold F_spec_l20Hold)
theorem cl_spec_l20Hold (args hp) : callS G_spec_l20Hold args hp = runF X_spec_l20Hold F_spec_l20Hold args hp := rfl
theorem ok_spec_l20Hold : InlOk Tryz.prog 106 (callS G_spec_l20Hold) := runF_ok co_spec_l20Hold Tryz.func106 r_spec_l20Hold
def F_spec_l12Next : RF := ⟨35, 1, [.t 2],
  .seq (.reg [o 2 (.mv (.c (.int .i64 0)))]) (.seq (.reg [o 3 (.mv (.t 0)), o 4 (.nck (.t 3)), o 5 (.fa 0 (.t 4)), ⟨none, none, .st 1 (.t 5) (.c (.int .i64 (-1)))⟩]) (.seq (.seq (.reg [o 6 (.mv (.t 0)), o 7 (.nck (.t 6)), o 8 (.fa 1 (.t 7)), o 9 (.ld 1 false (.t 8)), o 10 (.len false (.t 9)), o 11 (.bin .gtr (.t 10) (.c (.int .i64 0)))]) (.cond (.t 11) (.seq (.reg [o 12 (.mv (.t 0)), o 13 (.mv (.t 0)), o 14 (.nck (.t 13)), o 15 (.fa 1 (.t 14)), o 16 (.ld 1 false (.t 15)), o 17 (.ia 1 (.t 16) (.c (.int .i64 0))), o 18 (.ld 1 false (.t 17)), o 19 (.nck (.t 12)), o 20 (.fa 0 (.t 19)), ⟨none, none, .st 1 (.t 20) (.t 18)⟩]) (.reg [o 21 (.mv (.t 0)), o 22 (.bsl 1 []), o 23 (.mv (.t 0)), o 24 (.nck (.t 23)), o 25 (.fa 1 (.t 24)), o 26 (.ld 1 false (.t 25)), o 27 (.slc false 1 (.t 26) (some (.c (.int .i64 1))) none), o 28 (.app true 1 8 (.t 22) (.t 27)), o 29 (.nck (.t 21)), o 30 (.fa 1 (.t 29)), ⟨none, none, .st 1 (.t 30) (.t 28)⟩])) (.skip))) (.seq (.reg [o 31 (.mv (.t 0)), o 32 (.nck (.t 31)), o 33 (.fa 0 (.t 32)), o 34 (.ld 1 false (.t 33)), o 2 (.mv (.t 34))]) (.ret))))⟩
def K_spec_l12Next : Keeps := []
theorem r_spec_l12Next : resolveF Tryz.prog Tryz.f119 K_spec_l12Next = some F_spec_l12Next := by kernel_rfl
def X_spec_l12Next : Ctx := fun _ => none
theorem co_spec_l12Next : CtxOk Tryz.prog X_spec_l12Next := CtxOk.nil
theorem cx_spec_l12Next : True := trivial
def G_spec_l12Next : CK := .inl (runF X_spec_l12Next F_spec_l12Next)
theorem cl_spec_l12Next (args hp) : callS G_spec_l12Next args hp = runF X_spec_l12Next F_spec_l12Next args hp := rfl
theorem ok_spec_l12Next : InlOk Tryz.prog 119 (callS G_spec_l12Next) := runF_ok co_spec_l12Next Tryz.func119 r_spec_l12Next
def F_spec_Leave : RF := ⟨20, 1, [.cell 2 3 true, .t 3],
  .seq (.reg [o 1 (.box (.t 0)), o 2 (.new [(.int .i64 0), (.nil 1), (.nil 1)]), o 3 (.mv (.c (.int .i64 0)))]) (.seq (.reg [o 6 (.ld 3 true (.t 1)), o 7 (.call 80 [(.t 6)]), o 4 (.new [(.int .i64 0), (.nil 1), (.nil 1)]), ⟨none, none, .st 3 (.t 4) (.t 7)⟩]) (.seq (.seq (.reg [o 8 (.ld 3 true (.t 1)), o 9 (.call 117 [(.t 8)]), o 10 (.un .not (.t 9)), o 11 (.mv (.t 10)), ⟨some 12, some (11, false), .fa 0 (.t 1)⟩, ⟨some 13, some (11, false), .ld 1 false (.t 12)⟩, ⟨some 14, some (11, false), .bin .lss (.t 13) (.c (.int .i64 0))⟩, o 15 (.pick (.t 11) (.c (.bool true)) (.t 14))]) (.cond (.t 15) (.seq (.reg [o 16 (.ld 3 true (.t 4)), ⟨none, none, .st 3 (.t 2) (.t 16)⟩, o 3 (.mv (.c (.int .i64 (-1))))]) (.ret)) (.skip))) (.seq (.reg [o 17 (.call 119 [(.t 4)]), o 5 (.mv (.t 17))]) (.seq (.reg [o 18 (.ld 3 true (.t 4)), o 19 (.mv (.t 5)), ⟨none, none, .st 3 (.t 2) (.t 18)⟩, o 3 (.mv (.t 19))]) (.ret)))))⟩
def K_spec_Leave : Keeps := []
theorem r_spec_Leave : resolveF Tryz.prog Tryz.f107 K_spec_Leave = some F_spec_Leave := by kernel_rfl
def X_spec_Leave : Ctx := Ctx.cons 80 G_spec_l12Copy (Ctx.cons 117 G_spec_GateOk (Ctx.cons 119 G_spec_l12Next (fun _ => none)))
theorem co_spec_Leave : CtxOk Tryz.prog X_spec_Leave := CtxOk.cons (CtxOk.cons (CtxOk.cons (CtxOk.nil) ok_spec_l12Next) ok_spec_GateOk) ok_spec_l12Copy
theorem cx_spec_Leave : (CX X_spec_Leave 80 G_spec_l12Copy false) ∧ (CX X_spec_Leave 117 G_spec_GateOk false) ∧ (CX X_spec_Leave 119 G_spec_l12Next true) := ⟨cxI rfl rfl, cxI rfl rfl, cxI rfl rfl⟩
def S_spec_Leave : ByV := ⟨none, false, semF X_spec_Leave F_spec_Leave none false⟩
def G_spec_Leave : CK := .byv S_spec_Leave
theorem sg_spec_Leave (args : List AV) : S_spec_Leave.sem args = semF X_spec_Leave F_spec_Leave none false args := rfl
theorem cl_spec_Leave (args hp) : callS G_spec_Leave args hp = byvS S_spec_Leave args hp := callS_byv rfl rfl args hp
theorem ok_spec_Leave : InlOk Tryz.prog 107 (callS G_spec_Leave) := byv_none co_spec_Leave Tryz.func107 r_spec_Leave rfl (fun _ _ h => h)
def F_spec_DelayIn : RF := ⟨46, 2, [.cell 4 3 true, .t 5, .t 6],
  .seq (.reg [o 2 (.box (.t 0)), o 4 (.new [(.int .i64 0), (.nil 1), (.nil 1)]), o 5 (.mv (.c (.int .i64 0))), o 6 (.mv (.c (.bool false)))]) (.seq (.reg [o 9 (.ld 3 true (.t 2)), o 10 (.call 80 [(.t 9)]), o 7 (.new [(.int .i64 0), (.nil 1), (.nil 1)]), ⟨none, none, .st 3 (.t 7) (.t 10)⟩]) (.seq (.seq (.reg [o 11 (.ld 3 true (.t 2)), o 12 (.call 117 [(.t 11)]), o 13 (.un .not (.t 12)), o 14 (.mv (.t 13)), ⟨some 15, some (14, false), .fa 0 (.t 2)⟩, ⟨some 16, some (14, false), .ld 1 false (.t 15)⟩, ⟨some 17, some (14, false), .bin .lss (.t 16) (.c (.int .i64 0))⟩, o 18 (.pick (.t 14) (.c (.bool true)) (.t 17)), o 19 (.mv (.t 18)), ⟨some 20, some (19, false), .mv (.t 1)⟩, ⟨some 21, some (19, false), .fa 2 (.t 2)⟩, ⟨some 22, some (19, false), .ld 1 false (.t 21)⟩, ⟨some 23, some (19, false), .len false (.t 22)⟩, ⟨some 24, some (19, false), .bin .sub (.t 23) (.c (.int .i64 1))⟩, ⟨some 25, some (19, false), .call 50 [(.t 20), (.c (.int .i64 0)), (.t 24)]⟩, ⟨some 26, some (19, false), .un .not (.t 25)⟩, o 27 (.pick (.t 19) (.c (.bool true)) (.t 26)), o 28 (.mv (.t 27)), ⟨some 29, some (28, false), .fa 2 (.t 2)⟩, ⟨some 30, some (28, false), .ld 1 false (.t 29)⟩, ⟨some 31, some (28, false), .mv (.t 1)⟩, ⟨some 32, some (28, false), .ia 1 (.t 30) (.t 31)⟩, ⟨some 33, some (28, false), .ld 1 false (.t 32)⟩, ⟨some 34, some (28, false), .bin .geq (.t 33) (.c (.int .i64 0))⟩, o 35 (.pick (.t 28) (.c (.bool true)) (.t 34))]) (.cond (.t 35) (.seq (.reg [o 36 (.ld 3 true (.t 7)), ⟨none, none, .st 3 (.t 4) (.t 36)⟩, o 5 (.mv (.c (.int .i64 (-1)))), o 6 (.mv (.c (.bool false)))]) (.ret)) (.skip))) (.seq (.reg [o 37 (.fa 2 (.t 7)), o 38 (.ld 1 false (.t 37)), o 39 (.mv (.t 1)), o 40 (.fa 0 (.t 2)), o 41 (.ld 1 false (.t 40)), o 42 (.ia 1 (.t 38) (.t 39)), ⟨none, none, .st 1 (.t 42) (.t 41)⟩]) (.seq (.reg [o 43 (.call 119 [(.t 7)]), o 8 (.mv (.t 43))]) (.seq (.reg [o 44 (.ld 3 true (.t 7)), o 45 (.mv (.t 8)), ⟨none, none, .st 3 (.t 4) (.t 44)⟩, o 5 (.mv (.t 45)), o 6 (.mv (.c (.bool true)))]) (.ret))))))⟩
def K_spec_DelayIn : Keeps := []
theorem r_spec_DelayIn : resolveF Tryz.prog Tryz.f108 K_spec_DelayIn = some F_spec_DelayIn := by kernel_rfl
def X_spec_DelayIn : Ctx := Ctx.cons 80 G_spec_l12Copy (Ctx.cons 117 G_spec_GateOk (Ctx.cons 50 G_spec_l01In (Ctx.cons 119 G_spec_l12Next (fun _ => none))))
theorem co_spec_DelayIn : CtxOk Tryz.prog X_spec_DelayIn := CtxOk.cons (CtxOk.cons (CtxOk.cons (CtxOk.cons (CtxOk.nil) ok_spec_l12Next) ok_spec_l01In) ok_spec_GateOk) ok_spec_l12Copy
theorem cx_spec_DelayIn : (CX X_spec_DelayIn 80 G_spec_l12Copy false) ∧ (CX X_spec_DelayIn 117 G_spec_GateOk false) ∧ (CX X_spec_DelayIn 50 G_spec_l01In false) ∧ (CX X_spec_DelayIn 119 G_spec_l12Next true) := ⟨cxI rfl rfl, cxI rfl rfl, cxI rfl rfl, cxI rfl rfl⟩
def S_spec_DelayIn : ByV := ⟨none, false, semF X_spec_DelayIn F_spec_DelayIn none false⟩
def G_spec_DelayIn : CK := .byv S_spec_DelayIn
theorem sg_spec_DelayIn (args : List AV) : S_spec_DelayIn.sem args = semF X_spec_DelayIn F_spec_DelayIn none false args := rfl
theorem cl_spec_DelayIn (args hp) : callS G_spec_DelayIn args hp = byvS S_spec_DelayIn args hp := callS_byv rfl rfl args hp
theorem ok_spec_DelayIn : InlOk Tryz.prog 108 (callS G_spec_DelayIn) := byv_none co_spec_DelayIn Tryz.func108 r_spec_DelayIn rfl (fun _ _ h => h)
def F_spec_ContinueAt : RF := ⟨50, 2, [.cell 4 3 true, .t 5],
  .seq (.reg [o 2 (.box (.t 0)), o 4 (.new [(.int .i64 0), (.nil 1), (.nil 1)]), o 5 (.mv (.c (.int .i64 0)))]) (.seq (.reg [o 8 (.ld 3 true (.t 2)), o 9 (.call 80 [(.t 8)]), o 6 (.new [(.int .i64 0), (.nil 1), (.nil 1)]), ⟨none, none, .st 3 (.t 6) (.t 9)⟩]) (.seq (.seq (.reg [o 10 (.ld 3 true (.t 2)), o 11 (.call 117 [(.t 10)]), o 12 (.un .not (.t 11)), o 13 (.mv (.t 12)), ⟨some 14, some (13, false), .fa 0 (.t 2)⟩, ⟨some 15, some (13, false), .ld 1 false (.t 14)⟩, ⟨some 16, some (13, false), .bin .lss (.t 15) (.c (.int .i64 0))⟩, o 17 (.pick (.t 13) (.c (.bool true)) (.t 16)), o 18 (.mv (.t 17)), ⟨some 19, some (18, false), .mv (.t 1)⟩, ⟨some 20, some (18, false), .fa 2 (.t 2)⟩, ⟨some 21, some (18, false), .ld 1 false (.t 20)⟩, ⟨some 22, some (18, false), .len false (.t 21)⟩, ⟨some 23, some (18, false), .bin .sub (.t 22) (.c (.int .i64 1))⟩, ⟨some 24, some (18, false), .call 50 [(.t 19), (.c (.int .i64 0)), (.t 23)]⟩, ⟨some 25, some (18, false), .un .not (.t 24)⟩, o 26 (.pick (.t 18) (.c (.bool true)) (.t 25))]) (.cond (.t 26) (.seq (.reg [o 27 (.ld 3 true (.t 6)), ⟨none, none, .st 3 (.t 4) (.t 27)⟩, o 5 (.mv (.c (.int .i64 (-1))))]) (.ret)) (.skip))) (.seq (.seq (.reg [o 28 (.fa 2 (.t 2)), o 29 (.ld 1 false (.t 28)), o 30 (.mv (.t 1)), o 31 (.ia 1 (.t 29) (.t 30)), o 32 (.ld 1 false (.t 31)), o 33 (.bin .lss (.t 32) (.c (.int .i64 0)))]) (.cond (.t 33) (.seq (.reg [o 34 (.call 119 [(.t 6)]), o 7 (.mv (.t 34))]) (.seq (.reg [o 35 (.ld 3 true (.t 6)), o 36 (.mv (.t 7)), ⟨none, none, .st 3 (.t 4) (.t 35)⟩, o 5 (.mv (.t 36))]) (.ret))) (.skip))) (.seq (.reg [o 37 (.fa 2 (.t 2)), o 38 (.ld 1 false (.t 37)), o 39 (.mv (.t 1)), o 40 (.ia 1 (.t 38) (.t 39)), o 41 (.ld 1 false (.t 40)), o 42 (.fa 0 (.t 6)), ⟨none, none, .st 1 (.t 42) (.t 41)⟩]) (.seq (.reg [o 43 (.fa 2 (.t 6)), o 44 (.ld 1 false (.t 43)), o 45 (.mv (.t 1)), o 46 (.ia 1 (.t 44) (.t 45)), ⟨none, none, .st 1 (.t 46) (.c (.int .i64 (-1)))⟩]) (.seq (.regd [(1, o 47 (.ld 3 true (.t 6))), (0, o 48 (.fa 0 (.t 6))), (2, o 49 (.ld 1 false (.t 48))), (2, ⟨none, none, .st 3 (.t 4) (.t 47)⟩), (0, o 5 (.mv (.t 49)))] [(2, 3)]) (.ret)))))))⟩
def K_spec_ContinueAt : Keeps := []
theorem r_spec_ContinueAt : resolveF Tryz.prog Tryz.f109 K_spec_ContinueAt = some F_spec_ContinueAt := by kernel_rfl
def X_spec_ContinueAt : Ctx := Ctx.cons 80 G_spec_l12Copy (Ctx.cons 117 G_spec_GateOk (Ctx.cons 50 G_spec_l01In (Ctx.cons 119 G_spec_l12Next (fun _ => none))))
theorem co_spec_ContinueAt : CtxOk Tryz.prog X_spec_ContinueAt := CtxOk.cons (CtxOk.cons (CtxOk.cons (CtxOk.cons (CtxOk.nil) ok_spec_l12Next) ok_spec_l01In) ok_spec_GateOk) ok_spec_l12Copy
theorem cx_spec_ContinueAt : (CX X_spec_ContinueAt 80 G_spec_l12Copy false) ∧ (CX X_spec_ContinueAt 117 G_spec_GateOk false) ∧ (CX X_spec_ContinueAt 50 G_spec_l01In false) ∧ (CX X_spec_ContinueAt 119 G_spec_l12Next true) := ⟨cxI rfl rfl, cxI rfl rfl, cxI rfl rfl, cxI rfl rfl⟩
def S_spec_ContinueAt : ByV := ⟨none, false, semF X_spec_ContinueAt F_spec_ContinueAt none false⟩
def G_spec_ContinueAt : CK := .byv S_spec_ContinueAt
theorem sg_spec_ContinueAt (args : List AV) : S_spec_ContinueAt.sem args = semF X_spec_ContinueAt F_spec_ContinueAt none false args := rfl
theorem cl_spec_ContinueAt (args hp) : callS G_spec_ContinueAt args hp = byvS S_spec_ContinueAt args hp := callS_byv rfl rfl args hp
theorem ok_spec_ContinueAt : InlOk Tryz.prog 109 (callS G_spec_ContinueAt) := byv_none co_spec_ContinueAt Tryz.func109 r_spec_ContinueAt rfl (fun _ _ h => h)
def F_spec_l20Wake : RF := ⟨31, 2, [],
  .seq (.reg [o 4 (.mv (.t 1)), o 5 (.mv (.t 0)), o 6 (.nck (.t 5)), o 7 (.fa 2 (.t 6)), o 8 (.ld 1 false (.t 7)), o 9 (.len false (.t 8)), o 10 (.bin .sub (.t 9) (.c (.int .i64 1))), o 11 (.call 50 [(.t 4), (.c (.int .i64 0)), (.t 10)]), o 12 (.mv (.t 11)), ⟨some 13, some (12, true), .mv (.t 0)⟩, ⟨some 14, some (12, true), .nck (.t 13)⟩, ⟨some 15, some (12, true), .fa 1 (.t 14)⟩, ⟨some 16, some (12, true), .ld 1 false (.t 15)⟩, ⟨some 17, some (12, true), .mv (.t 1)⟩, ⟨some 18, some (12, true), .call 118 [(.t 16), (.t 17)]⟩, ⟨some 19, some (12, true), .un .not (.t 18)⟩, o 20 (.pick (.t 12) (.t 19) (.c (.bool false)))]) (.cond (.t 20) (.reg [o 21 (.mv (.t 0)), o 22 (.mv (.t 0)), o 23 (.nck (.t 22)), o 24 (.fa 1 (.t 23)), o 25 (.ld 1 false (.t 24)), o 26 (.mv (.t 1)), o 27 (.bsl 1 [(.t 26)]), o 28 (.app true 1 8 (.t 25) (.t 27)), o 29 (.nck (.t 21)), o 30 (.fa 1 (.t 29)), ⟨none, none, .st 1 (.t 30) (.t 28)⟩]) (.skip))⟩
def K_spec_l20Wake : Keeps := []
theorem r_spec_l20Wake : resolveF Tryz.prog Tryz.f120 K_spec_l20Wake = some F_spec_l20Wake := by kernel_rfl
def X_spec_l20Wake : Ctx := Ctx.cons 50 G_spec_l01In (Ctx.cons 118 G_spec_l12In (fun _ => none))
theorem co_spec_l20Wake : CtxOk Tryz.prog X_spec_l20Wake := CtxOk.cons (CtxOk.cons (CtxOk.nil) ok_spec_l12In) ok_spec_l01In
theorem cx_spec_l20Wake : (CX X_spec_l20Wake 50 G_spec_l01In false) ∧ (CX X_spec_l20Wake 118 G_spec_l12In false) := ⟨cxI rfl rfl, cxI rfl rfl⟩
def G_spec_l20Wake : CK := .inl (runF X_spec_l20Wake F_spec_l20Wake)
theorem cl_spec_l20Wake (args hp) : callS G_spec_l20Wake args hp = runF X_spec_l20Wake F_spec_l20Wake args hp := rfl
theorem ok_spec_l20Wake : InlOk Tryz.prog 120 (callS G_spec_l20Wake) := runF_ok co_spec_l20Wake Tryz.func120 r_spec_l20Wake
def F_spec_l21Unlock : RF := ⟨20, 2, [],
  .seq (.seq (.reg [o 4 (.mv (.t 0)), o 5 (.nck (.t 4)), o 6 (.fa 3 (.t 5)), o 7 (.ld 1 false (.t 6)), o 8 (.len false (.t 7)), o 9 (.bin .gtr (.t 8) (.c (.int .i64 0)))]) (.cond (.t 9) (.reg [o 10 (.mv (.t 0)), o 11 (.nck (.t 10)), o 12 (.fa 3 (.t 11)), o 13 (.ld 1 false (.t 12)), o 14 (.ia 1 (.t 13) (.c (.int .i64 0))), ⟨none, none, .st 1 (.t 14) (.c (.int .i64 0))⟩]) (.skip))) (.reg [o 15 (.mv (.t 0)), o 16 (.nck (.t 15)), o 17 (.fa 5 (.t 16)), o 18 (.mv (.t 1)), o 19 (.call 120 [(.t 17), (.t 18)])])⟩
def K_spec_l21Unlock : Keeps := []
theorem r_spec_l21Unlock : resolveF Tryz.prog Tryz.f110 K_spec_l21Unlock = some F_spec_l21Unlock := by kernel_rfl
def X_spec_l21Unlock : Ctx := Ctx.cons 120 G_spec_l20Wake (fun _ => none)
theorem co_spec_l21Unlock : CtxOk Tryz.prog X_spec_l21Unlock := CtxOk.cons (CtxOk.nil) ok_spec_l20Wake
theorem cx_spec_l21Unlock : (CX X_spec_l21Unlock 120 G_spec_l20Wake true) := cxI rfl rfl
def G_spec_l21Unlock : CK := .inl (runF X_spec_l21Unlock F_spec_l21Unlock)
theorem cl_spec_l21Unlock (args hp) : callS G_spec_l21Unlock args hp = runF X_spec_l21Unlock F_spec_l21Unlock args hp := rfl
theorem ok_spec_l21Unlock : InlOk Tryz.prog 110 (callS G_spec_l21Unlock) := runF_ok co_spec_l21Unlock Tryz.func110 r_spec_l21Unlock
def F_spec_l21Gate : RF := ⟨161, 5, [],
  .seq (.reg [o 19 (.mv (.t 0)), o 20 (.nck (.t 19)), o 21 (.fa 4 (.t 20)), o 22 (.ld 1 false (.t 21)), o 23 (.mv (.t 1)), o 24 (.ia 3 (.t 22) (.t 23)), o 25 (.ld 3 true (.t 24)), o 10 (.new [(.nil 1), (.int .i64 0), (.int .i64 0)]), ⟨none, none, .st 3 (.t 10) (.t 25)⟩]) (.seq (.reg [o 26 (.fa 2 (.t 10)), o 27 (.ld 1 false (.t 26)), o 11 (.mv (.t 27))]) (.seq (.seq (.reg [o 28 (.mv (.t 3)), o 29 (.mv (.t 0)), o 30 (.nck (.t 29)), o 31 (.fa 5 (.t 30)), o 32 (.fa 0 (.t 31)), o 33 (.ld 1 false (.t 32)), o 34 (.len false (.t 33)), o 35 (.bin .sub (.t 34) (.c (.int .i64 1))), o 36 (.call 50 [(.t 28), (.c (.int .i64 0)), (.t 35)]), o 37 (.un .not (.t 36))]) (.cond (.t 37) (.seq (.reg [o 38 (.mv (.t 0)), o 39 (.mv (.t 11)), o 40 (.call 55 [(.t 38), (.t 39), (.c (.int .i64 4))])]) (.ret)) (.skip))) (.seq (.reg [o 41 (.mv (.t 0)), o 42 (.nck (.t 41)), o 43 (.fa 5 (.t 42)), o 44 (.fa 0 (.t 43)), o 45 (.ld 1 false (.t 44)), o 46 (.mv (.t 3)), o 47 (.ia 3 (.t 45) (.t 46)), o 48 (.ld 3 true (.t 47)), o 12 (.new [(.int .i64 0), (.nil 1), (.nil 1)]), ⟨none, none, .st 3 (.t 12) (.t 48)⟩]) (.seq (.reg [o 13 (.mv (.c (.int .i64 (-1))))]) (.seq (.seq (.reg [o 49 (.mv (.t 2))]) (.block 0 (.seq (.reg [o 68 (.bin .eql (.t 49) (.c (.int .i64 1))), o 67 (.mv (.t 68))]) (.cond (.t 67) (.seq (.reg [o 70 (.ld 3 true (.t 12)), o 71 (.mv (.t 11)), o 72 (.call 105 [(.t 70), (.t 71)]), o 69 (.mv (.t 72)), o 73 (.ex (.t 69) 0), o 74 (.ex (.t 69) 1), o 14 (.new [(.int .i64 0), (.nil 1), (.nil 1)]), ⟨none, none, .st 3 (.t 14) (.t 73)⟩, o 15 (.mv (.t 74))]) (.seq (.regd [(0, o 75 (.mv (.t 0))), (0, o 76 (.nck (.t 75))), (0, o 77 (.fa 5 (.t 76))), (0, o 78 (.fa 0 (.t 77))), (1, o 79 (.ld 1 false (.t 78))), (0, o 80 (.mv (.t 3))), (1, o 81 (.ld 3 true (.t 14))), (1, o 82 (.ia 3 (.t 79) (.t 80))), (1, ⟨none, none, .st 3 (.t 82) (.t 81)⟩)] []) (.seq (.reg [o 83 (.mv (.t 0)), o 84 (.mv (.t 11)), o 85 (.mv (.t 3)), o 86 (.call 87 [(.t 83), (.t 84), (.c (.int .i64 1)), (.t 85)])]) (.seq (.reg [o 87 (.mv (.t 15)), o 88 (.un .not (.t 87))]) (.cond (.t 88) (.seq (.regd [(0, o 89 (.mv (.t 0))), (0, o 90 (.nck (.t 89))), (0, o 91 (.fa 5 (.t 90))), (1, o 92 (.ld 3 true (.t 10))), (1, o 93 (.call 106 [(.t 91), (.t 92)]))] []) (.regd [(0, o 94 (.mv (.t 0))), (0, o 95 (.nck (.t 94))), (0, o 96 (.fa 4 (.t 95))), (2, o 97 (.ld 1 false (.t 96))), (0, o 98 (.mv (.t 1))), (2, o 99 (.call 81 [])), (1, o 100 (.ia 3 (.t 97) (.t 98))), (1, ⟨none, none, .st 3 (.t 100) (.t 99)⟩)] [(3, 5)])) (.skip)))))) (.seq (.reg [o 102 (.bin .eql (.t 49) (.c (.int .i64 2))), o 101 (.mv (.t 102))]) (.cond (.t 101) (.seq (.regd [(0, o 104 (.mv (.t 0))), (0, o 105 (.nck (.t 104))), (0, o 106 (.fa 5 (.t 105))), (0, o 107 (.fa 0 (.t 106))), (2, o 108 (.ld 1 false (.t 107))), (0, o 109 (.mv (.t 3))), (1, o 110 (.ld 3 true (.t 12))), (2, o 111 (.call 107 [(.t 110)])), (0, o 103 (.mv (.t 111))), (0, o 112 (.ex (.t 103) 0)), (0, o 113 (.ex (.t 103) 1)), (1, o 114 (.ia 3 (.t 108) (.t 109))), (1, ⟨none, none, .st 3 (.t 114) (.t 112)⟩), (0, o 13 (.mv (.t 113)))] [(4, 7)]) (.reg [o 115 (.mv (.t 0)), o 116 (.mv (.t 11)), o 117 (.mv (.t 3)), o 118 (.call 87 [(.t 115), (.t 116), (.c (.int .i64 2)), (.t 117)])])) (.seq (.reg [o 120 (.bin .eql (.t 49) (.c (.int .i64 3))), o 119 (.mv (.t 120))]) (.cond (.t 119) (.seq (.reg [o 122 (.ld 3 true (.t 12)), o 123 (.mv (.t 4)), o 124 (.call 108 [(.t 122), (.t 123)]), o 121 (.mv (.t 124)), o 125 (.ex (.t 121) 0), o 126 (.ex (.t 121) 1), o 127 (.ex (.t 121) 2), o 16 (.new [(.int .i64 0), (.nil 1), (.nil 1)]), ⟨none, none, .st 3 (.t 16) (.t 125)⟩, o 17 (.mv (.t 126)), o 18 (.mv (.t 127))]) (.seq (.seq (.reg [o 128 (.mv (.t 18)), o 129 (.un .not (.t 128))]) (.cond (.t 129) (.seq (.reg [o 130 (.mv (.t 0)), o 131 (.mv (.t 11)), o 132 (.call 55 [(.t 130), (.t 131), (.c (.int .i64 3))])]) (.ret)) (.skip))) (.seq (.regd [(0, o 133 (.mv (.t 0))), (0, o 134 (.nck (.t 133))), (0, o 135 (.fa 5 (.t 134))), (0, o 136 (.fa 0 (.t 135))), (1, o 137 (.ld 1 false (.t 136))), (0, o 138 (.mv (.t 3))), (1, o 139 (.ld 3 true (.t 16))), (1, o 140 (.ia 3 (.t 137) (.t 138))), (1, ⟨none, none, .st 3 (.t 140) (.t 139)⟩)] []) (.seq (.reg [o 141 (.mv (.t 17)), o 13 (.mv (.t 141))]) (.seq (.reg [o 142 (.mv (.t 0)), o 143 (.mv (.t 11)), o 144 (.mv (.t 3)), o 145 (.call 87 [(.t 142), (.t 143), (.c (.int .i64 3)), (.t 144)])]) (.seq (.regd [(0, o 146 (.mv (.t 0))), (0, o 147 (.nck (.t 146))), (0, o 148 (.fa 5 (.t 147))), (1, o 149 (.ld 3 true (.t 10))), (1, o 150 (.call 106 [(.t 148), (.t 149)]))] []) (.regd [(0, o 151 (.mv (.t 0))), (0, o 152 (.nck (.t 151))), (0, o 153 (.fa 4 (.t 152))), (2, o 154 (.ld 1 false (.t 153))), (0, o 155 (.mv (.t 1))), (2, o 156 (.call 81 [])), (1, o 157 (.ia 3 (.t 154) (.t 155))), (1, ⟨none, none, .st 3 (.t 157) (.t 156)⟩)] [(3, 5)]))))))) (.seq (.regd [(0, o 51 (.mv (.t 0))), (0, o 52 (.nck (.t 51))), (0, o 53 (.fa 5 (.t 52))), (0, o 54 (.fa 0 (.t 53))), (2, o 55 (.ld 1 false (.t 54))), (0, o 56 (.mv (.t 3))), (1, o 57 (.ld 3 true (.t 12))), (0, o 58 (.mv (.t 4))), (2, o 59 (.call 109 [(.t 57), (.t 58)])), (0, o 50 (.mv (.t 59))), (0, o 60 (.ex (.t 50) 0)), (0, o 61 (.ex (.t 50) 1)), (1, o 62 (.ia 3 (.t 55) (.t 56))), (1, ⟨none, none, .st 3 (.t 62) (.t 60)⟩), (0, o 13 (.mv (.t 61)))] [(4, 8)]) (.reg [o 63 (.mv (.t 0)), o 64 (.mv (.t 11)), o 65 (.mv (.t 3)), o 66 (.call 87 [(.t 63), (.t 64), (.c (.int .i64 4)), (.t 65)])])))))))))) (.reg [o 158 (.mv (.t 0)), o 159 (.mv (.t 13)), o 160 (.call 110 [(.t 158), (.t 159)])]))))))⟩
def K_spec_l21Gate : Keeps := []
theorem r_spec_l21Gate : resolveF Tryz.prog Tryz.f86 K_spec_l21Gate = some F_spec_l21Gate := by kernel_rfl
def X_spec_l21Gate : Ctx := Ctx.cons 50 G_spec_l01In (Ctx.cons 55 G_spec_l21Fault (Ctx.cons 105 G_spec_Arrive (Ctx.cons 87 G_spec_l21Tell (Ctx.cons 106 G_spec_l20Hold (Ctx.cons 81 G_spec_CoreNew (Ctx.cons 107 G_spec_Leave (Ctx.cons 108 G_spec_DelayIn (Ctx.cons 109 G_spec_ContinueAt (Ctx.cons 110 G_spec_l21Unlock (fun _ => none))))))))))
theorem co_spec_l21Gate : CtxOk Tryz.prog X_spec_l21Gate := CtxOk.cons (CtxOk.cons (CtxOk.cons (CtxOk.cons (CtxOk.cons (CtxOk.cons (CtxOk.cons (CtxOk.cons (CtxOk.cons (CtxOk.cons (CtxOk.nil) ok_spec_l21Unlock) ok_spec_ContinueAt) ok_spec_DelayIn) ok_spec_Leave) ok_spec_CoreNew) ok_spec_l20Hold) ok_spec_l21Tell) ok_spec_Arrive) ok_spec_l21Fault) ok_spec_l01In
theorem cx_spec_l21Gate : (CX X_spec_l21Gate 50 G_spec_l01In false) ∧ (CX X_spec_l21Gate 55 G_spec_l21Fault true) ∧ (CX X_spec_l21Gate 105 G_spec_Arrive false) ∧ (CX X_spec_l21Gate 87 G_spec_l21Tell true) ∧ (CX X_spec_l21Gate 106 G_spec_l20Hold true) ∧ (CX X_spec_l21Gate 81 G_spec_CoreNew false) ∧ (CX X_spec_l21Gate 107 G_spec_Leave false) ∧ (CX X_spec_l21Gate 108 G_spec_DelayIn false) ∧ (CX X_spec_l21Gate 109 G_spec_ContinueAt false) ∧ (CX X_spec_l21Gate 110 G_spec_l21Unlock true) := ⟨cxI rfl rfl, cxI rfl rfl, cxI rfl rfl, cxI rfl rfl, cxI rfl rfl, cxI rfl rfl, cxI rfl rfl, cxI rfl rfl, cxI rfl rfl, cxI rfl rfl⟩
def G_spec_l21Gate : CK := .inl (runF X_spec_l21Gate F_spec_l21Gate)
theorem cl_spec_l21Gate (args hp) : callS G_spec_l21Gate args hp = runF X_spec_l21Gate F_spec_l21Gate args hp := rfl
theorem ok_spec_l21Gate : InlOk Tryz.prog 86 (callS G_spec_l21Gate) := runF_ok co_spec_l21Gate Tryz.func86 r_spec_l21Gate
def F_spec_l21Sys : RF := ⟨121, 3, [],
  .seq (.reg [o 5 (.box (.t 2))]) (.seq (.reg [o 8 (.mv (.t 0)), o 9 (.nck (.t 8)), o 10 (.fa 4 (.t 9)), o 11 (.ld 1 false (.t 10)), o 12 (.mv (.t 1)), o 13 (.ia 3 (.t 11) (.t 12)), o 14 (.fa 2 (.t 13)), o 15 (.ld 1 false (.t 14)), o 6 (.mv (.t 15))]) (.seq (.reg [o 16 (.fa 1 (.t 5)), o 17 (.ld 1 false (.t 16))]) (.block 0 (.seq (.seq (.reg [o 45 (.bin .eql (.t 17) (.c (.int .i64 1))), o 44 (.mv (.t 45))]) (.cond (.t 44) (.skip) (.reg [o 46 (.bin .eql (.t 17) (.c (.int .i64 2))), o 44 (.mv (.t 46))]))) (.cond (.t 44) (.reg [o 47 (.mv (.t 0)), o 48 (.mv (.t 1)), o 49 (.fa 1 (.t 5)), o 50 (.ld 1 false (.t 49)), o 51 (.fa 3 (.t 5)), o 52 (.ld 1 false (.t 51)), o 53 (.call 86 [(.t 47), (.t 48), (.t 50), (.t 52), (.c (.int .i64 0))])]) (.seq (.seq (.reg [o 55 (.bin .eql (.t 17) (.c (.int .i64 3))), o 54 (.mv (.t 55))]) (.cond (.t 54) (.skip) (.reg [o 56 (.bin .eql (.t 17) (.c (.int .i64 4))), o 54 (.mv (.t 56))]))) (.cond (.t 54) (.reg [o 57 (.mv (.t 0)), o 58 (.mv (.t 1)), o 59 (.fa 1 (.t 5)), o 60 (.ld 1 false (.t 59)), o 61 (.fa 3 (.t 5)), o 62 (.ld 1 false (.t 61)), o 63 (.bin .quo (.t 62) (.c (.int .i64 2))), o 64 (.fa 3 (.t 5)), o 65 (.ld 1 false (.t 64)), o 66 (.bin .rem (.t 65) (.c (.int .i64 2))), o 67 (.call 86 [(.t 57), (.t 58), (.t 60), (.t 63), (.t 66)])]) (.seq (.reg [o 69 (.bin .eql (.t 17) (.c (.int .i64 5))), o 68 (.mv (.t 69))]) (.cond (.t 68) (.reg [o 70 (.mv (.t 0)), o 71 (.mv (.t 6)), o 72 (.mv (.t 0)), o 73 (.nck (.t 72)), o 74 (.fa 4 (.t 73)), o 75 (.ld 1 false (.t 74)), o 76 (.mv (.t 1)), o 77 (.ia 3 (.t 75) (.t 76)), o 78 (.fa 0 (.t 77)), o 79 (.ld 1 false (.t 78)), o 80 (.ia 1 (.t 79) (.c (.int .i64 0))), o 81 (.ld 1 false (.t 80)), o 82 (.call 87 [(.t 70), (.t 71), (.c (.int .i64 5)), (.t 81)])]) (.seq (.reg [o 84 (.bin .eql (.t 17) (.c (.int .i64 6))), o 83 (.mv (.t 84))]) (.cond (.t 83) (.seq (.reg [o 7 (.mv (.c (.int .i64 0)))]) (.seq (.seq (.reg [o 85 (.mv (.t 0)), o 86 (.nck (.t 85)), o 87 (.fa 9 (.t 86)), o 88 (.ld 1 false (.t 87)), o 89 (.len false (.t 88)), o 90 (.bin .gtr (.t 89) (.c (.int .i64 0)))]) (.cond (.t 90) (.seq (.reg [o 91 (.mv (.t 0)), o 92 (.nck (.t 91)), o 93 (.fa 9 (.t 92)), o 94 (.ld 1 false (.t 93)), o 95 (.ia 1 (.t 94) (.c (.int .i64 0))), o 96 (.ld 1 false (.t 95)), o 7 (.mv (.t 96))]) (.reg [o 97 (.mv (.t 0)), o 98 (.bsl 1 []), o 99 (.mv (.t 0)), o 100 (.nck (.t 99)), o 101 (.fa 9 (.t 100)), o 102 (.ld 1 false (.t 101)), o 103 (.slc false 1 (.t 102) (some (.c (.int .i64 1))) none), o 104 (.app true 1 8 (.t 98) (.t 103)), o 105 (.nck (.t 97)), o 106 (.fa 9 (.t 105)), ⟨none, none, .st 1 (.t 106) (.t 104)⟩])) (.skip))) (.seq (.reg [o 107 (.mv (.t 0)), o 108 (.nck (.t 107)), o 109 (.fa 4 (.t 108)), o 110 (.ld 1 false (.t 109)), o 111 (.mv (.t 1)), o 112 (.ia 3 (.t 110) (.t 111)), o 113 (.fa 0 (.t 112)), o 114 (.ld 1 false (.t 113)), o 115 (.mv (.t 7)), o 116 (.ia 1 (.t 114) (.c (.int .i64 0))), ⟨none, none, .st 1 (.t 116) (.t 115)⟩]) (.reg [o 117 (.mv (.t 0)), o 118 (.mv (.t 6)), o 119 (.mv (.t 7)), o 120 (.call 87 [(.t 117), (.t 118), (.c (.int .i64 6)), (.t 119)])])))) (.seq (.seq (.reg [o 18 (.mv (.t 6)), o 19 (.mv (.t 0)), o 20 (.nck (.t 19)), o 21 (.fa 5 (.t 20)), o 22 (.fa 3 (.t 21)), o 23 (.ld 1 false (.t 22)), o 24 (.len false (.t 23)), o 25 (.bin .sub (.t 24) (.c (.int .i64 1))), o 26 (.call 50 [(.t 18), (.c (.int .i64 0)), (.t 25)])]) (.cond (.t 26) (.reg [o 27 (.mv (.t 0)), o 28 (.nck (.t 27)), o 29 (.fa 5 (.t 28)), o 30 (.fa 3 (.t 29)), o 31 (.ld 1 false (.t 30)), o 32 (.mv (.t 6)), o 33 (.ia 1 (.t 31) (.t 32)), ⟨none, none, .st 1 (.t 33) (.c (.bool true))⟩]) (.skip))) (.seq (.reg [o 34 (.mv (.t 0)), o 35 (.mv (.t 6)), o 36 (.call 87 [(.t 34), (.t 35), (.c (.int .i64 7)), (.c (.int .i64 0))])]) (.regd [(0, o 37 (.mv (.t 0))), (0, o 38 (.nck (.t 37))), (0, o 39 (.fa 4 (.t 38))), (2, o 40 (.ld 1 false (.t 39))), (0, o 41 (.mv (.t 1))), (2, o 42 (.call 81 [])), (1, o 43 (.ia 3 (.t 40) (.t 41))), (1, ⟨none, none, .st 3 (.t 43) (.t 42)⟩)] [(3, 5)]))))))))))))))⟩
def K_spec_l21Sys : Keeps := []
theorem r_spec_l21Sys : resolveF Tryz.prog Tryz.f54 K_spec_l21Sys = some F_spec_l21Sys := by kernel_rfl
def X_spec_l21Sys : Ctx := Ctx.cons 86 G_spec_l21Gate (Ctx.cons 87 G_spec_l21Tell (Ctx.cons 50 G_spec_l01In (Ctx.cons 81 G_spec_CoreNew (fun _ => none))))
theorem co_spec_l21Sys : CtxOk Tryz.prog X_spec_l21Sys := CtxOk.cons (CtxOk.cons (CtxOk.cons (CtxOk.cons (CtxOk.nil) ok_spec_CoreNew) ok_spec_l01In) ok_spec_l21Tell) ok_spec_l21Gate
theorem cx_spec_l21Sys : (CX X_spec_l21Sys 86 G_spec_l21Gate true) ∧ (CX X_spec_l21Sys 87 G_spec_l21Tell true) ∧ (CX X_spec_l21Sys 50 G_spec_l01In false) ∧ (CX X_spec_l21Sys 81 G_spec_CoreNew false) := ⟨cxI rfl rfl, cxI rfl rfl, cxI rfl rfl, cxI rfl rfl⟩
def G_spec_l21Sys : CK := .inl (runF X_spec_l21Sys F_spec_l21Sys)
theorem cl_spec_l21Sys (args hp) : callS G_spec_l21Sys args hp = runF X_spec_l21Sys F_spec_l21Sys args hp := rfl
theorem ok_spec_l21Sys : InlOk Tryz.prog 54 (callS G_spec_l21Sys) := runF_ok co_spec_l21Sys Tryz.func54 r_spec_l21Sys
def F_spec_l21Step : RF := ⟨109, 2, [.t 4],
  .seq (.reg [o 4 (.mv (.c (.bool false)))]) (.seq (.seq (.reg [o 12 (.mv (.t 0)), o 13 (.nck (.t 12)), o 14 (.fa 11 (.t 13)), o 15 (.ld 1 false (.t 14)), o 16 (.mv (.t 15)), ⟨some 17, some (16, false), .mv (.t 1)⟩, ⟨some 18, some (16, false), .mv (.t 0)⟩, ⟨some 19, some (16, false), .nck (.t 18)⟩, ⟨some 20, some (16, false), .fa 4 (.t 19)⟩, ⟨some 21, some (16, false), .ld 1 false (.t 20)⟩, ⟨some 22, some (16, false), .len false (.t 21)⟩, ⟨some 23, some (16, false), .bin .sub (.t 22) (.c (.int .i64 1))⟩, ⟨some 24, some (16, false), .call 50 [(.t 17), (.c (.int .i64 0)), (.t 23)]⟩, ⟨some 25, some (16, false), .un .not (.t 24)⟩, o 26 (.pick (.t 16) (.c (.bool true)) (.t 25))]) (.cond (.t 26) (.seq (.reg [o 4 (.mv (.c (.bool false)))]) (.ret)) (.skip))) (.seq (.seq (.reg [o 27 (.mv (.t 0)), o 28 (.nck (.t 27)), o 29 (.fa 4 (.t 28)), o 30 (.ld 1 false (.t 29)), o 31 (.mv (.t 1)), o 32 (.ia 3 (.t 30) (.t 31)), o 33 (.fa 2 (.t 32)), o 34 (.ld 1 false (.t 33)), o 35 (.bin .lss (.t 34) (.c (.int .i64 0)))]) (.cond (.t 35) (.seq (.reg [o 37 (.mv (.t 0)), o 38 (.nck (.t 37)), o 39 (.fa 5 (.t 38)), o 40 (.call 51 [(.t 39)]), o 36 (.mv (.t 40)), o 41 (.ex (.t 36) 0), o 42 (.ex (.t 36) 1), o 5 (.new [(.nil 1), (.int .i64 0), (.int .i64 0)]), ⟨none, none, .st 3 (.t 5) (.t 41)⟩, o 6 (.mv (.t 42))]) (.seq (.seq (.reg [o 43 (.mv (.t 6))]) (.cond (.t 43) (.regd [(0, o 44 (.mv (.t 0))), (0, o 45 (.nck (.t 44))), (0, o 46 (.fa 4 (.t 45))), (1, o 47 (.ld 1 false (.t 46))), (0, o 48 (.mv (.t 1))), (1, o 49 (.ld 3 true (.t 5))), (1, o 50 (.ia 3 (.t 47) (.t 48))), (1, ⟨none, none, .st 3 (.t 50) (.t 49)⟩)] []) (.skip))) (.seq (.reg [o 51 (.mv (.t 6)), o 4 (.mv (.t 51))]) (.ret)))) (.skip))) (.seq (.reg [o 52 (.mv (.t 0)), o 53 (.nck (.t 52)), o 54 (.fa 4 (.t 53)), o 55 (.ld 1 false (.t 54)), o 56 (.mv (.t 1)), o 57 (.ia 3 (.t 55) (.t 56)), o 58 (.fa 1 (.t 57)), o 59 (.ld 1 false (.t 58)), o 7 (.mv (.t 59))]) (.seq (.reg [o 60 (.mv (.t 0)), o 61 (.nck (.t 60)), o 62 (.fa 4 (.t 61)), o 63 (.ld 1 false (.t 62)), o 64 (.mv (.t 1)), o 65 (.ia 3 (.t 63) (.t 64)), o 66 (.fa 2 (.t 65)), o 67 (.ld 1 false (.t 66)), o 8 (.mv (.t 67))]) (.seq (.regd [(0, o 68 (.mv (.t 0))), (0, o 69 (.nck (.t 68))), (0, o 70 (.fa 4 (.t 69))), (1, o 71 (.ld 1 false (.t 70))), (0, o 72 (.mv (.t 1))), (1, o 73 (.ia 3 (.t 71) (.t 72))), (0, o 74 (.mv (.t 0))), (0, o 75 (.nck (.t 74))), (0, o 76 (.fa 0 (.t 75))), (0, o 77 (.fa 0 (.t 76))), (1, o 78 (.ld 1 false (.t 77))), (0, o 79 (.mv (.t 0))), (0, o 80 (.nck (.t 79))), (0, o 81 (.fa 3 (.t 80))), (1, o 82 (.ld 1 false (.t 81))), (1, o 83 (.call 52 [(.t 73), (.t 78), (.t 82)])), (0, o 9 (.mv (.t 83)))] []) (.seq (.seq (.reg [o 84 (.mv (.t 9))]) (.block 0 (.seq (.reg [o 90 (.bin .eql (.t 84) (.c (.int .i64 0))), o 89 (.mv (.t 90))]) (.cond (.t 89) (.skip) (.seq (.reg [o 92 (.bin .eql (.t 84) (.c (.int .i64 10))), o 91 (.mv (.t 92))]) (.cond (.t 91) (.seq (.reg [o 94 (.mv (.t 0)), o 95 (.nck (.t 94)), o 96 (.fa 0 (.t 95)), o 97 (.fa 0 (.t 96)), o 98 (.ld 1 false (.t 97)), o 99 (.mv (.t 7)), o 100 (.ia 1 (.t 98) (.t 99)), o 101 (.ld 1 false (.t 100)), o 102 (.call 53 [(.t 101)]), o 93 (.mv (.t 102)), o 103 (.ex (.t 93) 0), o 104 (.ex (.t 93) 1), o 10 (.new [(.int .i64 0), (.int .i64 0), (.int .i64 0), (.int .i64 0)]), ⟨none, none, .st 4 (.t 10) (.t 103)⟩, o 11 (.mv (.t 104))]) (.reg [o 105 (.mv (.t 0)), o 106 (.mv (.t 1)), o 107 (.ld 4 true (.t 10)), o 108 (.call 54 [(.t 105), (.t 106), (.t 107)])])) (.reg [o 85 (.mv (.t 0)), o 86 (.mv (.t 8)), o 87 (.mv (.t 9)), o 88 (.call 55 [(.t 85), (.t 86), (.t 87)])]))))))) (.seq (.reg [o 4 (.mv (.c (.bool true)))]) (.ret))))))))⟩
def K_spec_l21Step : Keeps := []
theorem r_spec_l21Step : resolveF Tryz.prog Tryz.f17 K_spec_l21Step = some F_spec_l21Step := by kernel_rfl
def X_spec_l21Step : Ctx := Ctx.cons 50 G_spec_l01In (Ctx.cons 51 G_spec_l20Pick (Ctx.cons 52 G_spec_l15Step (Ctx.cons 53 G_spec_Decode (Ctx.cons 54 G_spec_l21Sys (Ctx.cons 55 G_spec_l21Fault (fun _ => none))))))
theorem co_spec_l21Step : CtxOk Tryz.prog X_spec_l21Step := CtxOk.cons (CtxOk.cons (CtxOk.cons (CtxOk.cons (CtxOk.cons (CtxOk.cons (CtxOk.nil) ok_spec_l21Fault) ok_spec_l21Sys) ok_spec_Decode) ok_spec_l15Step) ok_spec_l20Pick) ok_spec_l01In
theorem cx_spec_l21Step : (CX X_spec_l21Step 50 G_spec_l01In false) ∧ (CX X_spec_l21Step 51 G_spec_l20Pick true) ∧ (CX X_spec_l21Step 52 G_spec_l15Step true) ∧ (CX X_spec_l21Step 53 G_spec_Decode false) ∧ (CX X_spec_l21Step 54 G_spec_l21Sys true) ∧ (CX X_spec_l21Step 55 G_spec_l21Fault true) := ⟨cxI rfl rfl, cxI rfl rfl, cxI rfl rfl, cxI rfl rfl, cxI rfl rfl, cxI rfl rfl⟩
def G_spec_l21Step : CK := .inl (runF X_spec_l21Step F_spec_l21Step)
theorem cl_spec_l21Step (args hp) : callS G_spec_l21Step args hp = runF X_spec_l21Step F_spec_l21Step args hp := rfl
theorem ok_spec_l21Step : InlOk Tryz.prog 17 (callS G_spec_l21Step) := runF_ok co_spec_l21Step Tryz.func17 r_spec_l21Step
def F_spec_StepMachine : RF := ⟨14, 2, [.cell 4 12 true, .t 5],
  .seq (.reg [o 2 (.box (.t 0)), o 4 (.new [(.nil 1), (.nil 1), (.int .i64 0), (.nil 1), (.nil 3), (.nil 3), (.nil 1), (.nil 3), (.nil 1), (.nil 1), (.nil 3), (.bool false)]), o 5 (.mv (.c (.bool false)))]) (.seq (.reg [o 8 (.ld 12 true (.t 2)), o 9 (.call 16 [(.t 8)]), o 6 (.new [(.nil 1), (.nil 1), (.int .i64 0), (.nil 1), (.nil 3), (.nil 3), (.nil 1), (.nil 3), (.nil 1), (.nil 1), (.nil 3), (.bool false)]), ⟨none, none, .st 12 (.t 6) (.t 9)⟩]) (.seq (.reg [o 10 (.mv (.t 1)), o 11 (.call 17 [(.t 6), (.t 10)]), o 7 (.mv (.t 11))]) (.seq (.reg [o 12 (.ld 12 true (.t 6)), o 13 (.mv (.t 7)), ⟨none, none, .st 12 (.t 4) (.t 12)⟩, o 5 (.mv (.t 13))]) (.ret))))⟩
def K_spec_StepMachine : Keeps := []
theorem r_spec_StepMachine : resolveF Tryz.prog Tryz.f5 K_spec_StepMachine = some F_spec_StepMachine := by kernel_rfl
def X_spec_StepMachine : Ctx := Ctx.cons 16 G_spec_l21Copy (Ctx.cons 17 G_spec_l21Step (fun _ => none))
theorem co_spec_StepMachine : CtxOk Tryz.prog X_spec_StepMachine := CtxOk.cons (CtxOk.cons (CtxOk.nil) ok_spec_l21Step) ok_spec_l21Copy
theorem cx_spec_StepMachine : (CX X_spec_StepMachine 16 G_spec_l21Copy false) ∧ (CX X_spec_StepMachine 17 G_spec_l21Step true) := ⟨cxI rfl rfl, cxI rfl rfl⟩
def S_spec_StepMachine : ByV := ⟨none, false, semF X_spec_StepMachine F_spec_StepMachine none false⟩
def G_spec_StepMachine : CK := .byv S_spec_StepMachine
theorem sg_spec_StepMachine (args : List AV) : S_spec_StepMachine.sem args = semF X_spec_StepMachine F_spec_StepMachine none false args := rfl
theorem cl_spec_StepMachine (args hp) : callS G_spec_StepMachine args hp = byvS S_spec_StepMachine args hp := callS_byv rfl rfl args hp
theorem ok_spec_StepMachine : InlOk Tryz.prog 5 (callS G_spec_StepMachine) := byv_none co_spec_StepMachine Tryz.func5 r_spec_StepMachine rfl (fun _ _ h => h)
def F_impl_copyGate : RF := ⟨12, 1, [.cell 2 3 true],
  .seq (.reg [o 1 (.box (.t 0)), o 2 (.new [(.int .i64 0), (.nil 1), (.nil 1)])]) (.seq (.reg [o 3 (.fa 1 (.t 1)), o 4 (.ld 1 false (.t 3)), o 5 (.app true 1 8 (.c (.nil 1)) (.t 4)), o 6 (.fa 1 (.t 1)), ⟨none, none, .st 1 (.t 6) (.t 5)⟩]) (.seq (.reg [o 7 (.fa 2 (.t 1)), o 8 (.ld 1 false (.t 7)), o 9 (.app true 1 8 (.c (.nil 1)) (.t 8)), o 10 (.fa 2 (.t 1)), ⟨none, none, .st 1 (.t 10) (.t 9)⟩]) (.seq (.reg [o 11 (.ld 3 true (.t 1)), ⟨none, none, .st 3 (.t 2) (.t 11)⟩]) (.ret))))⟩
def K_impl_copyGate : Keeps := []
theorem r_impl_copyGate : resolveF Tryz.prog Tryz.f89 K_impl_copyGate = some F_impl_copyGate := by kernel_rfl
def X_impl_copyGate : Ctx := fun _ => none
theorem co_impl_copyGate : CtxOk Tryz.prog X_impl_copyGate := CtxOk.nil
theorem cx_impl_copyGate : True := trivial
def S_impl_copyGate : ByV := ⟨none, false, semF X_impl_copyGate F_impl_copyGate none false⟩
def G_impl_copyGate : CK := .byv S_impl_copyGate
theorem sg_impl_copyGate (args : List AV) : S_impl_copyGate.sem args = semF X_impl_copyGate F_impl_copyGate none false args := rfl
theorem cl_impl_copyGate (args hp) : callS G_impl_copyGate args hp = byvS S_impl_copyGate args hp := callS_byv rfl rfl args hp
theorem ok_impl_copyGate : InlOk Tryz.prog 89 (callS G_impl_copyGate) := byv_none co_impl_copyGate Tryz.func89 r_impl_copyGate rfl (fun _ _ h => h)
def F_impl_copyCore : RF := ⟨8, 1, [.cell 2 3 true],
  .seq (.reg [o 1 (.box (.t 0)), o 2 (.new [(.nil 1), (.int .i64 0), (.int .i64 0)])]) (.seq (.reg [o 3 (.fa 0 (.t 1)), o 4 (.ld 1 false (.t 3)), o 5 (.app true 1 8 (.c (.nil 1)) (.t 4)), o 6 (.fa 0 (.t 1)), ⟨none, none, .st 1 (.t 6) (.t 5)⟩]) (.seq (.reg [o 7 (.ld 3 true (.t 1)), ⟨none, none, .st 3 (.t 2) (.t 7)⟩]) (.ret)))⟩
def K_impl_copyCore : Keeps := []
theorem r_impl_copyCore : resolveF Tryz.prog Tryz.f61 K_impl_copyCore = some F_impl_copyCore := by kernel_rfl
def X_impl_copyCore : Ctx := fun _ => none
theorem co_impl_copyCore : CtxOk Tryz.prog X_impl_copyCore := CtxOk.nil
theorem cx_impl_copyCore : True := trivial
def S_impl_copyCore : ByV := ⟨none, false, semF X_impl_copyCore F_impl_copyCore none false⟩
def G_impl_copyCore : CK := .byv S_impl_copyCore
theorem sg_impl_copyCore (args : List AV) : S_impl_copyCore.sem args = semF X_impl_copyCore F_impl_copyCore none false args := rfl
theorem cl_impl_copyCore (args hp) : callS G_impl_copyCore args hp = byvS S_impl_copyCore args hp := callS_byv rfl rfl args hp
theorem ok_impl_copyCore : InlOk Tryz.prog 61 (callS G_impl_copyCore) := byv_none co_impl_copyCore Tryz.func61 r_impl_copyCore rfl (fun _ _ h => h)
def B0_impl_copyKernel : RC :=
  .seq (.reg [o 19 (.bin .lss (.t 18) (.t 17))]) (.seq (.cond (.t 19) (.skip) (.exit 0)) (.seq (.block 1 (.seq (.reg [o 20 (.ia 3 (.t 16) (.t 18)), o 21 (.ld 3 true (.t 20)), o 5 (.new [(.int .i64 0), (.nil 1), (.nil 1)]), ⟨none, none, .st 3 (.t 5) (.t 21)⟩]) (.regd [(0, o 22 (.fa 0 (.t 3))), (2, o 23 (.ld 1 false (.t 22))), (1, o 24 (.ld 3 true (.t 5))), (2, o 25 (.call 89 [(.t 24)])), (2, o 26 (.bsl 3 [(.t 25)])), (1, o 27 (.app false 3 56 (.t 23) (.t 26))), (0, o 28 (.fa 0 (.t 3))), (1, ⟨none, none, .st 1 (.t 28) (.t 27)⟩)] [(1, 3), (1, 4)]))) (.reg [o 29 (.bin .add (.t 18) (.c (.int .i64 1))), o 18 (.mv (.t 29))])))
def B1_impl_copyKernel : RC :=
  .seq (.reg [o 34 (.bin .lss (.t 33) (.t 32))]) (.seq (.cond (.t 34) (.skip) (.exit 2)) (.seq (.block 3 (.seq (.reg [o 35 (.ia 3 (.t 31) (.t 33)), o 36 (.ld 3 true (.t 35)), o 7 (.new [(.nil 1), (.int .i64 0), (.int .i64 0)]), ⟨none, none, .st 3 (.t 7) (.t 36)⟩]) (.regd [(0, o 37 (.fa 2 (.t 3))), (2, o 38 (.ld 1 false (.t 37))), (1, o 39 (.ld 3 true (.t 7))), (2, o 40 (.call 61 [(.t 39)])), (2, o 41 (.bsl 3 [(.t 40)])), (1, o 42 (.app false 3 40 (.t 38) (.t 41))), (0, o 43 (.fa 2 (.t 3))), (1, ⟨none, none, .st 1 (.t 43) (.t 42)⟩)] [(1, 3), (1, 4)]))) (.reg [o 44 (.bin .add (.t 33) (.c (.int .i64 1))), o 33 (.mv (.t 44))])))
def F_impl_copyKernel : RF := ⟨46, 1, [.cell 2 4 true],
  .seq (.reg [o 1 (.box (.t 0)), o 2 (.new [(.nil 3), (.nil 1), (.nil 3), (.nil 1)])]) (.seq (.regd [(0, o 8 (.fa 1 (.t 1))), (2, o 9 (.ld 1 false (.t 8))), (2, o 10 (.app true 1 8 (.c (.nil 1)) (.t 9))), (0, o 11 (.fa 3 (.t 1))), (2, o 12 (.ld 1 false (.t 11))), (2, o 13 (.app true 1 1 (.c (.nil 1)) (.t 12))), (0, o 14 (.build [(.nil 3), (.nil 1), (.nil 3), (.nil 1)] [(1, 1, (.t 10)), (3, 1, (.t 13))])), (2, o 3 (.new [(.nil 3), (.nil 1), (.nil 3), (.nil 1)])), (1, ⟨none, none, .st 4 (.t 3) (.t 14)⟩)] [(2, 4), (1, 7), (2, 7), (4, 7), (5, 7)]) (.seq (.seq (.reg [o 15 (.fa 0 (.t 1)), o 16 (.ld 1 false (.t 15)), o 17 (.len false (.t 16)), o 18 (.mv (.c (.int .i64 0)))]) (.block 0 (.loop [1, 2, 3, 16, 17, 18] [(1, [1, 2, 3])] B0_impl_copyKernel))) (.seq (.seq (.reg [o 30 (.fa 2 (.t 1)), o 31 (.ld 1 false (.t 30)), o 32 (.len false (.t 31)), o 33 (.mv (.c (.int .i64 0)))]) (.block 2 (.loop [2, 3, 31, 32, 33] [(3, [2, 3])] B1_impl_copyKernel))) (.seq (.reg [o 45 (.ld 4 true (.t 3)), ⟨none, none, .st 4 (.t 2) (.t 45)⟩]) (.ret)))))⟩
def K_impl_copyKernel : Keeps := [([1, 2, 3, 16, 17, 18], [(1, [1, 2, 3])]), ([2, 3, 31, 32, 33], [(3, [2, 3])])]
theorem r_impl_copyKernel : resolveF Tryz.prog Tryz.f60 K_impl_copyKernel = some F_impl_copyKernel := by kernel_rfl
def X_impl_copyKernel : Ctx := Ctx.cons 89 G_impl_copyGate (Ctx.cons 61 G_impl_copyCore (fun _ => none))
theorem co_impl_copyKernel : CtxOk Tryz.prog X_impl_copyKernel := CtxOk.cons (CtxOk.cons (CtxOk.nil) ok_impl_copyCore) ok_impl_copyGate
theorem cx_impl_copyKernel : (CX X_impl_copyKernel 89 G_impl_copyGate false) ∧ (CX X_impl_copyKernel 61 G_impl_copyCore false) := ⟨cxI rfl rfl, cxI rfl rfl⟩
def S_impl_copyKernel : ByV := ⟨none, false, semF X_impl_copyKernel F_impl_copyKernel none false⟩
def G_impl_copyKernel : CK := .byv S_impl_copyKernel
theorem sg_impl_copyKernel (args : List AV) : S_impl_copyKernel.sem args = semF X_impl_copyKernel F_impl_copyKernel none false args := rfl
theorem cl_impl_copyKernel (args hp) : callS G_impl_copyKernel args hp = byvS S_impl_copyKernel args hp := callS_byv rfl rfl args hp
theorem ok_impl_copyKernel : InlOk Tryz.prog 60 (callS G_impl_copyKernel) := byv_none co_impl_copyKernel Tryz.func60 r_impl_copyKernel rfl (fun _ _ h => h)
def B0_impl_copyMachine : RC :=
  .seq (.reg [o 41 (.bin .lss (.t 40) (.t 39))]) (.seq (.cond (.t 41) (.skip) (.exit 0)) (.seq (.block 1 (.seq (.reg [o 42 (.ia 3 (.t 38) (.t 40)), o 43 (.ld 3 true (.t 42)), o 5 (.new [(.nil 1), (.int .i64 0), (.int .i64 0)]), ⟨none, none, .st 3 (.t 5) (.t 43)⟩]) (.regd [(0, o 44 (.fa 4 (.t 3))), (2, o 45 (.ld 1 false (.t 44))), (1, o 46 (.ld 3 true (.t 5))), (2, o 47 (.call 61 [(.t 46)])), (2, o 48 (.bsl 3 [(.t 47)])), (1, o 49 (.app false 3 40 (.t 45) (.t 48))), (0, o 50 (.fa 4 (.t 3))), (1, ⟨none, none, .st 1 (.t 50) (.t 49)⟩)] [(1, 3), (1, 4)]))) (.reg [o 51 (.bin .add (.t 40) (.c (.int .i64 1))), o 40 (.mv (.t 51))])))
def F_impl_copyMachine : RF := ⟨53, 1, [.cell 2 12 true],
  .seq (.reg [o 1 (.box (.t 0)), o 2 (.new [(.nil 1), (.nil 1), (.int .i64 0), (.nil 1), (.nil 3), (.nil 3), (.nil 1), (.nil 3), (.nil 1), (.nil 1), (.nil 3), (.bool false)])]) (.seq (.reg [o 6 (.ld 12 true (.t 1)), o 3 (.new [(.nil 1), (.nil 1), (.int .i64 0), (.nil 1), (.nil 3), (.nil 3), (.nil 1), (.nil 3), (.nil 1), (.nil 1), (.nil 3), (.bool false)]), ⟨none, none, .st 12 (.t 3) (.t 6)⟩]) (.seq (.regd [(0, o 7 (.fa 0 (.t 1))), (0, o 8 (.fa 0 (.t 7))), (1, o 9 (.ld 1 false (.t 8))), (2, o 10 (.app true 1 8 (.c (.nil 1)) (.t 9))), (0, o 11 (.fa 0 (.t 1))), (0, o 12 (.fa 1 (.t 11))), (2, o 13 (.ld 1 false (.t 12))), (2, o 14 (.app true 1 8 (.c (.nil 1)) (.t 13))), (0, o 15 (.fa 0 (.t 1))), (0, o 16 (.fa 2 (.t 15))), (2, o 17 (.ld 1 false (.t 16))), (0, o 18 (.build [(.nil 1), (.nil 1), (.int .i64 0)] [(0, 1, (.t 10)), (1, 1, (.t 14)), (2, 1, (.t 17))])), (0, o 19 (.fa 0 (.t 3))), (1, ⟨none, none, .st 3 (.t 19) (.t 18)⟩)] [(3, 6), (3, 10), (7, 10)]) (.seq (.reg [o 20 (.fa 3 (.t 1)), o 21 (.ld 1 false (.t 20)), o 22 (.app true 1 8 (.c (.nil 1)) (.t 21)), o 23 (.fa 3 (.t 3)), ⟨none, none, .st 1 (.t 23) (.t 22)⟩]) (.seq (.reg [o 24 (.fa 5 (.t 1)), o 25 (.ld 4 true (.t 24)), o 26 (.call 60 [(.t 25)]), o 27 (.fa 5 (.t 3)), ⟨none, none, .st 4 (.t 27) (.t 26)⟩]) (.seq (.reg [o 28 (.fa 9 (.t 1)), o 29 (.ld 1 false (.t 28)), o 30 (.app true 1 8 (.c (.nil 1)) (.t 29)), o 31 (.fa 9 (.t 3)), ⟨none, none, .st 1 (.t 31) (.t 30)⟩]) (.seq (.reg [o 32 (.fa 10 (.t 1)), o 33 (.ld 1 false (.t 32)), o 34 (.app true 3 24 (.c (.nil 3)) (.t 33)), o 35 (.fa 10 (.t 3)), ⟨none, none, .st 1 (.t 35) (.t 34)⟩]) (.seq (.reg [o 36 (.fa 4 (.t 3)), ⟨none, none, .st 1 (.t 36) (.c (.nil 3))⟩]) (.seq (.seq (.reg [o 37 (.fa 4 (.t 1)), o 38 (.ld 1 false (.t 37)), o 39 (.len false (.t 38)), o 40 (.mv (.c (.int .i64 0)))]) (.block 0 (.loop [2, 3, 38, 39, 40] [(1, [2, 3])] B0_impl_copyMachine))) (.seq (.reg [o 52 (.ld 12 true (.t 3)), ⟨none, none, .st 12 (.t 2) (.t 52)⟩]) (.ret))))))))))⟩
def K_impl_copyMachine : Keeps := [([2, 3, 38, 39, 40], [(1, [2, 3])])]
theorem r_impl_copyMachine : resolveF Tryz.prog Tryz.f23 K_impl_copyMachine = some F_impl_copyMachine := by kernel_rfl
def X_impl_copyMachine : Ctx := Ctx.cons 60 G_impl_copyKernel (Ctx.cons 61 G_impl_copyCore (fun _ => none))
theorem co_impl_copyMachine : CtxOk Tryz.prog X_impl_copyMachine := CtxOk.cons (CtxOk.cons (CtxOk.nil) ok_impl_copyCore) ok_impl_copyKernel
theorem cx_impl_copyMachine : (CX X_impl_copyMachine 60 G_impl_copyKernel false) ∧ (CX X_impl_copyMachine 61 G_impl_copyCore false) := ⟨cxI rfl rfl, cxI rfl rfl⟩
def S_impl_copyMachine : ByV := ⟨none, false, semF X_impl_copyMachine F_impl_copyMachine none false⟩
def G_impl_copyMachine : CK := .byv S_impl_copyMachine
theorem sg_impl_copyMachine (args : List AV) : S_impl_copyMachine.sem args = semF X_impl_copyMachine F_impl_copyMachine none false args := rfl
theorem cl_impl_copyMachine (args hp) : callS G_impl_copyMachine args hp = byvS S_impl_copyMachine args hp := callS_byv rfl rfl args hp
theorem ok_impl_copyMachine : InlOk Tryz.prog 23 (callS G_impl_copyMachine) := byv_none co_impl_copyMachine Tryz.func23 r_impl_copyMachine rfl (fun _ _ h => h)
def F_impl_within : RF := ⟨15, 3, [.t 6],
  .seq (.reg [o 6 (.mv (.c (.bool false)))]) (.seq (.reg [o 7 (.mv (.t 0)), o 8 (.mv (.t 1)), o 9 (.bin .geq (.t 7) (.t 8)), o 10 (.mv (.t 9)), ⟨some 11, some (10, true), .mv (.t 0)⟩, ⟨some 12, some (10, true), .mv (.t 2)⟩, ⟨some 13, some (10, true), .bin .leq (.t 11) (.t 12)⟩, o 14 (.pick (.t 10) (.t 13) (.c (.bool false))), o 6 (.mv (.t 14))]) (.ret))⟩
def K_impl_within : Keeps := []
theorem r_impl_within : resolveF Tryz.prog Tryz.f24 K_impl_within = some F_impl_within := by kernel_rfl
def X_impl_within : Ctx := fun _ => none
theorem co_impl_within : CtxOk Tryz.prog X_impl_within := CtxOk.nil
theorem cx_impl_within : True := trivial
def S_impl_within : ByV := ⟨none, false, semF X_impl_within F_impl_within none false⟩
def G_impl_within : CK := .byv S_impl_within
theorem sg_impl_within (args : List AV) : S_impl_within.sem args = semF X_impl_within F_impl_within none false args := rfl
theorem cl_impl_within (args hp) : callS G_impl_within args hp = byvS S_impl_within args hp := callS_byv rfl rfl args hp
theorem ok_impl_within : InlOk Tryz.prog 24 (callS G_impl_within) := byv_none co_impl_within Tryz.func24 r_impl_within rfl (fun _ _ h => h)
def F_impl_CoreNew : RF := ⟨3, 0, [.cell 0 3 true],
  .seq (.reg [o 0 (.new [(.nil 1), (.int .i64 0), (.int .i64 0)])]) (.seq (.reg [o 1 (.mk 1 [(.int .i64 0)] 8 (.c (.int .i64 8)) (.c (.int .i64 8))), o 2 (.build [(.nil 1), (.int .i64 0), (.int .i64 0)] [(0, 1, (.t 1)), (2, 1, (.c (.int .i64 (-1))))]), ⟨none, none, .st 3 (.t 0) (.t 2)⟩]) (.ret))⟩
def K_impl_CoreNew : Keeps := []
theorem r_impl_CoreNew : resolveF Tryz.prog Tryz.f62 K_impl_CoreNew = some F_impl_CoreNew := by kernel_rfl
def X_impl_CoreNew : Ctx := fun _ => none
theorem co_impl_CoreNew : CtxOk Tryz.prog X_impl_CoreNew := CtxOk.nil
theorem cx_impl_CoreNew : True := trivial
def S_impl_CoreNew : ByV := ⟨none, false, semF X_impl_CoreNew F_impl_CoreNew none false⟩
def G_impl_CoreNew : CK := .byv S_impl_CoreNew
theorem sg_impl_CoreNew (args : List AV) : S_impl_CoreNew.sem args = semF X_impl_CoreNew F_impl_CoreNew none false args := rfl
theorem cl_impl_CoreNew (args hp) : callS G_impl_CoreNew args hp = byvS S_impl_CoreNew args hp := callS_byv rfl rfl args hp
theorem ok_impl_CoreNew : InlOk Tryz.prog 62 (callS G_impl_CoreNew) := byv_none co_impl_CoreNew Tryz.func62 r_impl_CoreNew rfl (fun _ _ h => h)
def F_impl_Pick : RF := ⟨40, 1, [.cell 2 4 true, .cell 3 3 true, .t 4],
  .seq (.reg [o 1 (.box (.t 0)), o 2 (.new [(.nil 3), (.nil 1), (.nil 3), (.nil 1)]), o 3 (.new [(.nil 1), (.int .i64 0), (.int .i64 0)]), o 4 (.mv (.c (.bool false)))]) (.seq (.reg [o 6 (.ld 4 true (.t 1)), o 7 (.call 60 [(.t 6)]), o 5 (.new [(.nil 3), (.nil 1), (.nil 3), (.nil 1)]), ⟨none, none, .st 4 (.t 5) (.t 7)⟩]) (.seq (.seq (.regd [(0, o 8 (.fa 1 (.t 1))), (1, o 9 (.ld 1 false (.t 8))), (0, o 10 (.len false (.t 9))), (0, o 11 (.bin .eql (.t 10) (.c (.int .i64 0)))), (0, o 12 (.mv (.t 11))), (0, ⟨some 13, some (12, false), .fa 1 (.t 1)⟩), (1, ⟨some 14, some (12, false), .ld 1 false (.t 13)⟩), (1, ⟨some 15, some (12, false), .ia 1 (.t 14) (.c (.int .i64 0))⟩), (1, ⟨some 16, some (12, false), .ld 1 false (.t 15)⟩), (0, ⟨some 17, some (12, false), .fa 2 (.t 1)⟩), (1, ⟨some 18, some (12, false), .ld 1 false (.t 17)⟩), (0, ⟨some 19, some (12, false), .len false (.t 18)⟩), (0, ⟨some 20, some (12, false), .bin .sub (.t 19) (.c (.int .i64 1))⟩), (1, ⟨some 21, some (12, false), .call 24 [(.t 16), (.c (.int .i64 0)), (.t 20)]⟩), (0, ⟨some 22, some (12, false), .un .not (.t 21)⟩), (0, o 23 (.pick (.t 12) (.c (.bool true)) (.t 22)))] []) (.cond (.t 23) (.seq (.regd [(2, o 24 (.ld 4 true (.t 5))), (2, o 25 (.call 62 [])), (1, ⟨none, none, .st 4 (.t 2) (.t 24)⟩), (1, ⟨none, none, .st 3 (.t 3) (.t 25)⟩), (0, o 4 (.mv (.c (.bool false))))] [(0, 1)]) (.ret)) (.skip))) (.seq (.reg [o 26 (.fa 1 (.t 5)), o 27 (.ld 1 false (.t 26)), o 28 (.slc false 1 (.t 27) (some (.c (.int .i64 1))) none), o 29 (.fa 1 (.t 5)), ⟨none, none, .st 1 (.t 29) (.t 28)⟩]) (.seq (.regd [(2, o 30 (.ld 4 true (.t 5))), (0, o 31 (.fa 2 (.t 1))), (1, o 32 (.ld 1 false (.t 31))), (0, o 33 (.fa 1 (.t 1))), (1, o 34 (.ld 1 false (.t 33))), (1, o 35 (.ia 1 (.t 34) (.c (.int .i64 0)))), (1, o 36 (.ld 1 false (.t 35))), (1, o 37 (.ia 3 (.t 32) (.t 36))), (1, o 38 (.ld 3 true (.t 37))), (2, o 39 (.call 61 [(.t 38)])), (1, ⟨none, none, .st 4 (.t 2) (.t 30)⟩), (1, ⟨none, none, .st 3 (.t 3) (.t 39)⟩), (0, o 4 (.mv (.c (.bool true))))] [(0, 9)]) (.ret)))))⟩
def K_impl_Pick : Keeps := []
theorem r_impl_Pick : resolveF Tryz.prog Tryz.f25 K_impl_Pick = some F_impl_Pick := by kernel_rfl
def X_impl_Pick : Ctx := Ctx.cons 60 G_impl_copyKernel (Ctx.cons 24 G_impl_within (Ctx.cons 62 G_impl_CoreNew (Ctx.cons 61 G_impl_copyCore (fun _ => none))))
theorem co_impl_Pick : CtxOk Tryz.prog X_impl_Pick := CtxOk.cons (CtxOk.cons (CtxOk.cons (CtxOk.cons (CtxOk.nil) ok_impl_copyCore) ok_impl_CoreNew) ok_impl_within) ok_impl_copyKernel
theorem cx_impl_Pick : (CX X_impl_Pick 60 G_impl_copyKernel false) ∧ (CX X_impl_Pick 24 G_impl_within false) ∧ (CX X_impl_Pick 62 G_impl_CoreNew false) ∧ (CX X_impl_Pick 61 G_impl_copyCore false) := ⟨cxI rfl rfl, cxI rfl rfl, cxI rfl rfl, cxI rfl rfl⟩
def S_impl_Pick : ByV := ⟨none, false, semF X_impl_Pick F_impl_Pick none false⟩
def G_impl_Pick : CK := .byv S_impl_Pick
theorem sg_impl_Pick (args : List AV) : S_impl_Pick.sem args = semF X_impl_Pick F_impl_Pick none false args := rfl
theorem cl_impl_Pick (args hp) : callS G_impl_Pick args hp = byvS S_impl_Pick args hp := callS_byv rfl rfl args hp
theorem ok_impl_Pick : InlOk Tryz.prog 25 (callS G_impl_Pick) := byv_none co_impl_Pick Tryz.func25 r_impl_Pick rfl (fun _ _ h => h)
def F_impl_InsOk : RF := ⟨63, 1, [.t 2],
  .seq (.reg [o 1 (.box (.t 0)), o 2 (.mv (.c (.bool false)))]) (.seq (.seq (.reg [o 3 (.fa 0 (.t 1)), o 4 (.ld 1 false (.t 3)), o 5 (.call 24 [(.t 4), (.c (.int .i64 1)), (.c (.int .i64 10))]), o 6 (.un .not (.t 5)), o 7 (.mv (.t 6)), ⟨some 8, some (7, false), .fa 1 (.t 1)⟩, ⟨some 9, some (7, false), .ld 1 false (.t 8)⟩, ⟨some 10, some (7, false), .call 24 [(.t 9), (.c (.int .i64 0)), (.c (.int .i64 7))]⟩, ⟨some 11, some (7, false), .un .not (.t 10)⟩, o 12 (.pick (.t 7) (.c (.bool true)) (.t 11)), o 13 (.mv (.t 12)), ⟨some 14, some (13, false), .fa 2 (.t 1)⟩, ⟨some 15, some (13, false), .ld 1 false (.t 14)⟩, ⟨some 16, some (13, false), .call 24 [(.t 15), (.c (.int .i64 0)), (.c (.int .i64 7))]⟩, ⟨some 17, some (13, false), .un .not (.t 16)⟩, o 18 (.pick (.t 13) (.c (.bool true)) (.t 17)), o 19 (.mv (.t 18)), ⟨some 20, some (19, false), .fa 3 (.t 1)⟩, ⟨some 21, some (19, false), .ld 1 false (.t 20)⟩, ⟨some 22, some (19, false), .call 24 [(.t 21), (.c (.int .i64 0)), (.c (.int .i64 4194303))]⟩, ⟨some 23, some (19, false), .un .not (.t 22)⟩, o 24 (.pick (.t 19) (.c (.bool true)) (.t 23)), o 25 (.mv (.t 24)), ⟨some 26, some (25, false), .fa 0 (.t 1)⟩, ⟨some 27, some (25, false), .ld 1 false (.t 26)⟩, ⟨some 28, some (25, false), .bin .neq (.t 27) (.c (.int .i64 4))⟩, ⟨some 29, some (25, false), .mv (.t 28)⟩, ⟨some 30, some (29, true), .fa 2 (.t 1)⟩, ⟨some 31, some (29, true), .ld 1 false (.t 30)⟩, ⟨some 32, some (29, true), .bin .neq (.t 31) (.c (.int .i64 0))⟩, ⟨some 33, some (25, false), .pick (.t 29) (.t 32) (.c (.bool false))⟩, o 34 (.pick (.t 25) (.c (.bool true)) (.t 33))]) (.cond (.t 34) (.seq (.reg [o 2 (.mv (.c (.bool false)))]) (.ret)) (.skip))) (.seq (.seq (.reg [o 35 (.fa 0 (.t 1)), o 36 (.ld 1 false (.t 35))]) (.block 0 (.seq (.reg [o 38 (.bin .eql (.t 36) (.c (.int .i64 1))), o 37 (.mv (.t 38))]) (.cond (.t 37) (.seq (.reg [o 39 (.fa 3 (.t 1)), o 40 (.ld 1 false (.t 39)), o 41 (.bin .leq (.t 40) (.c (.int .i64 1000000))), o 2 (.mv (.t 41))]) (.ret)) (.seq (.reg [o 43 (.bin .eql (.t 36) (.c (.int .i64 4))), o 42 (.mv (.t 43))]) (.cond (.t 42) (.seq (.reg [o 44 (.fa 3 (.t 1)), o 45 (.ld 1 false (.t 44)), o 46 (.call 24 [(.t 45), (.c (.int .i64 1)), (.c (.int .i64 9))]), o 2 (.mv (.t 46))]) (.ret)) (.seq (.seq (.reg [o 48 (.bin .eql (.t 36) (.c (.int .i64 5))), o 47 (.mv (.t 48))]) (.cond (.t 47) (.skip) (.reg [o 49 (.bin .eql (.t 36) (.c (.int .i64 6))), o 47 (.mv (.t 49))]))) (.cond (.t 47) (.seq (.reg [o 50 (.fa 3 (.t 1)), o 51 (.ld 1 false (.t 50)), o 52 (.bin .eql (.t 51) (.c (.int .i64 0))), o 2 (.mv (.t 52))]) (.ret)) (.seq (.reg [o 54 (.bin .eql (.t 36) (.c (.int .i64 8))), o 53 (.mv (.t 54))]) (.cond (.t 53) (.seq (.reg [o 55 (.fa 1 (.t 1)), o 56 (.ld 1 false (.t 55)), o 57 (.bin .eql (.t 56) (.c (.int .i64 0))), o 2 (.mv (.t 57))]) (.ret)) (.seq (.reg [o 59 (.bin .eql (.t 36) (.c (.int .i64 10))), o 58 (.mv (.t 59))]) (.cond (.t 58) (.seq (.reg [o 60 (.fa 1 (.t 1)), o 61 (.ld 1 false (.t 60)), o 62 (.bin .geq (.t 61) (.c (.int .i64 1))), o 2 (.mv (.t 62))]) (.ret)) (.skip))))))))))))) (.seq (.reg [o 2 (.mv (.c (.bool true)))]) (.ret))))⟩
def K_impl_InsOk : Keeps := []
theorem r_impl_InsOk : resolveF Tryz.prog Tryz.f93 K_impl_InsOk = some F_impl_InsOk := by kernel_rfl
def X_impl_InsOk : Ctx := Ctx.cons 24 G_impl_within (fun _ => none)
theorem co_impl_InsOk : CtxOk Tryz.prog X_impl_InsOk := CtxOk.cons (CtxOk.nil) ok_impl_within
theorem cx_impl_InsOk : (CX X_impl_InsOk 24 G_impl_within false) := cxI rfl rfl
def S_impl_InsOk : ByV := ⟨none, false, semF X_impl_InsOk F_impl_InsOk none false⟩
def G_impl_InsOk : CK := .byv S_impl_InsOk
theorem sg_impl_InsOk (args : List AV) : S_impl_InsOk.sem args = semF X_impl_InsOk F_impl_InsOk none false args := rfl
theorem cl_impl_InsOk (args hp) : callS G_impl_InsOk args hp = byvS S_impl_InsOk args hp := callS_byv rfl rfl args hp
theorem ok_impl_InsOk : InlOk Tryz.prog 93 (callS G_impl_InsOk) := byv_none co_impl_InsOk Tryz.func93 r_impl_InsOk rfl (fun _ _ h => h)
def F_impl_Decode : RF := ⟨24, 1, [.cell 2 4 true, .t 3],
  .seq (.reg [o 2 (.new [(.int .i64 0), (.int .i64 0), (.int .i64 0), (.int .i64 0)]), o 3 (.mv (.c (.bool false)))]) (.seq (.seq (.reg [o 5 (.mv (.t 0)), o 6 (.bin .lss (.t 5) (.c (.int .i64 0)))]) (.cond (.t 6) (.seq (.reg [o 7 (.build [(.int .i64 0), (.int .i64 0), (.int .i64 0), (.int .i64 0)] []), ⟨none, none, .st 4 (.t 2) (.t 7)⟩, o 3 (.mv (.c (.bool false)))]) (.ret)) (.skip))) (.seq (.reg [o 8 (.mv (.t 0)), o 9 (.bin .shr (.t 8) (.c (.int .u64 28))), o 10 (.mv (.t 0)), o 11 (.bin .shr (.t 10) (.c (.int .u64 25))), o 12 (.bin .and (.t 11) (.c (.int .i64 7))), o 13 (.mv (.t 0)), o 14 (.bin .shr (.t 13) (.c (.int .u64 22))), o 15 (.bin .and (.t 14) (.c (.int .i64 7))), o 16 (.mv (.t 0)), o 17 (.bin .and (.t 16) (.c (.int .i64 4194303))), o 18 (.build [(.int .i64 0), (.int .i64 0), (.int .i64 0), (.int .i64 0)] [(0, 1, (.t 9)), (1, 1, (.t 12)), (2, 1, (.t 15)), (3, 1, (.t 17))]), o 4 (.new [(.int .i64 0), (.int .i64 0), (.int .i64 0), (.int .i64 0)]), ⟨none, none, .st 4 (.t 4) (.t 18)⟩]) (.seq (.seq (.reg [o 19 (.ld 4 true (.t 4)), o 20 (.call 93 [(.t 19)]), o 21 (.un .not (.t 20))]) (.cond (.t 21) (.seq (.reg [o 22 (.build [(.int .i64 0), (.int .i64 0), (.int .i64 0), (.int .i64 0)] []), ⟨none, none, .st 4 (.t 2) (.t 22)⟩, o 3 (.mv (.c (.bool false)))]) (.ret)) (.skip))) (.seq (.reg [o 23 (.ld 4 true (.t 4)), ⟨none, none, .st 4 (.t 2) (.t 23)⟩, o 3 (.mv (.c (.bool true)))]) (.ret)))))⟩
def K_impl_Decode : Keeps := []
theorem r_impl_Decode : resolveF Tryz.prog Tryz.f69 K_impl_Decode = some F_impl_Decode := by kernel_rfl
def X_impl_Decode : Ctx := Ctx.cons 93 G_impl_InsOk (fun _ => none)
theorem co_impl_Decode : CtxOk Tryz.prog X_impl_Decode := CtxOk.cons (CtxOk.nil) ok_impl_InsOk
theorem cx_impl_Decode : (CX X_impl_Decode 93 G_impl_InsOk false) := cxI rfl rfl
def S_impl_Decode : ByV := ⟨none, false, semF X_impl_Decode F_impl_Decode none false⟩
def G_impl_Decode : CK := .byv S_impl_Decode
theorem sg_impl_Decode (args : List AV) : S_impl_Decode.sem args = semF X_impl_Decode F_impl_Decode none false args := rfl
theorem cl_impl_Decode (args hp) : callS G_impl_Decode args hp = byvS S_impl_Decode args hp := callS_byv rfl rfl args hp
theorem ok_impl_Decode : InlOk Tryz.prog 69 (callS G_impl_Decode) := byv_none co_impl_Decode Tryz.func69 r_impl_Decode rfl (fun _ _ h => h)
def F_impl_wordAt : RF := ⟨20, 2, [.cell 4 4 true, .t 5],
  .seq (.reg [o 4 (.new [(.int .i64 0), (.int .i64 0), (.int .i64 0), (.int .i64 0)]), o 5 (.mv (.c (.bool false)))]) (.seq (.seq (.reg [o 6 (.mv (.t 1)), o 7 (.mv (.t 0)), o 8 (.len false (.t 7)), o 9 (.bin .sub (.t 8) (.c (.int .i64 1))), o 10 (.call 24 [(.t 6), (.c (.int .i64 0)), (.t 9)]), o 11 (.un .not (.t 10))]) (.cond (.t 11) (.seq (.reg [o 12 (.build [(.int .i64 0), (.int .i64 0), (.int .i64 0), (.int .i64 0)] []), ⟨none, none, .st 4 (.t 4) (.t 12)⟩, o 5 (.mv (.c (.bool false)))]) (.ret)) (.skip))) (.seq (.reg [o 13 (.mv (.t 0)), o 14 (.mv (.t 1)), o 15 (.ia 1 (.t 13) (.t 14)), o 16 (.ld 1 false (.t 15)), o 17 (.call 69 [(.t 16)]), o 18 (.ex (.t 17) 0), o 19 (.ex (.t 17) 1), ⟨none, none, .st 4 (.t 4) (.t 18)⟩, o 5 (.mv (.t 19))]) (.ret)))⟩
def K_impl_wordAt : Keeps := []
theorem r_impl_wordAt : resolveF Tryz.prog Tryz.f27 K_impl_wordAt = some F_impl_wordAt := by kernel_rfl
def X_impl_wordAt : Ctx := Ctx.cons 24 G_impl_within (Ctx.cons 69 G_impl_Decode (fun _ => none))
theorem co_impl_wordAt : CtxOk Tryz.prog X_impl_wordAt := CtxOk.cons (CtxOk.cons (CtxOk.nil) ok_impl_Decode) ok_impl_within
theorem cx_impl_wordAt : (CX X_impl_wordAt 24 G_impl_within false) ∧ (CX X_impl_wordAt 69 G_impl_Decode false) := ⟨cxI rfl rfl, cxI rfl rfl⟩
def S_impl_wordAt : ByV := ⟨none, false, semF X_impl_wordAt F_impl_wordAt none false⟩
def G_impl_wordAt : CK := .byv S_impl_wordAt
theorem sg_impl_wordAt (args : List AV) : S_impl_wordAt.sem args = semF X_impl_wordAt F_impl_wordAt none false args := rfl
theorem cl_impl_wordAt (args hp) : callS G_impl_wordAt args hp = byvS S_impl_wordAt args hp := callS_byv rfl rfl args hp
theorem ok_impl_wordAt : InlOk Tryz.prog 27 (callS G_impl_wordAt) := byv_none co_impl_wordAt Tryz.func27 r_impl_wordAt rfl (fun _ _ h => h)
def F_impl_ValOk : RF := ⟨5, 1, [.t 2],
  .seq (.reg [o 2 (.mv (.c (.bool false)))]) (.seq (.reg [o 3 (.mv (.t 0)), o 4 (.call 24 [(.t 3), (.c (.int .i64 (-1000000))), (.c (.int .i64 1000000))]), o 2 (.mv (.t 4))]) (.ret))⟩
def K_impl_ValOk : Keeps := []
theorem r_impl_ValOk : resolveF Tryz.prog Tryz.f65 K_impl_ValOk = some F_impl_ValOk := by kernel_rfl
def X_impl_ValOk : Ctx := Ctx.cons 24 G_impl_within (fun _ => none)
theorem co_impl_ValOk : CtxOk Tryz.prog X_impl_ValOk := CtxOk.cons (CtxOk.nil) ok_impl_within
theorem cx_impl_ValOk : (CX X_impl_ValOk 24 G_impl_within false) := cxI rfl rfl
def S_impl_ValOk : ByV := ⟨none, false, semF X_impl_ValOk F_impl_ValOk none false⟩
def G_impl_ValOk : CK := .byv S_impl_ValOk
theorem sg_impl_ValOk (args : List AV) : S_impl_ValOk.sem args = semF X_impl_ValOk F_impl_ValOk none false args := rfl
theorem cl_impl_ValOk (args hp) : callS G_impl_ValOk args hp = byvS S_impl_ValOk args hp := callS_byv rfl rfl args hp
theorem ok_impl_ValOk : InlOk Tryz.prog 65 (callS G_impl_ValOk) := byv_none co_impl_ValOk Tryz.func65 r_impl_ValOk rfl (fun _ _ h => h)
def F_impl_CoreOk_1 : RF := ⟨6, 1, [.t 2],
  .seq (.reg [o 2 (.mv (.c (.bool false)))]) (.seq (.reg [o 3 (.mv (.t 0)), o 4 (.call 65 [(.t 3)]), o 5 (.un .not (.t 4)), o 2 (.mv (.t 5))]) (.ret))⟩
def K_impl_CoreOk_1 : Keeps := []
theorem r_impl_CoreOk_1 : resolveF Tryz.prog Tryz.f91 K_impl_CoreOk_1 = some F_impl_CoreOk_1 := by kernel_rfl
def X_impl_CoreOk_1 : Ctx := Ctx.cons 65 G_impl_ValOk (fun _ => none)
theorem co_impl_CoreOk_1 : CtxOk Tryz.prog X_impl_CoreOk_1 := CtxOk.cons (CtxOk.nil) ok_impl_ValOk
theorem cx_impl_CoreOk_1 : (CX X_impl_CoreOk_1 65 G_impl_ValOk false) := cxI rfl rfl
def S_impl_CoreOk_1 : ByV := ⟨none, false, semF X_impl_CoreOk_1 F_impl_CoreOk_1 none false⟩
def G_impl_CoreOk_1 : CK := .byv S_impl_CoreOk_1
theorem sg_impl_CoreOk_1 (args : List AV) : S_impl_CoreOk_1.sem args = semF X_impl_CoreOk_1 F_impl_CoreOk_1 none false args := rfl
theorem cl_impl_CoreOk_1 (args hp) : callS G_impl_CoreOk_1 args hp = byvS S_impl_CoreOk_1 args hp := callS_byv rfl rfl args hp
theorem ok_impl_CoreOk_1 : InlOk Tryz.prog 91 (callS G_impl_CoreOk_1) := byv_none co_impl_CoreOk_1 Tryz.func91 r_impl_CoreOk_1 rfl (fun _ _ h => h)
def B0_slices_IndexFunc_int_int : RC :=
  .seq (.reg [o 9 (.bin .lss (.t 8) (.t 7))]) (.seq (.cond (.t 9) (.skip) (.exit 0)) (.seq (.block 1 (.seq (.reg [o 10 (.mv (.t 8)), o 5 (.mv (.t 10))]) (.seq (.reg [o 11 (.mv (.t 1)), o 12 (.mv (.t 0)), o 13 (.mv (.t 5)), o 14 (.ia 1 (.t 12) (.t 13)), o 15 (.ld 1 false (.t 14)), o 16 (.callv (.t 11) [(.t 15)])]) (.cond (.t 16) (.seq (.reg [o 17 (.mv (.t 5)), o 4 (.mv (.t 17))]) (.ret)) (.skip))))) (.reg [o 18 (.bin .add (.t 8) (.c (.int .i64 1))), o 8 (.mv (.t 18))])))
def F_slices_IndexFunc_int_int : RF := ⟨19, 2, [.t 4],
  .seq (.reg [o 4 (.mv (.c (.int .i64 0)))]) (.seq (.seq (.reg [o 6 (.mv (.t 0)), o 7 (.len false (.t 6)), o 8 (.mv (.c (.int .i64 0)))]) (.block 0 (.loop [0, 1, 7, 8] [(1, []), (0, [4])] B0_slices_IndexFunc_int_int))) (.seq (.reg [o 4 (.mv (.c (.int .i64 (-1))))]) (.ret)))⟩
def K_slices_IndexFunc_int_int : Keeps := [([0, 1, 7, 8], [(1, []), (0, [4])])]
theorem r_slices_IndexFunc_int_int : resolveF Tryz.prog Tryz.f111 K_slices_IndexFunc_int_int = some F_slices_IndexFunc_int_int := by kernel_rfl
def X_slices_IndexFunc_int_int : Ctx := Ctx.cons 91 G_impl_CoreOk_1 (fun _ => none)
theorem co_slices_IndexFunc_int_int : CtxOk Tryz.prog X_slices_IndexFunc_int_int := CtxOk.cons (CtxOk.nil) ok_impl_CoreOk_1
theorem cx_slices_IndexFunc_int_int : (CX X_slices_IndexFunc_int_int 91 G_impl_CoreOk_1 false) := cxI rfl rfl
def S_slices_IndexFunc_int_int : ByV := ⟨none, false, semF X_slices_IndexFunc_int_int F_slices_IndexFunc_int_int none false⟩
def G_slices_IndexFunc_int_int : CK := .byv S_slices_IndexFunc_int_int
theorem sg_slices_IndexFunc_int_int (args : List AV) : S_slices_IndexFunc_int_int.sem args = semF X_slices_IndexFunc_int_int F_slices_IndexFunc_int_int none false args := rfl
theorem cl_slices_IndexFunc_int_int (args hp) : callS G_slices_IndexFunc_int_int args hp = byvS S_slices_IndexFunc_int_int args hp := callS_byv rfl rfl args hp
theorem ok_slices_IndexFunc_int_int : InlOk Tryz.prog 111 (callS G_slices_IndexFunc_int_int) := byv_none co_slices_IndexFunc_int_int Tryz.func111 r_slices_IndexFunc_int_int rfl (fun _ _ h => h)
def F_slices_ContainsFunc_int_int : RF := ⟨9, 2, [.t 4],
  .seq (.reg [o 4 (.mv (.c (.bool false)))]) (.seq (.reg [o 5 (.mv (.t 0)), o 6 (.mv (.t 1)), o 7 (.call 111 [(.t 5), (.t 6)]), o 8 (.bin .geq (.t 7) (.c (.int .i64 0))), o 4 (.mv (.t 8))]) (.ret))⟩
def K_slices_ContainsFunc_int_int : Keeps := []
theorem r_slices_ContainsFunc_int_int : resolveF Tryz.prog Tryz.f90 K_slices_ContainsFunc_int_int = some F_slices_ContainsFunc_int_int := by kernel_rfl
def X_slices_ContainsFunc_int_int : Ctx := Ctx.cons 111 G_slices_IndexFunc_int_int (fun _ => none)
theorem co_slices_ContainsFunc_int_int : CtxOk Tryz.prog X_slices_ContainsFunc_int_int := CtxOk.cons (CtxOk.nil) ok_slices_IndexFunc_int_int
theorem cx_slices_ContainsFunc_int_int : (CX X_slices_ContainsFunc_int_int 111 G_slices_IndexFunc_int_int false) := cxI rfl rfl
def S_slices_ContainsFunc_int_int : ByV := ⟨none, false, semF X_slices_ContainsFunc_int_int F_slices_ContainsFunc_int_int none false⟩
def G_slices_ContainsFunc_int_int : CK := .byv S_slices_ContainsFunc_int_int
theorem sg_slices_ContainsFunc_int_int (args : List AV) : S_slices_ContainsFunc_int_int.sem args = semF X_slices_ContainsFunc_int_int F_slices_ContainsFunc_int_int none false args := rfl
theorem cl_slices_ContainsFunc_int_int (args hp) : callS G_slices_ContainsFunc_int_int args hp = byvS S_slices_ContainsFunc_int_int args hp := callS_byv rfl rfl args hp
theorem ok_slices_ContainsFunc_int_int : InlOk Tryz.prog 90 (callS G_slices_ContainsFunc_int_int) := byv_none co_slices_ContainsFunc_int_int Tryz.func90 r_slices_ContainsFunc_int_int rfl (fun _ _ h => h)
def F_impl_CoreOk : RF := ⟨23, 1, [.t 2],
  .seq (.reg [o 1 (.box (.t 0)), o 2 (.mv (.c (.bool false)))]) (.seq (.reg [o 3 (.fa 0 (.t 1)), o 4 (.ld 1 false (.t 3)), o 5 (.len false (.t 4)), o 6 (.bin .eql (.t 5) (.c (.int .i64 8))), o 7 (.mv (.t 6)), ⟨some 8, some (7, true), .fa 0 (.t 1)⟩, ⟨some 9, some (7, true), .ld 1 false (.t 8)⟩, ⟨some 10, some (7, true), .call 90 [(.t 9), (.fn 91)]⟩, ⟨some 11, some (7, true), .un .not (.t 10)⟩, o 12 (.pick (.t 7) (.t 11) (.c (.bool false))), o 13 (.mv (.t 12)), ⟨some 14, some (13, true), .fa 1 (.t 1)⟩, ⟨some 15, some (13, true), .ld 1 false (.t 14)⟩, ⟨some 16, some (13, true), .bin .geq (.t 15) (.c (.int .i64 0))⟩, o 17 (.pick (.t 13) (.t 16) (.c (.bool false))), o 18 (.mv (.t 17)), ⟨some 19, some (18, true), .fa 2 (.t 1)⟩, ⟨some 20, some (18, true), .ld 1 false (.t 19)⟩, ⟨some 21, some (18, true), .call 24 [(.t 20), (.c (.int .i64 (-1))), (.c (.int .i64 3))]⟩, o 22 (.pick (.t 18) (.t 21) (.c (.bool false))), o 2 (.mv (.t 22))]) (.ret))⟩
def K_impl_CoreOk : Keeps := []
theorem r_impl_CoreOk : resolveF Tryz.prog Tryz.f63 K_impl_CoreOk = some F_impl_CoreOk := by kernel_rfl
def X_impl_CoreOk : Ctx := Ctx.cons 90 G_slices_ContainsFunc_int_int (Ctx.cons 24 G_impl_within (fun _ => none))
theorem co_impl_CoreOk : CtxOk Tryz.prog X_impl_CoreOk := CtxOk.cons (CtxOk.cons (CtxOk.nil) ok_impl_within) ok_slices_ContainsFunc_int_int
theorem cx_impl_CoreOk : (CX X_impl_CoreOk 90 G_slices_ContainsFunc_int_int false) ∧ (CX X_impl_CoreOk 24 G_impl_within false) := ⟨cxI rfl rfl, cxI rfl rfl⟩
def S_impl_CoreOk : ByV := ⟨none, false, semF X_impl_CoreOk F_impl_CoreOk none false⟩
def G_impl_CoreOk : CK := .byv S_impl_CoreOk
theorem sg_impl_CoreOk (args : List AV) : S_impl_CoreOk.sem args = semF X_impl_CoreOk F_impl_CoreOk none false args := rfl
theorem cl_impl_CoreOk (args hp) : callS G_impl_CoreOk args hp = byvS S_impl_CoreOk args hp := callS_byv rfl rfl args hp
theorem ok_impl_CoreOk : InlOk Tryz.prog 63 (callS G_impl_CoreOk) := byv_none co_impl_CoreOk Tryz.func63 r_impl_CoreOk rfl (fun _ _ h => h)
def F_impl_usesMem : RF := ⟨16, 1, [.t 2],
  .seq (.reg [o 1 (.box (.t 0)), o 2 (.mv (.c (.bool false)))]) (.seq (.reg [o 3 (.fa 0 (.t 1)), o 4 (.ld 1 false (.t 3)), o 5 (.bin .eql (.t 4) (.c (.int .i64 2))), o 6 (.mv (.t 5)), ⟨some 7, some (6, false), .fa 0 (.t 1)⟩, ⟨some 8, some (6, false), .ld 1 false (.t 7)⟩, ⟨some 9, some (6, false), .bin .eql (.t 8) (.c (.int .i64 3))⟩, o 10 (.pick (.t 6) (.c (.bool true)) (.t 9)), o 11 (.mv (.t 10)), ⟨some 12, some (11, false), .fa 0 (.t 1)⟩, ⟨some 13, some (11, false), .ld 1 false (.t 12)⟩, ⟨some 14, some (11, false), .bin .eql (.t 13) (.c (.int .i64 9))⟩, o 15 (.pick (.t 11) (.c (.bool true)) (.t 14)), o 2 (.mv (.t 15))]) (.ret))⟩
def K_impl_usesMem : Keeps := []
theorem r_impl_usesMem : resolveF Tryz.prog Tryz.f64 K_impl_usesMem = some F_impl_usesMem := by kernel_rfl
def X_impl_usesMem : Ctx := fun _ => none
theorem co_impl_usesMem : CtxOk Tryz.prog X_impl_usesMem := CtxOk.nil
theorem cx_impl_usesMem : True := trivial
def S_impl_usesMem : ByV := ⟨none, false, semF X_impl_usesMem F_impl_usesMem none false⟩
def G_impl_usesMem : CK := .byv S_impl_usesMem
theorem sg_impl_usesMem (args : List AV) : S_impl_usesMem.sem args = semF X_impl_usesMem F_impl_usesMem none false args := rfl
theorem cl_impl_usesMem (args hp) : callS G_impl_usesMem args hp = byvS S_impl_usesMem args hp := callS_byv rfl rfl args hp
theorem ok_impl_usesMem : InlOk Tryz.prog 64 (callS G_impl_usesMem) := byv_none co_impl_usesMem Tryz.func64 r_impl_usesMem rfl (fun _ _ h => h)
def F_impl_truth : RF := ⟨4, 1, [.t 2],
  .seq (.reg [o 2 (.mv (.c (.int .i64 0)))]) (.seq (.seq (.reg [o 3 (.mv (.t 0))]) (.cond (.t 3) (.seq (.reg [o 2 (.mv (.c (.int .i64 1)))]) (.ret)) (.skip))) (.seq (.reg [o 2 (.mv (.c (.int .i64 0)))]) (.ret)))⟩
def K_impl_truth : Keeps := []
theorem r_impl_truth : resolveF Tryz.prog Tryz.f92 K_impl_truth = some F_impl_truth := by kernel_rfl
def X_impl_truth : Ctx := fun _ => none
theorem co_impl_truth : CtxOk Tryz.prog X_impl_truth := CtxOk.nil
theorem cx_impl_truth : True := trivial
def S_impl_truth : ByV := ⟨none, false, semF X_impl_truth F_impl_truth none false⟩
def G_impl_truth : CK := .byv S_impl_truth
theorem sg_impl_truth (args : List AV) : S_impl_truth.sem args = semF X_impl_truth F_impl_truth none false args := rfl
theorem cl_impl_truth (args hp) : callS G_impl_truth args hp = byvS S_impl_truth args hp := callS_byv rfl rfl args hp
theorem ok_impl_truth : InlOk Tryz.prog 92 (callS G_impl_truth) := byv_none co_impl_truth Tryz.func92 r_impl_truth rfl (fun _ _ h => h)
def F_impl_Calc : RF := ⟨92, 3, [.t 6, .t 7],
  .seq (.reg [o 6 (.mv (.c (.int .i64 0))), o 7 (.mv (.c (.int .i64 0)))]) (.seq (.seq (.reg [o 9 (.mv (.t 0)), o 10 (.call 24 [(.t 9), (.c (.int .i64 1)), (.c (.int .i64 9))]), o 11 (.un .not (.t 10)), o 12 (.mv (.t 11)), ⟨some 13, some (12, false), .mv (.t 1)⟩, ⟨some 14, some (12, false), .call 65 [(.t 13)]⟩, ⟨some 15, some (12, false), .un .not (.t 14)⟩, o 16 (.pick (.t 12) (.c (.bool true)) (.t 15)), o 17 (.mv (.t 16)), ⟨some 18, some (17, false), .mv (.t 2)⟩, ⟨some 19, some (17, false), .call 65 [(.t 18)]⟩, ⟨some 20, some (17, false), .un .not (.t 19)⟩, o 21 (.pick (.t 17) (.c (.bool true)) (.t 20))]) (.cond (.t 21) (.seq (.reg [o 6 (.mv (.c (.int .i64 0))), o 7 (.mv (.c (.int .i64 1)))]) (.ret)) (.skip))) (.seq (.seq (.reg [o 22 (.mv (.t 2)), o 23 (.bin .eql (.t 22) (.c (.int .i64 0))), o 24 (.mv (.t 23)), ⟨some 25, some (24, true), .mv (.t 0)⟩, ⟨some 26, some (24, true), .bin .eql (.t 25) (.c (.int .i64 4))⟩, ⟨some 27, some (24, true), .mv (.t 26)⟩, ⟨some 28, some (27, false), .mv (.t 0)⟩, ⟨some 29, some (27, false), .bin .eql (.t 28) (.c (.int .i64 5))⟩, ⟨some 30, some (24, true), .pick (.t 27) (.c (.bool true)) (.t 29)⟩, o 31 (.pick (.t 24) (.t 30) (.c (.bool false)))]) (.cond (.t 31) (.seq (.reg [o 6 (.mv (.c (.int .i64 0))), o 7 (.mv (.c (.int .i64 2)))]) (.ret)) (.skip))) (.seq (.reg [o 8 (.mv (.c (.int .i64 0)))]) (.seq (.seq (.reg [o 32 (.mv (.t 0))]) (.block 0 (.seq (.reg [o 34 (.bin .eql (.t 32) (.c (.int .i64 1))), o 33 (.mv (.t 34))]) (.cond (.t 33) (.reg [o 35 (.mv (.t 1)), o 36 (.mv (.t 2)), o 37 (.bin .add (.t 35) (.t 36)), o 8 (.mv (.t 37))]) (.seq (.reg [o 39 (.bin .eql (.t 32) (.c (.int .i64 2))), o 38 (.mv (.t 39))]) (.cond (.t 38) (.reg [o 40 (.mv (.t 1)), o 41 (.mv (.t 2)), o 42 (.bin .sub (.t 40) (.t 41)), o 8 (.mv (.t 42))]) (.seq (.reg [o 44 (.bin .eql (.t 32) (.c (.int .i64 3))), o 43 (.mv (.t 44))]) (.cond (.t 43) (.reg [o 45 (.mv (.t 1)), o 46 (.mv (.t 2)), o 47 (.bin .mul (.t 45) (.t 46)), o 8 (.mv (.t 47))]) (.seq (.reg [o 49 (.bin .eql (.t 32) (.c (.int .i64 4))), o 48 (.mv (.t 49))]) (.cond (.t 48) (.reg [o 50 (.mv (.t 1)), o 51 (.mv (.t 2)), o 52 (.bin .quo (.t 50) (.t 51)), o 8 (.mv (.t 52))]) (.seq (.reg [o 54 (.bin .eql (.t 32) (.c (.int .i64 5))), o 53 (.mv (.t 54))]) (.cond (.t 53) (.reg [o 55 (.mv (.t 1)), o 56 (.mv (.t 2)), o 57 (.bin .rem (.t 55) (.t 56)), o 8 (.mv (.t 57))]) (.seq (.reg [o 59 (.bin .eql (.t 32) (.c (.int .i64 6))), o 58 (.mv (.t 59))]) (.cond (.t 58) (.reg [o 60 (.mv (.t 1)), o 61 (.mv (.t 2)), o 62 (.bin .lss (.t 60) (.t 61)), o 63 (.call 92 [(.t 62)]), o 8 (.mv (.t 63))]) (.seq (.reg [o 65 (.bin .eql (.t 32) (.c (.int .i64 7))), o 64 (.mv (.t 65))]) (.cond (.t 64) (.reg [o 66 (.mv (.t 1)), o 67 (.mv (.t 2)), o 68 (.bin .eql (.t 66) (.t 67)), o 69 (.call 92 [(.t 68)]), o 8 (.mv (.t 69))]) (.seq (.reg [o 71 (.bin .eql (.t 32) (.c (.int .i64 8))), o 70 (.mv (.t 71))]) (.cond (.t 70) (.reg [o 72 (.mv (.t 1)), o 73 (.bin .neq (.t 72) (.c (.int .i64 0))), o 74 (.mv (.t 73)), ⟨some 75, some (74, true), .mv (.t 2)⟩, ⟨some 76, some (74, true), .bin .neq (.t 75) (.c (.int .i64 0))⟩, o 77 (.pick (.t 74) (.t 76) (.c (.bool false))), o 78 (.call 92 [(.t 77)]), o 8 (.mv (.t 78))]) (.seq (.reg [o 80 (.bin .eql (.t 32) (.c (.int .i64 9))), o 79 (.mv (.t 80))]) (.cond (.t 79) (.reg [o 81 (.mv (.t 1)), o 82 (.bin .neq (.t 81) (.c (.int .i64 0))), o 83 (.mv (.t 82)), ⟨some 84, some (83, false), .mv (.t 2)⟩, ⟨some 85, some (83, false), .bin .neq (.t 84) (.c (.int .i64 0))⟩, o 86 (.pick (.t 83) (.c (.bool true)) (.t 85)), o 87 (.call 92 [(.t 86)]), o 8 (.mv (.t 87))]) (.skip))))))))))))))))))))) (.seq (.seq (.reg [o 88 (.mv (.t 8)), o 89 (.call 65 [(.t 88)]), o 90 (.un .not (.t 89))]) (.cond (.t 90) (.seq (.reg [o 6 (.mv (.c (.int .i64 0))), o 7 (.mv (.c (.int .i64 1)))]) (.ret)) (.skip))) (.seq (.reg [o 91 (.mv (.t 8)), o 6 (.mv (.t 91)), o 7 (.mv (.c (.int .i64 0)))]) (.ret)))))))⟩
def K_impl_Calc : Keeps := []
theorem r_impl_Calc : resolveF Tryz.prog Tryz.f66 K_impl_Calc = some F_impl_Calc := by kernel_rfl
def X_impl_Calc : Ctx := Ctx.cons 24 G_impl_within (Ctx.cons 65 G_impl_ValOk (Ctx.cons 92 G_impl_truth (fun _ => none)))
theorem co_impl_Calc : CtxOk Tryz.prog X_impl_Calc := CtxOk.cons (CtxOk.cons (CtxOk.cons (CtxOk.nil) ok_impl_truth) ok_impl_ValOk) ok_impl_within
theorem cx_impl_Calc : (CX X_impl_Calc 24 G_impl_within false) ∧ (CX X_impl_Calc 65 G_impl_ValOk false) ∧ (CX X_impl_Calc 92 G_impl_truth false) := ⟨cxI rfl rfl, cxI rfl rfl, cxI rfl rfl⟩
def S_impl_Calc : ByV := ⟨none, false, semF X_impl_Calc F_impl_Calc none false⟩
def G_impl_Calc : CK := .byv S_impl_Calc
theorem sg_impl_Calc (args : List AV) : S_impl_Calc.sem args = semF X_impl_Calc F_impl_Calc none false args := rfl
theorem cl_impl_Calc (args hp) : callS G_impl_Calc args hp = byvS S_impl_Calc args hp := callS_byv rfl rfl args hp
theorem ok_impl_Calc : InlOk Tryz.prog 66 (callS G_impl_Calc) := byv_none co_impl_Calc Tryz.func66 r_impl_Calc rfl (fun _ _ h => h)
def F_impl_Denied : RF := ⟨6, 1, [.t 2],
  .seq (.reg [o 2 (.mv (.c (.int .i64 0)))]) (.seq (.reg [o 3 (.mv (.t 0)), o 4 (.bin .eql (.t 3) (.c (.int .i64 0))), o 5 (.call 92 [(.t 4)]), o 2 (.mv (.t 5))]) (.ret))⟩
def K_impl_Denied : Keeps := []
theorem r_impl_Denied : resolveF Tryz.prog Tryz.f67 K_impl_Denied = some F_impl_Denied := by kernel_rfl
def X_impl_Denied : Ctx := Ctx.cons 92 G_impl_truth (fun _ => none)
theorem co_impl_Denied : CtxOk Tryz.prog X_impl_Denied := CtxOk.cons (CtxOk.nil) ok_impl_truth
theorem cx_impl_Denied : (CX X_impl_Denied 92 G_impl_truth false) := cxI rfl rfl
def S_impl_Denied : ByV := ⟨none, false, semF X_impl_Denied F_impl_Denied none false⟩
def G_impl_Denied : CK := .byv S_impl_Denied
theorem sg_impl_Denied (args : List AV) : S_impl_Denied.sem args = semF X_impl_Denied F_impl_Denied none false args := rfl
theorem cl_impl_Denied (args hp) : callS G_impl_Denied args hp = byvS S_impl_Denied args hp := callS_byv rfl rfl args hp
theorem ok_impl_Denied : InlOk Tryz.prog 67 (callS G_impl_Denied) := byv_none co_impl_Denied Tryz.func67 r_impl_Denied rfl (fun _ _ h => h)
def F_impl_Negated : RF := ⟨9, 1, [.t 2, .t 3],
  .seq (.reg [o 2 (.mv (.c (.int .i64 0))), o 3 (.mv (.c (.int .i64 0)))]) (.seq (.seq (.reg [o 4 (.mv (.t 0)), o 5 (.call 65 [(.t 4)]), o 6 (.un .not (.t 5))]) (.cond (.t 6) (.seq (.reg [o 2 (.mv (.c (.int .i64 0))), o 3 (.mv (.c (.int .i64 1)))]) (.ret)) (.skip))) (.seq (.reg [o 7 (.mv (.t 0)), o 8 (.un .neg (.t 7)), o 2 (.mv (.t 8)), o 3 (.mv (.c (.int .i64 0)))]) (.ret)))⟩
def K_impl_Negated : Keeps := []
theorem r_impl_Negated : resolveF Tryz.prog Tryz.f68 K_impl_Negated = some F_impl_Negated := by kernel_rfl
def X_impl_Negated : Ctx := Ctx.cons 65 G_impl_ValOk (fun _ => none)
theorem co_impl_Negated : CtxOk Tryz.prog X_impl_Negated := CtxOk.cons (CtxOk.nil) ok_impl_ValOk
theorem cx_impl_Negated : (CX X_impl_Negated 65 G_impl_ValOk false) := cxI rfl rfl
def S_impl_Negated : ByV := ⟨none, false, semF X_impl_Negated F_impl_Negated none false⟩
def G_impl_Negated : CK := .byv S_impl_Negated
theorem sg_impl_Negated (args : List AV) : S_impl_Negated.sem args = semF X_impl_Negated F_impl_Negated none false args := rfl
theorem cl_impl_Negated (args hp) : callS G_impl_Negated args hp = byvS S_impl_Negated args hp := callS_byv rfl rfl args hp
theorem ok_impl_Negated : InlOk Tryz.prog 68 (callS G_impl_Negated) := byv_none co_impl_Negated Tryz.func68 r_impl_Negated rfl (fun _ _ h => h)
def F_impl_StepCore : RF := ⟨181, 3, [.cell 6 3 true, .t 7, .t 8],
  .seq (.reg [o 3 (.box (.t 0)), o 6 (.new [(.nil 1), (.int .i64 0), (.int .i64 0)]), o 7 (.mv (.c (.nil 1))), o 8 (.mv (.c (.int .i64 0)))]) (.seq (.reg [o 16 (.ld 3 true (.t 3)), o 17 (.call 61 [(.t 16)]), o 9 (.new [(.nil 1), (.int .i64 0), (.int .i64 0)]), ⟨none, none, .st 3 (.t 9) (.t 17)⟩]) (.seq (.reg [o 18 (.mv (.t 2)), o 19 (.app true 1 8 (.c (.nil 1)) (.t 18)), o 10 (.mv (.t 19))]) (.seq (.reg [o 21 (.mv (.t 1)), o 22 (.fa 1 (.t 3)), o 23 (.ld 1 false (.t 22)), o 24 (.call 27 [(.t 21), (.t 23)]), o 20 (.mv (.t 24)), o 25 (.ex (.t 20) 0), o 26 (.ex (.t 20) 1), o 11 (.new [(.int .i64 0), (.int .i64 0), (.int .i64 0), (.int .i64 0)]), ⟨none, none, .st 4 (.t 11) (.t 25)⟩, o 12 (.mv (.t 26))]) (.seq (.seq (.reg [o 27 (.ld 3 true (.t 3)), o 28 (.call 63 [(.t 27)]), o 29 (.un .not (.t 28)), o 30 (.mv (.t 29)), ⟨some 31, some (30, false), .mv (.t 12)⟩, ⟨some 32, some (30, false), .un .not (.t 31)⟩, o 33 (.pick (.t 30) (.c (.bool true)) (.t 32)), o 34 (.mv (.t 33)), ⟨some 35, some (34, false), .ld 4 true (.t 11)⟩, ⟨some 36, some (34, false), .call 64 [(.t 35)]⟩, ⟨some 37, some (34, false), .mv (.t 36)⟩, ⟨some 38, some (37, true), .fa 3 (.t 11)⟩, ⟨some 39, some (37, true), .ld 1 false (.t 38)⟩, ⟨some 40, some (37, true), .mv (.t 2)⟩, ⟨some 41, some (37, true), .len false (.t 40)⟩, ⟨some 42, some (37, true), .bin .geq (.t 39) (.t 41)⟩, ⟨some 43, some (34, false), .pick (.t 37) (.t 42) (.c (.bool false))⟩, o 44 (.pick (.t 34) (.c (.bool true)) (.t 43)), o 45 (.mv (.t 44)), ⟨some 46, some (45, false), .ld 4 true (.t 11)⟩, ⟨some 47, some (45, false), .call 64 [(.t 46)]⟩, ⟨some 48, some (45, false), .mv (.t 47)⟩, ⟨some 49, some (48, true), .fa 0 (.t 11)⟩, ⟨some 50, some (48, true), .ld 1 false (.t 49)⟩, ⟨some 51, some (48, true), .bin .neq (.t 50) (.c (.int .i64 3))⟩, ⟨some 52, some (45, false), .pick (.t 48) (.t 51) (.c (.bool false))⟩, ⟨some 53, some (45, false), .mv (.t 52)⟩, ⟨some 54, some (53, true), .mv (.t 2)⟩, ⟨some 55, some (53, true), .fa 3 (.t 11)⟩, ⟨some 56, some (53, true), .ld 1 false (.t 55)⟩, ⟨some 57, some (53, true), .ia 1 (.t 54) (.t 56)⟩, ⟨some 58, some (53, true), .ld 1 false (.t 57)⟩, ⟨some 59, some (53, true), .call 65 [(.t 58)]⟩, ⟨some 60, some (53, true), .un .not (.t 59)⟩, ⟨some 61, some (45, false), .pick (.t 53) (.t 60) (.c (.bool false))⟩, o 62 (.pick (.t 45) (.c (.bool true)) (.t 61))]) (.cond (.t 62) (.seq (.reg [o 63 (.ld 3 true (.t 9)), o 64 (.mv (.t 10)), ⟨none, none, .st 3 (.t 6) (.t 63)⟩, o 7 (.mv (.t 64)), o 8 (.mv (.c (.int .i64 4)))]) (.ret)) (.skip))) (.seq (.reg [o 65 (.fa 0 (.t 9)), o 66 (.ld 1 false (.t 65)), o 13 (.mv (.t 66))]) (.seq (.reg [o 67 (.fa 1 (.t 9)), o 68 (.ld 1 false (.t 67)), o 69 (.bin .add (.t 68) (.c (.int .i64 1))), o 70 (.fa 1 (.t 9)), ⟨none, none, .st 1 (.t 70) (.t 69)⟩]) (.seq (.reg [o 71 (.mv (.t 13)), o 72 (.fa 1 (.t 11)), o 73 (.ld 1 false (.t 72)), o 74 (.ia 1 (.t 71) (.t 73)), o 75 (.ld 1 false (.t 74)), o 14 (.mv (.t 75)), o 15 (.mv (.c (.int .i64 0)))]) (.seq (.seq (.reg [o 76 (.fa 0 (.t 11)), o 77 (.ld 1 false (.t 76))]) (.block 0 (.seq (.reg [o 79 (.bin .eql (.t 77) (.c (.int .i64 1))), o 78 (.mv (.t 79))]) (.cond (.t 78) (.reg [o 80 (.fa 3 (.t 11)), o 81 (.ld 1 false (.t 80)), o 14 (.mv (.t 81))]) (.seq (.reg [o 83 (.bin .eql (.t 77) (.c (.int .i64 2))), o 82 (.mv (.t 83))]) (.cond (.t 82) (.reg [o 84 (.mv (.t 2)), o 85 (.fa 3 (.t 11)), o 86 (.ld 1 false (.t 85)), o 87 (.ia 1 (.t 84) (.t 86)), o 88 (.ld 1 false (.t 87)), o 14 (.mv (.t 88))]) (.seq (.reg [o 90 (.bin .eql (.t 77) (.c (.int .i64 3))), o 89 (.mv (.t 90))]) (.cond (.t 89) (.regd [(0, o 91 (.mv (.t 10))), (0, o 92 (.fa 3 (.t 11))), (1, o 93 (.ld 1 false (.t 92))), (0, o 94 (.mv (.t 13))), (0, o 95 (.fa 1 (.t 11))), (1, o 96 (.ld 1 false (.t 95))), (1, o 97 (.ia 1 (.t 94) (.t 96))), (1, o 98 (.ld 1 false (.t 97))), (1, o 99 (.ia 1 (.t 91) (.t 93))), (1, ⟨none, none, .st 1 (.t 99) (.t 98)⟩)] []) (.seq (.reg [o 101 (.bin .eql (.t 77) (.c (.int .i64 4))), o 100 (.mv (.t 101))]) (.cond (.t 100) (.regd [(0, o 103 (.fa 3 (.t 11))), (1, o 104 (.ld 1 false (.t 103))), (0, o 105 (.mv (.t 13))), (0, o 106 (.fa 1 (.t 11))), (1, o 107 (.ld 1 false (.t 106))), (1, o 108 (.ia 1 (.t 105) (.t 107))), (1, o 109 (.ld 1 false (.t 108))), (0, o 110 (.mv (.t 13))), (0, o 111 (.fa 2 (.t 11))), (1, o 112 (.ld 1 false (.t 111))), (1, o 113 (.ia 1 (.t 110) (.t 112))), (1, o 114 (.ld 1 false (.t 113))), (1, o 115 (.call 66 [(.t 104), (.t 109), (.t 114)])), (0, o 102 (.mv (.t 115))), (0, o 116 (.ex (.t 102) 0)), (0, o 117 (.ex (.t 102) 1)), (0, o 14 (.mv (.t 116))), (0, o 15 (.mv (.t 117)))] []) (.seq (.reg [o 119 (.bin .eql (.t 77) (.c (.int .i64 5))), o 118 (.mv (.t 119))]) (.cond (.t 118) (.reg [o 120 (.mv (.t 13)), o 121 (.fa 1 (.t 11)), o 122 (.ld 1 false (.t 121)), o 123 (.ia 1 (.t 120) (.t 122)), o 124 (.ld 1 false (.t 123)), o 125 (.call 67 [(.t 124)]), o 14 (.mv (.t 125))]) (.seq (.reg [o 127 (.bin .eql (.t 77) (.c (.int .i64 6))), o 126 (.mv (.t 127))]) (.cond (.t 126) (.reg [o 129 (.mv (.t 13)), o 130 (.fa 1 (.t 11)), o 131 (.ld 1 false (.t 130)), o 132 (.ia 1 (.t 129) (.t 131)), o 133 (.ld 1 false (.t 132)), o 134 (.call 68 [(.t 133)]), o 128 (.mv (.t 134)), o 135 (.ex (.t 128) 0), o 136 (.ex (.t 128) 1), o 14 (.mv (.t 135)), o 15 (.mv (.t 136))]) (.seq (.reg [o 138 (.bin .eql (.t 77) (.c (.int .i64 7))), o 137 (.mv (.t 138))]) (.cond (.t 137) (.seq (.reg [o 139 (.mv (.t 13)), o 140 (.fa 1 (.t 11)), o 141 (.ld 1 false (.t 140)), o 142 (.ia 1 (.t 139) (.t 141)), o 143 (.ld 1 false (.t 142)), o 144 (.bin .eql (.t 143) (.c (.int .i64 0)))]) (.cond (.t 144) (.reg [o 145 (.fa 3 (.t 11)), o 146 (.ld 1 false (.t 145)), o 147 (.fa 1 (.t 9)), ⟨none, none, .st 1 (.t 147) (.t 146)⟩]) (.skip))) (.seq (.reg [o 149 (.bin .eql (.t 77) (.c (.int .i64 8))), o 148 (.mv (.t 149))]) (.cond (.t 148) (.reg [o 150 (.fa 3 (.t 11)), o 151 (.ld 1 false (.t 150)), o 152 (.fa 1 (.t 9)), ⟨none, none, .st 1 (.t 152) (.t 151)⟩]) (.seq (.reg [o 154 (.bin .eql (.t 77) (.c (.int .i64 9))), o 153 (.mv (.t 154))]) (.cond (.t 153) (.seq (.reg [o 155 (.mv (.t 2)), o 156 (.fa 3 (.t 11)), o 157 (.ld 1 false (.t 156)), o 158 (.ia 1 (.t 155) (.t 157)), o 159 (.ld 1 false (.t 158)), o 14 (.mv (.t 159))]) (.reg [o 160 (.mv (.t 10)), o 161 (.fa 3 (.t 11)), o 162 (.ld 1 false (.t 161)), o 163 (.ia 1 (.t 160) (.t 162)), ⟨none, none, .st 1 (.t 163) (.c (.int .i64 1))⟩])) (.seq (.reg [o 165 (.bin .eql (.t 77) (.c (.int .i64 10))), o 164 (.mv (.t 165))]) (.cond (.t 164) (.seq (.reg [o 166 (.ld 3 true (.t 9)), o 167 (.mv (.t 10)), ⟨none, none, .st 3 (.t 6) (.t 166)⟩, o 7 (.mv (.t 167)), o 8 (.mv (.c (.int .i64 10)))]) (.ret)) (.skip))))))))))))))))))))))) (.seq (.seq (.reg [o 168 (.mv (.t 15)), o 169 (.bin .neq (.t 168) (.c (.int .i64 0)))]) (.cond (.t 169) (.seq (.reg [o 170 (.ld 3 true (.t 3)), o 171 (.call 61 [(.t 170)]), o 172 (.mv (.t 10)), o 173 (.mv (.t 15)), ⟨none, none, .st 3 (.t 6) (.t 171)⟩, o 7 (.mv (.t 172)), o 8 (.mv (.t 173))]) (.ret)) (.skip))) (.seq (.reg [o 174 (.mv (.t 13)), o 175 (.fa 1 (.t 11)), o 176 (.ld 1 false (.t 175)), o 177 (.mv (.t 14)), o 178 (.ia 1 (.t 174) (.t 176)), ⟨none, none, .st 1 (.t 178) (.t 177)⟩]) (.seq (.reg [o 179 (.ld 3 true (.t 9)), o 180 (.mv (.t 10)), ⟨none, none, .st 3 (.t 6) (.t 179)⟩, o 7 (.mv (.t 180)), o 8 (.mv (.c (.int .i64 0)))]) (.ret))))))))))))⟩
def K_impl_StepCore : Keeps := []
theorem r_impl_StepCore : resolveF Tryz.prog Tryz.f26 K_impl_StepCore = some F_impl_StepCore := by kernel_rfl
def X_impl_StepCore : Ctx := Ctx.cons 61 G_impl_copyCore (Ctx.cons 27 G_impl_wordAt (Ctx.cons 63 G_impl_CoreOk (Ctx.cons 64 G_impl_usesMem (Ctx.cons 65 G_impl_ValOk (Ctx.cons 66 G_impl_Calc (Ctx.cons 67 G_impl_Denied (Ctx.cons 68 G_impl_Negated (fun _ => none))))))))
theorem co_impl_StepCore : CtxOk Tryz.prog X_impl_StepCore := CtxOk.cons (CtxOk.cons (CtxOk.cons (CtxOk.cons (CtxOk.cons (CtxOk.cons (CtxOk.cons (CtxOk.cons (CtxOk.nil) ok_impl_Negated) ok_impl_Denied) ok_impl_Calc) ok_impl_ValOk) ok_impl_usesMem) ok_impl_CoreOk) ok_impl_wordAt) ok_impl_copyCore
theorem cx_impl_StepCore : (CX X_impl_StepCore 61 G_impl_copyCore false) ∧ (CX X_impl_StepCore 27 G_impl_wordAt false) ∧ (CX X_impl_StepCore 63 G_impl_CoreOk false) ∧ (CX X_impl_StepCore 64 G_impl_usesMem false) ∧ (CX X_impl_StepCore 65 G_impl_ValOk false) ∧ (CX X_impl_StepCore 66 G_impl_Calc false) ∧ (CX X_impl_StepCore 67 G_impl_Denied false) ∧ (CX X_impl_StepCore 68 G_impl_Negated false) := ⟨cxI rfl rfl, cxI rfl rfl, cxI rfl rfl, cxI rfl rfl, cxI rfl rfl, cxI rfl rfl, cxI rfl rfl, cxI rfl rfl⟩
def S_impl_StepCore : ByV := ⟨none, false, semF X_impl_StepCore F_impl_StepCore none false⟩
def G_impl_StepCore : CK := .byv S_impl_StepCore
theorem sg_impl_StepCore (args : List AV) : S_impl_StepCore.sem args = semF X_impl_StepCore F_impl_StepCore none false args := rfl
theorem cl_impl_StepCore (args hp) : callS G_impl_StepCore args hp = byvS S_impl_StepCore args hp := callS_byv rfl rfl args hp
theorem ok_impl_StepCore : InlOk Tryz.prog 26 (callS G_impl_StepCore) := byv_none co_impl_StepCore Tryz.func26 r_impl_StepCore rfl (fun _ _ h => h)
def F__impl_Machine_tell : RF := ⟨32, 4, [],
  .seq (.reg [o 8 (.mv (.t 0)), o 9 (.mv (.t 0)), o 10 (.nck (.t 9)), o 11 (.fa 10 (.t 10)), o 12 (.ld 1 false (.t 11)), o 13 (.mv (.t 1)), o 14 (.mv (.t 2)), o 15 (.mv (.t 3)), o 16 (.build [(.int .i64 0), (.int .i64 0), (.int .i64 0)] [(0, 1, (.t 13)), (1, 1, (.t 14)), (2, 1, (.t 15))]), o 17 (.bsl 3 [(.t 16)]), o 18 (.app true 3 24 (.t 12) (.t 17)), o 19 (.nck (.t 8)), o 20 (.fa 10 (.t 19)), ⟨none, none, .st 1 (.t 20) (.t 18)⟩]) (.reg [o 21 (.mv (.t 0)), o 22 (.mv (.t 0)), o 23 (.nck (.t 22)), o 24 (.fa 11 (.t 23)), o 25 (.ld 1 false (.t 24)), o 26 (.mv (.t 25)), ⟨some 27, some (26, false), .mv (.t 2)⟩, ⟨some 28, some (26, false), .bin .eql (.t 27) (.c (.int .i64 8))⟩, o 29 (.pick (.t 26) (.c (.bool true)) (.t 28)), o 30 (.nck (.t 21)), o 31 (.fa 11 (.t 30)), ⟨none, none, .st 1 (.t 31) (.t 29)⟩])⟩
def K__impl_Machine_tell : Keeps := []
theorem r__impl_Machine_tell : resolveF Tryz.prog Tryz.f29 K__impl_Machine_tell = some F__impl_Machine_tell := by kernel_rfl
def X__impl_Machine_tell : Ctx := fun _ => none
theorem co__impl_Machine_tell : CtxOk Tryz.prog X__impl_Machine_tell := CtxOk.nil
theorem cx__impl_Machine_tell : True := trivial
def G__impl_Machine_tell : CK := .inl (runF X__impl_Machine_tell F__impl_Machine_tell)
theorem cl__impl_Machine_tell (args hp) : callS G__impl_Machine_tell args hp = runF X__impl_Machine_tell F__impl_Machine_tell args hp := rfl
theorem ok__impl_Machine_tell : InlOk Tryz.prog 29 (callS G__impl_Machine_tell) := runF_ok co__impl_Machine_tell Tryz.func29 r__impl_Machine_tell
def B0_impl_inGate : RC :=
  .seq (.reg [o 22 (.bin .lss (.t 21) (.t 20))]) (.seq (.cond (.t 22) (.skip) (.exit 0)) (.seq (.block 1 (.seq (.reg [o 23 (.ia 1 (.t 19) (.t 21)), o 24 (.ld 1 false (.t 23)), o 5 (.mv (.t 24))]) (.seq (.reg [o 25 (.mv (.t 5)), o 26 (.bin .neq (.t 25) (.c (.int .i64 (-1))))]) (.cond (.t 26) (.reg [o 27 (.mv (.t 3)), o 28 (.mv (.t 5)), o 29 (.bsl 1 [(.t 28)]), o 30 (.app true 1 8 (.t 27) (.t 29)), o 3 (.mv (.t 30))]) (.skip))))) (.reg [o 31 (.bin .add (.t 21) (.c (.int .i64 1))), o 21 (.mv (.t 31))])))
def F_impl_inGate : RF := ⟨33, 1, [.t 2],
  .seq (.reg [o 1 (.box (.t 0)), o 2 (.mv (.c (.nil 1)))]) (.seq (.reg [o 3 (.mv (.c (.nil 1)))]) (.seq (.seq (.reg [o 6 (.fa 0 (.t 1)), o 7 (.ld 1 false (.t 6)), o 8 (.bin .neq (.t 7) (.c (.int .i64 (-1))))]) (.cond (.t 8) (.reg [o 9 (.mv (.t 3)), o 10 (.fa 0 (.t 1)), o 11 (.ld 1 false (.t 10)), o 12 (.bsl 1 [(.t 11)]), o 13 (.app true 1 8 (.t 9) (.t 12)), o 3 (.mv (.t 13))]) (.skip))) (.seq (.reg [o 14 (.mv (.t 3)), o 15 (.fa 1 (.t 1)), o 16 (.ld 1 false (.t 15)), o 17 (.app true 1 8 (.t 14) (.t 16)), o 3 (.mv (.t 17))]) (.seq (.seq (.reg [o 18 (.fa 2 (.t 1)), o 19 (.ld 1 false (.t 18)), o 20 (.len false (.t 19)), o 21 (.mv (.c (.int .i64 0)))]) (.block 0 (.loop [3, 19, 20, 21] [(1, [3])] B0_impl_inGate))) (.seq (.reg [o 32 (.mv (.t 3)), o 2 (.mv (.t 32))]) (.ret))))))⟩
def K_impl_inGate : Keeps := [([3, 19, 20, 21], [(1, [3])])]
theorem r_impl_inGate : resolveF Tryz.prog Tryz.f114 K_impl_inGate = some F_impl_inGate := by kernel_rfl
def X_impl_inGate : Ctx := fun _ => none
theorem co_impl_inGate : CtxOk Tryz.prog X_impl_inGate := CtxOk.nil
theorem cx_impl_inGate : True := trivial
def S_impl_inGate : ByV := ⟨none, false, semF X_impl_inGate F_impl_inGate none false⟩
def G_impl_inGate : CK := .byv S_impl_inGate
theorem sg_impl_inGate (args : List AV) : S_impl_inGate.sem args = semF X_impl_inGate F_impl_inGate none false args := rfl
theorem cl_impl_inGate (args hp) : callS G_impl_inGate args hp = byvS S_impl_inGate args hp := callS_byv rfl rfl args hp
theorem ok_impl_inGate : InlOk Tryz.prog 114 (callS G_impl_inGate) := byv_none co_impl_inGate Tryz.func114 r_impl_inGate rfl (fun _ _ h => h)
def B0_slices_Index_int_int : RC :=
  .seq (.reg [o 9 (.bin .lss (.t 8) (.t 7))]) (.seq (.cond (.t 9) (.skip) (.exit 0)) (.seq (.block 1 (.seq (.reg [o 10 (.mv (.t 8)), o 5 (.mv (.t 10))]) (.seq (.reg [o 11 (.mv (.t 1)), o 12 (.mv (.t 0)), o 13 (.mv (.t 5)), o 14 (.ia 1 (.t 12) (.t 13)), o 15 (.ld 1 false (.t 14)), o 16 (.bin .eql (.t 11) (.t 15))]) (.cond (.t 16) (.seq (.reg [o 17 (.mv (.t 5)), o 4 (.mv (.t 17))]) (.ret)) (.skip))))) (.reg [o 18 (.bin .add (.t 8) (.c (.int .i64 1))), o 8 (.mv (.t 18))])))
def F_slices_Index_int_int : RF := ⟨19, 2, [.t 4],
  .seq (.reg [o 4 (.mv (.c (.int .i64 0)))]) (.seq (.seq (.reg [o 6 (.mv (.t 0)), o 7 (.len false (.t 6)), o 8 (.mv (.c (.int .i64 0)))]) (.block 0 (.loop [0, 1, 7, 8] [(1, []), (0, [4])] B0_slices_Index_int_int))) (.seq (.reg [o 4 (.mv (.c (.int .i64 (-1))))]) (.ret)))⟩
def K_slices_Index_int_int : Keeps := [([0, 1, 7, 8], [(1, []), (0, [4])])]
theorem r_slices_Index_int_int : resolveF Tryz.prog Tryz.f121 K_slices_Index_int_int = some F_slices_Index_int_int := by kernel_rfl
def X_slices_Index_int_int : Ctx := fun _ => none
theorem co_slices_Index_int_int : CtxOk Tryz.prog X_slices_Index_int_int := CtxOk.nil
theorem cx_slices_Index_int_int : True := trivial
def S_slices_Index_int_int : ByV := ⟨none, false, semF X_slices_Index_int_int F_slices_Index_int_int none false⟩
def G_slices_Index_int_int : CK := .byv S_slices_Index_int_int
theorem sg_slices_Index_int_int (args : List AV) : S_slices_Index_int_int.sem args = semF X_slices_Index_int_int F_slices_Index_int_int none false args := rfl
theorem cl_slices_Index_int_int (args hp) : callS G_slices_Index_int_int args hp = byvS S_slices_Index_int_int args hp := callS_byv rfl rfl args hp
theorem ok_slices_Index_int_int : InlOk Tryz.prog 121 (callS G_slices_Index_int_int) := byv_none co_slices_Index_int_int Tryz.func121 r_slices_Index_int_int rfl (fun _ _ h => h)
def F_slices_Contains_int_int : RF := ⟨9, 2, [.t 4],
  .seq (.reg [o 4 (.mv (.c (.bool false)))]) (.seq (.reg [o 5 (.mv (.t 0)), o 6 (.mv (.t 1)), o 7 (.call 121 [(.t 5), (.t 6)]), o 8 (.bin .geq (.t 7) (.c (.int .i64 0))), o 4 (.mv (.t 8))]) (.ret))⟩
def K_slices_Contains_int_int : Keeps := []
theorem r_slices_Contains_int_int : resolveF Tryz.prog Tryz.f113 K_slices_Contains_int_int = some F_slices_Contains_int_int := by kernel_rfl
def X_slices_Contains_int_int : Ctx := Ctx.cons 121 G_slices_Index_int_int (fun _ => none)
theorem co_slices_Contains_int_int : CtxOk Tryz.prog X_slices_Contains_int_int := CtxOk.cons (CtxOk.nil) ok_slices_Index_int_int
theorem cx_slices_Contains_int_int : (CX X_slices_Contains_int_int 121 G_slices_Index_int_int false) := cxI rfl rfl
def S_slices_Contains_int_int : ByV := ⟨none, false, semF X_slices_Contains_int_int F_slices_Contains_int_int none false⟩
def G_slices_Contains_int_int : CK := .byv S_slices_Contains_int_int
theorem sg_slices_Contains_int_int (args : List AV) : S_slices_Contains_int_int.sem args = semF X_slices_Contains_int_int F_slices_Contains_int_int none false args := rfl
theorem cl_slices_Contains_int_int (args hp) : callS G_slices_Contains_int_int args hp = byvS S_slices_Contains_int_int args hp := callS_byv rfl rfl args hp
theorem ok_slices_Contains_int_int : InlOk Tryz.prog 113 (callS G_slices_Contains_int_int) := byv_none co_slices_Contains_int_int Tryz.func113 r_slices_Contains_int_int rfl (fun _ _ h => h)
def B0_impl_GateOk : RC :=
  .seq (.reg [o 11 (.bin .lss (.t 10) (.t 9))]) (.seq (.cond (.t 11) (.skip) (.exit 0)) (.seq (.block 1 (.seq (.reg [o 12 (.mv (.t 10)), o 13 (.ia 1 (.t 8) (.t 10)), o 14 (.ld 1 false (.t 13)), o 4 (.mv (.t 12)), o 5 (.mv (.t 14))]) (.seq (.reg [o 15 (.mv (.t 5)), o 16 (.call 24 [(.t 15), (.c (.int .i64 0)), (.c (.int .i64 3))]), o 17 (.un .not (.t 16)), o 18 (.mv (.t 17)), ⟨some 19, some (18, false), .mv (.t 3)⟩, ⟨some 20, some (18, false), .mv (.t 4)⟩, ⟨some 21, some (18, false), .slc false 1 (.t 19) none (some (.t 20))⟩, ⟨some 22, some (18, false), .mv (.t 5)⟩, ⟨some 23, some (18, false), .call 113 [(.t 21), (.t 22)]⟩, o 24 (.pick (.t 18) (.c (.bool true)) (.t 23))]) (.cond (.t 24) (.seq (.reg [o 2 (.mv (.c (.bool false)))]) (.ret)) (.skip))))) (.reg [o 25 (.bin .add (.t 10) (.c (.int .i64 1))), o 10 (.mv (.t 25))])))
def F_impl_GateOk : RF := ⟨41, 1, [.t 2],
  .seq (.reg [o 1 (.box (.t 0)), o 2 (.mv (.c (.bool false)))]) (.seq (.reg [o 6 (.ld 3 true (.t 1)), o 7 (.call 114 [(.t 6)]), o 3 (.mv (.t 7))]) (.seq (.seq (.reg [o 8 (.mv (.t 3)), o 9 (.len false (.t 8)), o 10 (.mv (.c (.int .i64 0)))]) (.block 0 (.loop [1, 3, 8, 9, 10] [(1, [1]), (0, [2])] B0_impl_GateOk))) (.seq (.reg [o 26 (.fa 2 (.t 1)), o 27 (.ld 1 false (.t 26)), o 28 (.len false (.t 27)), o 29 (.bin .leq (.t 28) (.c (.int .i64 2))), o 30 (.mv (.t 29)), ⟨some 31, some (30, true), .fa 0 (.t 1)⟩, ⟨some 32, some (30, true), .ld 1 false (.t 31)⟩, ⟨some 33, some (30, true), .bin .neq (.t 32) (.c (.int .i64 (-1)))⟩, ⟨some 34, some (30, true), .mv (.t 33)⟩, ⟨some 35, some (34, false), .fa 1 (.t 1)⟩, ⟨some 36, some (34, false), .ld 1 false (.t 35)⟩, ⟨some 37, some (34, false), .len false (.t 36)⟩, ⟨some 38, some (34, false), .bin .eql (.t 37) (.c (.int .i64 0))⟩, ⟨some 39, some (30, true), .pick (.t 34) (.c (.bool true)) (.t 38)⟩, o 40 (.pick (.t 30) (.t 39) (.c (.bool false))), o 2 (.mv (.t 40))]) (.ret))))⟩
def K_impl_GateOk : Keeps := [([1, 3, 8, 9, 10], [(1, [1]), (0, [2])])]
theorem r_impl_GateOk : resolveF Tryz.prog Tryz.f112 K_impl_GateOk = some F_impl_GateOk := by kernel_rfl
def X_impl_GateOk : Ctx := Ctx.cons 114 G_impl_inGate (Ctx.cons 24 G_impl_within (Ctx.cons 113 G_slices_Contains_int_int (fun _ => none)))
theorem co_impl_GateOk : CtxOk Tryz.prog X_impl_GateOk := CtxOk.cons (CtxOk.cons (CtxOk.cons (CtxOk.nil) ok_slices_Contains_int_int) ok_impl_within) ok_impl_inGate
theorem cx_impl_GateOk : (CX X_impl_GateOk 114 G_impl_inGate false) ∧ (CX X_impl_GateOk 24 G_impl_within false) ∧ (CX X_impl_GateOk 113 G_slices_Contains_int_int false) := ⟨cxI rfl rfl, cxI rfl rfl, cxI rfl rfl⟩
def S_impl_GateOk : ByV := ⟨none, false, semF X_impl_GateOk F_impl_GateOk none false⟩
def G_impl_GateOk : CK := .byv S_impl_GateOk
theorem sg_impl_GateOk (args : List AV) : S_impl_GateOk.sem args = semF X_impl_GateOk F_impl_GateOk none false args := rfl
theorem cl_impl_GateOk (args hp) : callS G_impl_GateOk args hp = byvS S_impl_GateOk args hp := callS_byv rfl rfl args hp
theorem ok_impl_GateOk : InlOk Tryz.prog 112 (callS G_impl_GateOk) := byv_none co_impl_GateOk Tryz.func112 r_impl_GateOk rfl (fun _ _ h => h)
def F_impl_Arrive : RF := ⟨37, 2, [.cell 4 3 true, .t 5],
  .seq (.reg [o 2 (.box (.t 0)), o 4 (.new [(.int .i64 0), (.nil 1), (.nil 1)]), o 5 (.mv (.c (.bool false)))]) (.seq (.reg [o 7 (.ld 3 true (.t 2)), o 8 (.call 89 [(.t 7)]), o 6 (.new [(.int .i64 0), (.nil 1), (.nil 1)]), ⟨none, none, .st 3 (.t 6) (.t 8)⟩]) (.seq (.seq (.reg [o 9 (.ld 3 true (.t 2)), o 10 (.call 112 [(.t 9)]), o 11 (.un .not (.t 10)), o 12 (.mv (.t 11)), ⟨some 13, some (12, false), .mv (.t 1)⟩, ⟨some 14, some (12, false), .call 24 [(.t 13), (.c (.int .i64 0)), (.c (.int .i64 3))]⟩, ⟨some 15, some (12, false), .un .not (.t 14)⟩, o 16 (.pick (.t 12) (.c (.bool true)) (.t 15)), o 17 (.mv (.t 16)), ⟨some 18, some (17, false), .ld 3 true (.t 2)⟩, ⟨some 19, some (17, false), .call 114 [(.t 18)]⟩, ⟨some 20, some (17, false), .mv (.t 1)⟩, ⟨some 21, some (17, false), .call 113 [(.t 19), (.t 20)]⟩, o 22 (.pick (.t 17) (.c (.bool true)) (.t 21))]) (.cond (.t 22) (.seq (.reg [o 23 (.ld 3 true (.t 6)), ⟨none, none, .st 3 (.t 4) (.t 23)⟩, o 5 (.mv (.c (.bool false)))]) (.ret)) (.skip))) (.seq (.seq (.reg [o 24 (.fa 0 (.t 2)), o 25 (.ld 1 false (.t 24)), o 26 (.bin .eql (.t 25) (.c (.int .i64 (-1))))]) (.cond (.t 26) (.seq (.reg [o 27 (.mv (.t 1)), o 28 (.fa 0 (.t 6)), ⟨none, none, .st 1 (.t 28) (.t 27)⟩]) (.seq (.reg [o 29 (.ld 3 true (.t 6)), ⟨none, none, .st 3 (.t 4) (.t 29)⟩, o 5 (.mv (.c (.bool true)))]) (.ret))) (.skip))) (.seq (.reg [o 30 (.fa 1 (.t 6)), o 31 (.ld 1 false (.t 30)), o 32 (.mv (.t 1)), o 33 (.bsl 1 [(.t 32)]), o 34 (.app true 1 8 (.t 31) (.t 33)), o 35 (.fa 1 (.t 6)), ⟨none, none, .st 1 (.t 35) (.t 34)⟩]) (.seq (.reg [o 36 (.ld 3 true (.t 6)), ⟨none, none, .st 3 (.t 4) (.t 36)⟩, o 5 (.mv (.c (.bool false)))]) (.ret))))))⟩
def K_impl_Arrive : Keeps := []
theorem r_impl_Arrive : resolveF Tryz.prog Tryz.f94 K_impl_Arrive = some F_impl_Arrive := by kernel_rfl
def X_impl_Arrive : Ctx := Ctx.cons 89 G_impl_copyGate (Ctx.cons 112 G_impl_GateOk (Ctx.cons 24 G_impl_within (Ctx.cons 114 G_impl_inGate (Ctx.cons 113 G_slices_Contains_int_int (fun _ => none)))))
theorem co_impl_Arrive : CtxOk Tryz.prog X_impl_Arrive := CtxOk.cons (CtxOk.cons (CtxOk.cons (CtxOk.cons (CtxOk.cons (CtxOk.nil) ok_slices_Contains_int_int) ok_impl_inGate) ok_impl_within) ok_impl_GateOk) ok_impl_copyGate
theorem cx_impl_Arrive : (CX X_impl_Arrive 89 G_impl_copyGate false) ∧ (CX X_impl_Arrive 112 G_impl_GateOk false) ∧ (CX X_impl_Arrive 24 G_impl_within false) ∧ (CX X_impl_Arrive 114 G_impl_inGate false) ∧ (CX X_impl_Arrive 113 G_slices_Contains_int_int false) := ⟨cxI rfl rfl, cxI rfl rfl, cxI rfl rfl, cxI rfl rfl, cxI rfl rfl⟩
def S_impl_Arrive : ByV := ⟨none, false, semF X_impl_Arrive F_impl_Arrive none false⟩
def G_impl_Arrive : CK := .byv S_impl_Arrive
theorem sg_impl_Arrive (args : List AV) : S_impl_Arrive.sem args = semF X_impl_Arrive F_impl_Arrive none false args := rfl
theorem cl_impl_Arrive (args hp) : callS G_impl_Arrive args hp = byvS S_impl_Arrive args hp := callS_byv rfl rfl args hp
theorem ok_impl_Arrive : InlOk Tryz.prog 94 (callS G_impl_Arrive) := byv_none co_impl_Arrive Tryz.func94 r_impl_Arrive rfl (fun _ _ h => h)
def F_impl_Hold : RF := ⟨23, 2, [.cell 4 4 true],
  .seq (.reg [o 2 (.box (.t 0)), o 3 (.box (.t 1)), o 4 (.new [(.nil 3), (.nil 1), (.nil 3), (.nil 1)])]) (.seq (.reg [o 6 (.ld 4 true (.t 2)), o 7 (.call 60 [(.t 6)]), o 5 (.new [(.nil 3), (.nil 1), (.nil 3), (.nil 1)]), ⟨none, none, .st 4 (.t 5) (.t 7)⟩]) (.seq (.seq (.reg [o 8 (.fa 2 (.t 3)), o 9 (.ld 1 false (.t 8)), o 10 (.fa 2 (.t 2)), o 11 (.ld 1 false (.t 10)), o 12 (.len false (.t 11)), o 13 (.bin .sub (.t 12) (.c (.int .i64 1))), o 14 (.call 24 [(.t 9), (.c (.int .i64 0)), (.t 13)])]) (.cond (.t 14) (.regd [(0, o 15 (.fa 2 (.t 5))), (2, o 16 (.ld 1 false (.t 15))), (0, o 17 (.fa 2 (.t 3))), (2, o 18 (.ld 1 false (.t 17))), (1, o 19 (.ld 3 true (.t 3))), (2, o 20 (.call 61 [(.t 19)])), (1, o 21 (.ia 3 (.t 16) (.t 18))), (1, ⟨none, none, .st 3 (.t 21) (.t 20)⟩)] [(1, 5), (3, 5)]) (.skip))) (.seq (.reg [o 22 (.ld 4 true (.t 5)), ⟨none, none, .st 4 (.t 4) (.t 22)⟩]) (.ret))))⟩
def K_impl_Hold : Keeps := []
theorem r_impl_Hold : resolveF Tryz.prog Tryz.f115 K_impl_Hold = some F_impl_Hold := by kernel_rfl
def X_impl_Hold : Ctx := Ctx.cons 60 G_impl_copyKernel (Ctx.cons 24 G_impl_within (Ctx.cons 61 G_impl_copyCore (fun _ => none)))
theorem co_impl_Hold : CtxOk Tryz.prog X_impl_Hold := CtxOk.cons (CtxOk.cons (CtxOk.cons (CtxOk.nil) ok_impl_copyCore) ok_impl_within) ok_impl_copyKernel
theorem cx_impl_Hold : (CX X_impl_Hold 60 G_impl_copyKernel false) ∧ (CX X_impl_Hold 24 G_impl_within false) ∧ (CX X_impl_Hold 61 G_impl_copyCore false) := ⟨cxI rfl rfl, cxI rfl rfl, cxI rfl rfl⟩
def S_impl_Hold : ByV := ⟨none, false, semF X_impl_Hold F_impl_Hold none false⟩
def G_impl_Hold : CK := .byv S_impl_Hold
theorem sg_impl_Hold (args : List AV) : S_impl_Hold.sem args = semF X_impl_Hold F_impl_Hold none false args := rfl
theorem cl_impl_Hold (args hp) : callS G_impl_Hold args hp = byvS S_impl_Hold args hp := callS_byv rfl rfl args hp
theorem ok_impl_Hold : InlOk Tryz.prog 115 (callS G_impl_Hold) := byv_none co_impl_Hold Tryz.func115 r_impl_Hold rfl (fun _ _ h => h)
def F__impl_Machine_holdCore : RF := ⟨26, 2, [],
  .seq (.regd [(0, o 4 (.mv (.t 0))), (0, o 5 (.mv (.t 0))), (0, o 6 (.nck (.t 5))), (0, o 7 (.fa 5 (.t 6))), (1, o 8 (.ld 4 true (.t 7))), (0, o 9 (.mv (.t 0))), (0, o 10 (.nck (.t 9))), (0, o 11 (.fa 4 (.t 10))), (1, o 12 (.ld 1 false (.t 11))), (0, o 13 (.mv (.t 1))), (1, o 14 (.ia 3 (.t 12) (.t 13))), (1, o 15 (.ld 3 true (.t 14))), (1, o 16 (.call 115 [(.t 8), (.t 15)])), (0, o 17 (.nck (.t 4))), (0, o 18 (.fa 5 (.t 17))), (1, ⟨none, none, .st 4 (.t 18) (.t 16)⟩)] []) (.regd [(0, o 19 (.mv (.t 0))), (0, o 20 (.nck (.t 19))), (0, o 21 (.fa 4 (.t 20))), (2, o 22 (.ld 1 false (.t 21))), (0, o 23 (.mv (.t 1))), (2, o 24 (.call 62 [])), (1, o 25 (.ia 3 (.t 22) (.t 23))), (1, ⟨none, none, .st 3 (.t 25) (.t 24)⟩)] [(3, 5)])⟩
def K__impl_Machine_holdCore : Keeps := []
theorem r__impl_Machine_holdCore : resolveF Tryz.prog Tryz.f95 K__impl_Machine_holdCore = some F__impl_Machine_holdCore := by kernel_rfl
def X__impl_Machine_holdCore : Ctx := Ctx.cons 115 G_impl_Hold (Ctx.cons 62 G_impl_CoreNew (fun _ => none))
theorem co__impl_Machine_holdCore : CtxOk Tryz.prog X__impl_Machine_holdCore := CtxOk.cons (CtxOk.cons (CtxOk.nil) ok_impl_CoreNew) ok_impl_Hold
theorem cx__impl_Machine_holdCore : (CX X__impl_Machine_holdCore 115 G_impl_Hold false) ∧ (CX X__impl_Machine_holdCore 62 G_impl_CoreNew false) := ⟨cxI rfl rfl, cxI rfl rfl⟩
def G__impl_Machine_holdCore : CK := .inl (runF X__impl_Machine_holdCore F__impl_Machine_holdCore)
theorem cl__impl_Machine_holdCore (args hp) : callS G__impl_Machine_holdCore args hp = runF X__impl_Machine_holdCore F__impl_Machine_holdCore args hp := rfl
theorem ok__impl_Machine_holdCore : InlOk Tryz.prog 95 (callS G__impl_Machine_holdCore) := runF_ok co__impl_Machine_holdCore Tryz.func95 r__impl_Machine_holdCore
def F_impl_Leave : RF := ⟨33, 1, [.cell 2 3 true, .t 3],
  .seq (.reg [o 1 (.box (.t 0)), o 2 (.new [(.int .i64 0), (.nil 1), (.nil 1)]), o 3 (.mv (.c (.int .i64 0)))]) (.seq (.reg [o 5 (.ld 3 true (.t 1)), o 6 (.call 89 [(.t 5)]), o 4 (.new [(.int .i64 0), (.nil 1), (.nil 1)]), ⟨none, none, .st 3 (.t 4) (.t 6)⟩]) (.seq (.seq (.reg [o 7 (.ld 3 true (.t 1)), o 8 (.call 112 [(.t 7)]), o 9 (.un .not (.t 8)), o 10 (.mv (.t 9)), ⟨some 11, some (10, false), .fa 0 (.t 1)⟩, ⟨some 12, some (10, false), .ld 1 false (.t 11)⟩, ⟨some 13, some (10, false), .bin .eql (.t 12) (.c (.int .i64 (-1)))⟩, o 14 (.pick (.t 10) (.c (.bool true)) (.t 13))]) (.cond (.t 14) (.seq (.reg [o 15 (.ld 3 true (.t 4)), ⟨none, none, .st 3 (.t 2) (.t 15)⟩, o 3 (.mv (.c (.int .i64 (-1))))]) (.ret)) (.skip))) (.seq (.reg [o 16 (.fa 0 (.t 4)), ⟨none, none, .st 1 (.t 16) (.c (.int .i64 (-1)))⟩]) (.seq (.seq (.reg [o 17 (.fa 1 (.t 4)), o 18 (.ld 1 false (.t 17)), o 19 (.len false (.t 18)), o 20 (.bin .gtr (.t 19) (.c (.int .i64 0)))]) (.cond (.t 20) (.regd [(0, o 21 (.fa 1 (.t 4))), (1, o 22 (.ld 1 false (.t 21))), (1, o 23 (.ia 1 (.t 22) (.c (.int .i64 0)))), (1, o 24 (.ld 1 false (.t 23))), (0, o 25 (.fa 1 (.t 4))), (1, o 26 (.ld 1 false (.t 25))), (2, o 27 (.slc false 1 (.t 26) (some (.c (.int .i64 1))) none)), (0, o 28 (.fa 0 (.t 4))), (2, ⟨none, none, .st 1 (.t 28) (.t 24)⟩), (0, o 29 (.fa 1 (.t 4))), (1, ⟨none, none, .st 1 (.t 29) (.t 27)⟩)] [(6, 8)]) (.skip))) (.seq (.regd [(1, o 30 (.ld 3 true (.t 4))), (0, o 31 (.fa 0 (.t 4))), (2, o 32 (.ld 1 false (.t 31))), (2, ⟨none, none, .st 3 (.t 2) (.t 30)⟩), (0, o 3 (.mv (.t 32)))] [(2, 3)]) (.ret))))))⟩
def K_impl_Leave : Keeps := []
theorem r_impl_Leave : resolveF Tryz.prog Tryz.f96 K_impl_Leave = some F_impl_Leave := by kernel_rfl
def X_impl_Leave : Ctx := Ctx.cons 89 G_impl_copyGate (Ctx.cons 112 G_impl_GateOk (fun _ => none))
theorem co_impl_Leave : CtxOk Tryz.prog X_impl_Leave := CtxOk.cons (CtxOk.cons (CtxOk.nil) ok_impl_GateOk) ok_impl_copyGate
theorem cx_impl_Leave : (CX X_impl_Leave 89 G_impl_copyGate false) ∧ (CX X_impl_Leave 112 G_impl_GateOk false) := ⟨cxI rfl rfl, cxI rfl rfl⟩
def S_impl_Leave : ByV := ⟨none, false, semF X_impl_Leave F_impl_Leave none false⟩
def G_impl_Leave : CK := .byv S_impl_Leave
theorem sg_impl_Leave (args : List AV) : S_impl_Leave.sem args = semF X_impl_Leave F_impl_Leave none false args := rfl
theorem cl_impl_Leave (args hp) : callS G_impl_Leave args hp = byvS S_impl_Leave args hp := callS_byv rfl rfl args hp
theorem ok_impl_Leave : InlOk Tryz.prog 96 (callS G_impl_Leave) := byv_none co_impl_Leave Tryz.func96 r_impl_Leave rfl (fun _ _ h => h)
def F_impl_ContinueAt : RF := ⟨50, 2, [.cell 4 3 true, .t 5],
  .seq (.reg [o 2 (.box (.t 0)), o 4 (.new [(.int .i64 0), (.nil 1), (.nil 1)]), o 5 (.mv (.c (.int .i64 0)))]) (.seq (.reg [o 7 (.ld 3 true (.t 2)), o 8 (.call 89 [(.t 7)]), o 6 (.new [(.int .i64 0), (.nil 1), (.nil 1)]), ⟨none, none, .st 3 (.t 6) (.t 8)⟩]) (.seq (.seq (.reg [o 9 (.ld 3 true (.t 2)), o 10 (.call 112 [(.t 9)]), o 11 (.un .not (.t 10)), o 12 (.mv (.t 11)), ⟨some 13, some (12, false), .fa 0 (.t 2)⟩, ⟨some 14, some (12, false), .ld 1 false (.t 13)⟩, ⟨some 15, some (12, false), .bin .eql (.t 14) (.c (.int .i64 (-1)))⟩, o 16 (.pick (.t 12) (.c (.bool true)) (.t 15)), o 17 (.mv (.t 16)), ⟨some 18, some (17, false), .mv (.t 1)⟩, ⟨some 19, some (17, false), .fa 2 (.t 2)⟩, ⟨some 20, some (17, false), .ld 1 false (.t 19)⟩, ⟨some 21, some (17, false), .len false (.t 20)⟩, ⟨some 22, some (17, false), .bin .sub (.t 21) (.c (.int .i64 1))⟩, ⟨some 23, some (17, false), .call 24 [(.t 18), (.c (.int .i64 0)), (.t 22)]⟩, ⟨some 24, some (17, false), .un .not (.t 23)⟩, o 25 (.pick (.t 17) (.c (.bool true)) (.t 24))]) (.cond (.t 25) (.seq (.reg [o 26 (.ld 3 true (.t 6)), ⟨none, none, .st 3 (.t 4) (.t 26)⟩, o 5 (.mv (.c (.int .i64 (-1))))]) (.ret)) (.skip))) (.seq (.seq (.reg [o 27 (.fa 2 (.t 2)), o 28 (.ld 1 false (.t 27)), o 29 (.mv (.t 1)), o 30 (.ia 1 (.t 28) (.t 29)), o 31 (.ld 1 false (.t 30)), o 32 (.bin .eql (.t 31) (.c (.int .i64 (-1))))]) (.cond (.t 32) (.seq (.reg [o 33 (.ld 3 true (.t 2)), o 34 (.call 96 [(.t 33)]), o 35 (.ex (.t 34) 0), o 36 (.ex (.t 34) 1), ⟨none, none, .st 3 (.t 4) (.t 35)⟩, o 5 (.mv (.t 36))]) (.ret)) (.skip))) (.seq (.regd [(0, o 37 (.fa 2 (.t 6))), (1, o 38 (.ld 1 false (.t 37))), (0, o 39 (.mv (.t 1))), (0, o 40 (.fa 2 (.t 2))), (1, o 41 (.ld 1 false (.t 40))), (0, o 42 (.mv (.t 1))), (1, o 43 (.ia 1 (.t 41) (.t 42))), (1, o 44 (.ld 1 false (.t 43))), (0, o 45 (.fa 0 (.t 6))), (1, ⟨none, none, .st 1 (.t 45) (.t 44)⟩), (1, o 46 (.ia 1 (.t 38) (.t 39))), (1, ⟨none, none, .st 1 (.t 46) (.c (.int .i64 (-1)))⟩)] []) (.seq (.regd [(1, o 47 (.ld 3 true (.t 6))), (0, o 48 (.fa 0 (.t 6))), (2, o 49 (.ld 1 false (.t 48))), (2, ⟨none, none, .st 3 (.t 4) (.t 47)⟩), (0, o 5 (.mv (.t 49)))] [(2, 3)]) (.ret))))))⟩
def K_impl_ContinueAt : Keeps := []
theorem r_impl_ContinueAt : resolveF Tryz.prog Tryz.f97 K_impl_ContinueAt = some F_impl_ContinueAt := by kernel_rfl
def X_impl_ContinueAt : Ctx := Ctx.cons 89 G_impl_copyGate (Ctx.cons 112 G_impl_GateOk (Ctx.cons 24 G_impl_within (Ctx.cons 96 G_impl_Leave (fun _ => none))))
theorem co_impl_ContinueAt : CtxOk Tryz.prog X_impl_ContinueAt := CtxOk.cons (CtxOk.cons (CtxOk.cons (CtxOk.cons (CtxOk.nil) ok_impl_Leave) ok_impl_within) ok_impl_GateOk) ok_impl_copyGate
theorem cx_impl_ContinueAt : (CX X_impl_ContinueAt 89 G_impl_copyGate false) ∧ (CX X_impl_ContinueAt 112 G_impl_GateOk false) ∧ (CX X_impl_ContinueAt 24 G_impl_within false) ∧ (CX X_impl_ContinueAt 96 G_impl_Leave false) := ⟨cxI rfl rfl, cxI rfl rfl, cxI rfl rfl, cxI rfl rfl⟩
def S_impl_ContinueAt : ByV := ⟨none, false, semF X_impl_ContinueAt F_impl_ContinueAt none false⟩
def G_impl_ContinueAt : CK := .byv S_impl_ContinueAt
theorem sg_impl_ContinueAt (args : List AV) : S_impl_ContinueAt.sem args = semF X_impl_ContinueAt F_impl_ContinueAt none false args := rfl
theorem cl_impl_ContinueAt (args hp) : callS G_impl_ContinueAt args hp = byvS S_impl_ContinueAt args hp := callS_byv rfl rfl args hp
theorem ok_impl_ContinueAt : InlOk Tryz.prog 97 (callS G_impl_ContinueAt) := byv_none co_impl_ContinueAt Tryz.func97 r_impl_ContinueAt rfl (fun _ _ h => h)
def F_impl_DelayIn : RF := ⟨49, 2, [.cell 4 3 true, .t 5, .t 6],
  .seq (.reg [o 2 (.box (.t 0)), o 4 (.new [(.int .i64 0), (.nil 1), (.nil 1)]), o 5 (.mv (.c (.int .i64 0))), o 6 (.mv (.c (.bool false)))]) (.seq (.seq (.reg [o 9 (.ld 3 true (.t 2)), o 10 (.call 112 [(.t 9)]), o 11 (.un .not (.t 10)), o 12 (.mv (.t 11)), ⟨some 13, some (12, false), .fa 0 (.t 2)⟩, ⟨some 14, some (12, false), .ld 1 false (.t 13)⟩, ⟨some 15, some (12, false), .bin .eql (.t 14) (.c (.int .i64 (-1)))⟩, o 16 (.pick (.t 12) (.c (.bool true)) (.t 15)), o 17 (.mv (.t 16)), ⟨some 18, some (17, false), .mv (.t 1)⟩, ⟨some 19, some (17, false), .fa 2 (.t 2)⟩, ⟨some 20, some (17, false), .ld 1 false (.t 19)⟩, ⟨some 21, some (17, false), .len false (.t 20)⟩, ⟨some 22, some (17, false), .bin .sub (.t 21) (.c (.int .i64 1))⟩, ⟨some 23, some (17, false), .call 24 [(.t 18), (.c (.int .i64 0)), (.t 22)]⟩, ⟨some 24, some (17, false), .un .not (.t 23)⟩, o 25 (.pick (.t 17) (.c (.bool true)) (.t 24)), o 26 (.mv (.t 25)), ⟨some 27, some (26, false), .fa 2 (.t 2)⟩, ⟨some 28, some (26, false), .ld 1 false (.t 27)⟩, ⟨some 29, some (26, false), .mv (.t 1)⟩, ⟨some 30, some (26, false), .ia 1 (.t 28) (.t 29)⟩, ⟨some 31, some (26, false), .ld 1 false (.t 30)⟩, ⟨some 32, some (26, false), .bin .neq (.t 31) (.c (.int .i64 (-1)))⟩, o 33 (.pick (.t 26) (.c (.bool true)) (.t 32))]) (.cond (.t 33) (.seq (.reg [o 34 (.ld 3 true (.t 2)), o 35 (.call 89 [(.t 34)]), ⟨none, none, .st 3 (.t 4) (.t 35)⟩, o 5 (.mv (.c (.int .i64 (-1)))), o 6 (.mv (.c (.bool false)))]) (.ret)) (.skip))) (.seq (.reg [o 37 (.ld 3 true (.t 2)), o 38 (.call 96 [(.t 37)]), o 36 (.mv (.t 38)), o 39 (.ex (.t 36) 0), o 40 (.ex (.t 36) 1), o 7 (.new [(.int .i64 0), (.nil 1), (.nil 1)]), ⟨none, none, .st 3 (.t 7) (.t 39)⟩, o 8 (.mv (.t 40))]) (.seq (.reg [o 41 (.fa 2 (.t 7)), o 42 (.ld 1 false (.t 41)), o 43 (.mv (.t 1)), o 44 (.fa 0 (.t 2)), o 45 (.ld 1 false (.t 44)), o 46 (.ia 1 (.t 42) (.t 43)), ⟨none, none, .st 1 (.t 46) (.t 45)⟩]) (.seq (.reg [o 47 (.ld 3 true (.t 7)), o 48 (.mv (.t 8)), ⟨none, none, .st 3 (.t 4) (.t 47)⟩, o 5 (.mv (.t 48)), o 6 (.mv (.c (.bool true)))]) (.ret)))))⟩
def K_impl_DelayIn : Keeps := []
theorem r_impl_DelayIn : resolveF Tryz.prog Tryz.f98 K_impl_DelayIn = some F_impl_DelayIn := by kernel_rfl
def X_impl_DelayIn : Ctx := Ctx.cons 112 G_impl_GateOk (Ctx.cons 24 G_impl_within (Ctx.cons 89 G_impl_copyGate (Ctx.cons 96 G_impl_Leave (fun _ => none))))
theorem co_impl_DelayIn : CtxOk Tryz.prog X_impl_DelayIn := CtxOk.cons (CtxOk.cons (CtxOk.cons (CtxOk.cons (CtxOk.nil) ok_impl_Leave) ok_impl_copyGate) ok_impl_within) ok_impl_GateOk
theorem cx_impl_DelayIn : (CX X_impl_DelayIn 112 G_impl_GateOk false) ∧ (CX X_impl_DelayIn 24 G_impl_within false) ∧ (CX X_impl_DelayIn 89 G_impl_copyGate false) ∧ (CX X_impl_DelayIn 96 G_impl_Leave false) := ⟨cxI rfl rfl, cxI rfl rfl, cxI rfl rfl, cxI rfl rfl⟩
def S_impl_DelayIn : ByV := ⟨none, false, semF X_impl_DelayIn F_impl_DelayIn none false⟩
def G_impl_DelayIn : CK := .byv S_impl_DelayIn
theorem sg_impl_DelayIn (args : List AV) : S_impl_DelayIn.sem args = semF X_impl_DelayIn F_impl_DelayIn none false args := rfl
theorem cl_impl_DelayIn (args hp) : callS G_impl_DelayIn args hp = byvS S_impl_DelayIn args hp := callS_byv rfl rfl args hp
theorem ok_impl_DelayIn : InlOk Tryz.prog 98 (callS G_impl_DelayIn) := byv_none co_impl_DelayIn Tryz.func98 r_impl_DelayIn rfl (fun _ _ h => h)
def F_impl_Wake : RF := ⟨28, 2, [.cell 4 4 true],
  .seq (.reg [o 2 (.box (.t 0)), o 4 (.new [(.nil 3), (.nil 1), (.nil 3), (.nil 1)])]) (.seq (.reg [o 6 (.ld 4 true (.t 2)), o 7 (.call 60 [(.t 6)]), o 5 (.new [(.nil 3), (.nil 1), (.nil 3), (.nil 1)]), ⟨none, none, .st 4 (.t 5) (.t 7)⟩]) (.seq (.seq (.reg [o 8 (.mv (.t 1)), o 9 (.fa 2 (.t 2)), o 10 (.ld 1 false (.t 9)), o 11 (.len false (.t 10)), o 12 (.bin .sub (.t 11) (.c (.int .i64 1))), o 13 (.call 24 [(.t 8), (.c (.int .i64 0)), (.t 12)]), o 14 (.mv (.t 13)), ⟨some 15, some (14, true), .fa 1 (.t 2)⟩, ⟨some 16, some (14, true), .ld 1 false (.t 15)⟩, ⟨some 17, some (14, true), .mv (.t 1)⟩, ⟨some 18, some (14, true), .call 113 [(.t 16), (.t 17)]⟩, ⟨some 19, some (14, true), .un .not (.t 18)⟩, o 20 (.pick (.t 14) (.t 19) (.c (.bool false)))]) (.cond (.t 20) (.reg [o 21 (.fa 1 (.t 5)), o 22 (.ld 1 false (.t 21)), o 23 (.mv (.t 1)), o 24 (.bsl 1 [(.t 23)]), o 25 (.app true 1 8 (.t 22) (.t 24)), o 26 (.fa 1 (.t 5)), ⟨none, none, .st 1 (.t 26) (.t 25)⟩]) (.skip))) (.seq (.reg [o 27 (.ld 4 true (.t 5)), ⟨none, none, .st 4 (.t 4) (.t 27)⟩]) (.ret))))⟩
def K_impl_Wake : Keeps := []
theorem r_impl_Wake : resolveF Tryz.prog Tryz.f99 K_impl_Wake = some F_impl_Wake := by kernel_rfl
def X_impl_Wake : Ctx := Ctx.cons 60 G_impl_copyKernel (Ctx.cons 24 G_impl_within (Ctx.cons 113 G_slices_Contains_int_int (fun _ => none)))
theorem co_impl_Wake : CtxOk Tryz.prog X_impl_Wake := CtxOk.cons (CtxOk.cons (CtxOk.cons (CtxOk.nil) ok_slices_Contains_int_int) ok_impl_within) ok_impl_copyKernel
theorem cx_impl_Wake : (CX X_impl_Wake 60 G_impl_copyKernel false) ∧ (CX X_impl_Wake 24 G_impl_within false) ∧ (CX X_impl_Wake 113 G_slices_Contains_int_int false) := ⟨cxI rfl rfl, cxI rfl rfl, cxI rfl rfl⟩
def S_impl_Wake : ByV := ⟨none, false, semF X_impl_Wake F_impl_Wake none false⟩
def G_impl_Wake : CK := .byv S_impl_Wake
theorem sg_impl_Wake (args : List AV) : S_impl_Wake.sem args = semF X_impl_Wake F_impl_Wake none false args := rfl
theorem cl_impl_Wake (args hp) : callS G_impl_Wake args hp = byvS S_impl_Wake args hp := callS_byv rfl rfl args hp
theorem ok_impl_Wake : InlOk Tryz.prog 99 (callS G_impl_Wake) := byv_none co_impl_Wake Tryz.func99 r_impl_Wake rfl (fun _ _ h => h)
def F__impl_Machine_gateCall : RF := ⟨153, 4, [],
  .seq (.reg [o 14 (.mv (.t 0)), o 15 (.nck (.t 14)), o 16 (.fa 4 (.t 15)), o 17 (.ld 1 false (.t 16)), o 18 (.mv (.t 1)), o 19 (.ia 3 (.t 17) (.t 18)), o 20 (.fa 2 (.t 19)), o 21 (.ld 1 false (.t 20)), o 8 (.mv (.t 21))]) (.seq (.reg [o 22 (.mv (.t 3)), o 9 (.mv (.t 22))]) (.seq (.seq (.reg [o 23 (.mv (.t 2)), o 24 (.bin .eql (.t 23) (.c (.int .i64 3))), o 25 (.mv (.t 24)), ⟨some 26, some (25, false), .mv (.t 2)⟩, ⟨some 27, some (25, false), .bin .eql (.t 26) (.c (.int .i64 4))⟩, o 28 (.pick (.t 25) (.c (.bool true)) (.t 27))]) (.cond (.t 28) (.reg [o 29 (.mv (.t 3)), o 30 (.bin .quo (.t 29) (.c (.int .i64 2))), o 9 (.mv (.t 30))]) (.skip))) (.seq (.seq (.reg [o 31 (.mv (.t 3)), o 32 (.bin .lss (.t 31) (.c (.int .i64 0))), o 33 (.mv (.t 32)), ⟨some 34, some (33, false), .mv (.t 9)⟩, ⟨some 35, some (33, false), .mv (.t 0)⟩, ⟨some 36, some (33, false), .nck (.t 35)⟩, ⟨some 37, some (33, false), .fa 5 (.t 36)⟩, ⟨some 38, some (33, false), .fa 0 (.t 37)⟩, ⟨some 39, some (33, false), .ld 1 false (.t 38)⟩, ⟨some 40, some (33, false), .len false (.t 39)⟩, ⟨some 41, some (33, false), .bin .geq (.t 34) (.t 40)⟩, o 42 (.pick (.t 33) (.c (.bool true)) (.t 41))]) (.cond (.t 42) (.seq (.reg [o 43 (.mv (.t 0)), o 44 (.mv (.t 8)), o 45 (.call 29 [(.t 43), (.t 44), (.c (.int .i64 8)), (.c (.int .i64 4))])]) (.ret)) (.skip))) (.seq (.reg [o 46 (.mv (.t 0)), o 47 (.nck (.t 46)), o 48 (.fa 5 (.t 47)), o 49 (.fa 0 (.t 48)), o 50 (.ld 1 false (.t 49)), o 51 (.mv (.t 9)), o 52 (.ia 3 (.t 50) (.t 51)), o 10 (.mv (.t 52))]) (.seq (.reg [o 11 (.mv (.c (.int .i64 (-1))))]) (.seq (.seq (.reg [o 53 (.mv (.t 2))]) (.block 0 (.seq (.reg [o 79 (.bin .eql (.t 53) (.c (.int .i64 1))), o 78 (.mv (.t 79))]) (.cond (.t 78) (.seq (.reg [o 12 (.mv (.c (.bool false)))]) (.seq (.reg [o 81 (.mv (.t 10)), o 82 (.mv (.t 10)), o 83 (.nck (.t 82)), o 84 (.ld 3 true (.t 83)), o 85 (.mv (.t 8)), o 86 (.call 94 [(.t 84), (.t 85)]), o 80 (.mv (.t 86)), o 87 (.ex (.t 80) 0), o 88 (.ex (.t 80) 1), o 89 (.nck (.t 81)), ⟨none, none, .st 3 (.t 89) (.t 87)⟩, o 12 (.mv (.t 88))]) (.seq (.reg [o 90 (.mv (.t 0)), o 91 (.mv (.t 8)), o 92 (.mv (.t 9)), o 93 (.call 29 [(.t 90), (.t 91), (.c (.int .i64 1)), (.t 92)])]) (.seq (.reg [o 94 (.mv (.t 12)), o 95 (.un .not (.t 94))]) (.cond (.t 95) (.reg [o 96 (.mv (.t 0)), o 97 (.mv (.t 1)), o 98 (.call 95 [(.t 96), (.t 97)])]) (.skip)))))) (.seq (.reg [o 100 (.bin .eql (.t 53) (.c (.int .i64 2))), o 99 (.mv (.t 100))]) (.cond (.t 99) (.seq (.reg [o 102 (.mv (.t 10)), o 103 (.mv (.t 10)), o 104 (.nck (.t 103)), o 105 (.ld 3 true (.t 104)), o 106 (.call 96 [(.t 105)]), o 101 (.mv (.t 106)), o 107 (.ex (.t 101) 0), o 108 (.ex (.t 101) 1), o 109 (.nck (.t 102)), ⟨none, none, .st 3 (.t 109) (.t 107)⟩, o 11 (.mv (.t 108))]) (.reg [o 110 (.mv (.t 0)), o 111 (.mv (.t 8)), o 112 (.mv (.t 9)), o 113 (.call 29 [(.t 110), (.t 111), (.c (.int .i64 2)), (.t 112)])])) (.seq (.reg [o 115 (.bin .eql (.t 53) (.c (.int .i64 4))), o 114 (.mv (.t 115))]) (.cond (.t 114) (.seq (.reg [o 117 (.mv (.t 10)), o 118 (.mv (.t 10)), o 119 (.nck (.t 118)), o 120 (.ld 3 true (.t 119)), o 121 (.mv (.t 3)), o 122 (.bin .rem (.t 121) (.c (.int .i64 2))), o 123 (.call 97 [(.t 120), (.t 122)]), o 116 (.mv (.t 123)), o 124 (.ex (.t 116) 0), o 125 (.ex (.t 116) 1), o 126 (.nck (.t 117)), ⟨none, none, .st 3 (.t 126) (.t 124)⟩, o 11 (.mv (.t 125))]) (.reg [o 127 (.mv (.t 0)), o 128 (.mv (.t 8)), o 129 (.mv (.t 9)), o 130 (.call 29 [(.t 127), (.t 128), (.c (.int .i64 4)), (.t 129)])])) (.seq (.reg [o 13 (.mv (.c (.bool false)))]) (.seq (.reg [o 55 (.mv (.t 10)), o 56 (.mv (.t 10)), o 57 (.nck (.t 56)), o 58 (.ld 3 true (.t 57)), o 59 (.mv (.t 3)), o 60 (.bin .rem (.t 59) (.c (.int .i64 2))), o 61 (.call 98 [(.t 58), (.t 60)]), o 54 (.mv (.t 61)), o 62 (.ex (.t 54) 0), o 63 (.ex (.t 54) 1), o 64 (.ex (.t 54) 2), o 65 (.nck (.t 55)), ⟨none, none, .st 3 (.t 65) (.t 62)⟩, o 11 (.mv (.t 63)), o 13 (.mv (.t 64))]) (.seq (.seq (.reg [o 66 (.mv (.t 13)), o 67 (.un .not (.t 66))]) (.cond (.t 67) (.seq (.reg [o 68 (.mv (.t 0)), o 69 (.mv (.t 8)), o 70 (.call 29 [(.t 68), (.t 69), (.c (.int .i64 8)), (.c (.int .i64 3))])]) (.ret)) (.skip))) (.seq (.reg [o 71 (.mv (.t 0)), o 72 (.mv (.t 8)), o 73 (.mv (.t 9)), o 74 (.call 29 [(.t 71), (.t 72), (.c (.int .i64 3)), (.t 73)])]) (.reg [o 75 (.mv (.t 0)), o 76 (.mv (.t 1)), o 77 (.call 95 [(.t 75), (.t 76)])]))))))))))))) (.seq (.seq (.reg [o 131 (.mv (.t 0)), o 132 (.nck (.t 131)), o 133 (.fa 3 (.t 132)), o 134 (.ld 1 false (.t 133)), o 135 (.len false (.t 134)), o 136 (.bin .gtr (.t 135) (.c (.int .i64 0)))]) (.cond (.t 136) (.reg [o 137 (.mv (.t 0)), o 138 (.nck (.t 137)), o 139 (.fa 3 (.t 138)), o 140 (.ld 1 false (.t 139)), o 141 (.ia 1 (.t 140) (.c (.int .i64 0))), ⟨none, none, .st 1 (.t 141) (.c (.int .i64 0))⟩]) (.skip))) (.seq (.reg [o 142 (.mv (.t 11)), o 143 (.bin .geq (.t 142) (.c (.int .i64 0)))]) (.cond (.t 143) (.reg [o 144 (.mv (.t 0)), o 145 (.mv (.t 0)), o 146 (.nck (.t 145)), o 147 (.fa 5 (.t 146)), o 148 (.ld 4 true (.t 147)), o 149 (.mv (.t 11)), o 150 (.call 99 [(.t 148), (.t 149)]), o 151 (.nck (.t 144)), o 152 (.fa 5 (.t 151)), ⟨none, none, .st 4 (.t 152) (.t 150)⟩]) (.skip))))))))))⟩
def K__impl_Machine_gateCall : Keeps := []
theorem r__impl_Machine_gateCall : resolveF Tryz.prog Tryz.f70 K__impl_Machine_gateCall = some F__impl_Machine_gateCall := by kernel_rfl
def X__impl_Machine_gateCall : Ctx := Ctx.cons 29 G__impl_Machine_tell (Ctx.cons 94 G_impl_Arrive (Ctx.cons 95 G__impl_Machine_holdCore (Ctx.cons 96 G_impl_Leave (Ctx.cons 97 G_impl_ContinueAt (Ctx.cons 98 G_impl_DelayIn (Ctx.cons 99 G_impl_Wake (fun _ => none)))))))
theorem co__impl_Machine_gateCall : CtxOk Tryz.prog X__impl_Machine_gateCall := CtxOk.cons (CtxOk.cons (CtxOk.cons (CtxOk.cons (CtxOk.cons (CtxOk.cons (CtxOk.cons (CtxOk.nil) ok_impl_Wake) ok_impl_DelayIn) ok_impl_ContinueAt) ok_impl_Leave) ok__impl_Machine_holdCore) ok_impl_Arrive) ok__impl_Machine_tell
theorem cx__impl_Machine_gateCall : (CX X__impl_Machine_gateCall 29 G__impl_Machine_tell true) ∧ (CX X__impl_Machine_gateCall 94 G_impl_Arrive false) ∧ (CX X__impl_Machine_gateCall 95 G__impl_Machine_holdCore true) ∧ (CX X__impl_Machine_gateCall 96 G_impl_Leave false) ∧ (CX X__impl_Machine_gateCall 97 G_impl_ContinueAt false) ∧ (CX X__impl_Machine_gateCall 98 G_impl_DelayIn false) ∧ (CX X__impl_Machine_gateCall 99 G_impl_Wake false) := ⟨cxI rfl rfl, cxI rfl rfl, cxI rfl rfl, cxI rfl rfl, cxI rfl rfl, cxI rfl rfl, cxI rfl rfl⟩
def G__impl_Machine_gateCall : CK := .inl (runF X__impl_Machine_gateCall F__impl_Machine_gateCall)
theorem cl__impl_Machine_gateCall (args hp) : callS G__impl_Machine_gateCall args hp = runF X__impl_Machine_gateCall F__impl_Machine_gateCall args hp := rfl
theorem ok__impl_Machine_gateCall : InlOk Tryz.prog 70 (callS G__impl_Machine_gateCall) := runF_ok co__impl_Machine_gateCall Tryz.func70 r__impl_Machine_gateCall
def F__impl_Machine_call : RF := ⟨97, 3, [],
  .seq (.reg [o 5 (.box (.t 2))]) (.seq (.reg [o 9 (.mv (.t 0)), o 10 (.nck (.t 9)), o 11 (.fa 4 (.t 10)), o 12 (.ld 1 false (.t 11)), o 13 (.mv (.t 1)), o 14 (.ia 3 (.t 12) (.t 13)), o 6 (.mv (.t 14))]) (.seq (.reg [o 15 (.mv (.t 6)), o 16 (.nck (.t 15)), o 17 (.fa 2 (.t 16)), o 18 (.ld 1 false (.t 17)), o 7 (.mv (.t 18))]) (.seq (.reg [o 19 (.fa 1 (.t 5)), o 20 (.ld 1 false (.t 19))]) (.block 0 (.seq (.reg [o 43 (.bin .eql (.t 20) (.c (.int .i64 5))), o 42 (.mv (.t 43))]) (.cond (.t 42) (.reg [o 44 (.mv (.t 0)), o 45 (.mv (.t 7)), o 46 (.mv (.t 6)), o 47 (.nck (.t 46)), o 48 (.fa 0 (.t 47)), o 49 (.ld 1 false (.t 48)), o 50 (.ia 1 (.t 49) (.c (.int .i64 0))), o 51 (.ld 1 false (.t 50)), o 52 (.call 29 [(.t 44), (.t 45), (.c (.int .i64 5)), (.t 51)])]) (.seq (.reg [o 54 (.bin .eql (.t 20) (.c (.int .i64 6))), o 53 (.mv (.t 54))]) (.cond (.t 53) (.seq (.reg [o 8 (.mv (.c (.int .i64 0)))]) (.seq (.seq (.reg [o 55 (.mv (.t 0)), o 56 (.nck (.t 55)), o 57 (.fa 9 (.t 56)), o 58 (.ld 1 false (.t 57)), o 59 (.len false (.t 58)), o 60 (.bin .gtr (.t 59) (.c (.int .i64 0)))]) (.cond (.t 60) (.regd [(0, o 61 (.mv (.t 0))), (0, o 62 (.mv (.t 0))), (0, o 63 (.nck (.t 62))), (0, o 64 (.fa 9 (.t 63))), (1, o 65 (.ld 1 false (.t 64))), (1, o 66 (.ia 1 (.t 65) (.c (.int .i64 0)))), (1, o 67 (.ld 1 false (.t 66))), (0, o 68 (.mv (.t 0))), (0, o 69 (.nck (.t 68))), (0, o 70 (.fa 9 (.t 69))), (1, o 71 (.ld 1 false (.t 70))), (1, o 72 (.slc false 1 (.t 71) (some (.c (.int .i64 1))) none)), (0, o 8 (.mv (.t 67))), (0, o 73 (.nck (.t 61))), (0, o 74 (.fa 9 (.t 73))), (1, ⟨none, none, .st 1 (.t 74) (.t 72)⟩)] []) (.skip))) (.seq (.reg [o 75 (.mv (.t 6)), o 76 (.nck (.t 75)), o 77 (.fa 0 (.t 76)), o 78 (.ld 1 false (.t 77)), o 79 (.mv (.t 8)), o 80 (.ia 1 (.t 78) (.c (.int .i64 0))), ⟨none, none, .st 1 (.t 80) (.t 79)⟩]) (.reg [o 81 (.mv (.t 0)), o 82 (.mv (.t 7)), o 83 (.mv (.t 8)), o 84 (.call 29 [(.t 81), (.t 82), (.c (.int .i64 6)), (.t 83)])])))) (.seq (.seq (.reg [o 86 (.bin .eql (.t 20) (.c (.int .i64 1))), o 85 (.mv (.t 86))]) (.cond (.t 85) (.skip) (.seq (.reg [o 87 (.bin .eql (.t 20) (.c (.int .i64 2))), o 85 (.mv (.t 87))]) (.cond (.t 85) (.skip) (.seq (.reg [o 88 (.bin .eql (.t 20) (.c (.int .i64 3))), o 85 (.mv (.t 88))]) (.cond (.t 85) (.skip) (.reg [o 89 (.bin .eql (.t 20) (.c (.int .i64 4))), o 85 (.mv (.t 89))]))))))) (.cond (.t 85) (.reg [o 90 (.mv (.t 0)), o 91 (.mv (.t 1)), o 92 (.fa 1 (.t 5)), o 93 (.ld 1 false (.t 92)), o 94 (.fa 3 (.t 5)), o 95 (.ld 1 false (.t 94)), o 96 (.call 70 [(.t 90), (.t 91), (.t 93), (.t 95)])]) (.seq (.reg [o 21 (.mv (.t 0)), o 22 (.mv (.t 7)), o 23 (.call 29 [(.t 21), (.t 22), (.c (.int .i64 7)), (.c (.int .i64 0))])]) (.seq (.seq (.reg [o 24 (.mv (.t 7)), o 25 (.mv (.t 0)), o 26 (.nck (.t 25)), o 27 (.fa 5 (.t 26)), o 28 (.fa 3 (.t 27)), o 29 (.ld 1 false (.t 28)), o 30 (.len false (.t 29)), o 31 (.bin .lss (.t 24) (.t 30))]) (.cond (.t 31) (.reg [o 32 (.mv (.t 0)), o 33 (.nck (.t 32)), o 34 (.fa 5 (.t 33)), o 35 (.fa 3 (.t 34)), o 36 (.ld 1 false (.t 35)), o 37 (.mv (.t 7)), o 38 (.ia 1 (.t 36) (.t 37)), ⟨none, none, .st 1 (.t 38) (.c (.bool true))⟩]) (.skip))) (.reg [o 39 (.mv (.t 6)), o 40 (.call 62 []), o 41 (.nck (.t 39)), ⟨none, none, .st 3 (.t 41) (.t 40)⟩])))))))))))))⟩
def K__impl_Machine_call : Keeps := []
theorem r__impl_Machine_call : resolveF Tryz.prog Tryz.f28 K__impl_Machine_call = some F__impl_Machine_call := by kernel_rfl
def X__impl_Machine_call : Ctx := Ctx.cons 29 G__impl_Machine_tell (Ctx.cons 70 G__impl_Machine_gateCall (Ctx.cons 62 G_impl_CoreNew (fun _ => none)))
theorem co__impl_Machine_call : CtxOk Tryz.prog X__impl_Machine_call := CtxOk.cons (CtxOk.cons (CtxOk.cons (CtxOk.nil) ok_impl_CoreNew) ok__impl_Machine_gateCall) ok__impl_Machine_tell
theorem cx__impl_Machine_call : (CX X__impl_Machine_call 29 G__impl_Machine_tell true) ∧ (CX X__impl_Machine_call 70 G__impl_Machine_gateCall true) ∧ (CX X__impl_Machine_call 62 G_impl_CoreNew false) := ⟨cxI rfl rfl, cxI rfl rfl, cxI rfl rfl⟩
def G__impl_Machine_call : CK := .inl (runF X__impl_Machine_call F__impl_Machine_call)
theorem cl__impl_Machine_call (args hp) : callS G__impl_Machine_call args hp = runF X__impl_Machine_call F__impl_Machine_call args hp := rfl
theorem ok__impl_Machine_call : InlOk Tryz.prog 28 (callS G__impl_Machine_call) := runF_ok co__impl_Machine_call Tryz.func28 r__impl_Machine_call
def F_impl_StepMachine : RF := ⟨95, 2, [.cell 4 12 true, .t 5],
  .seq (.reg [o 2 (.box (.t 0)), o 4 (.new [(.nil 1), (.nil 1), (.int .i64 0), (.nil 1), (.nil 3), (.nil 3), (.nil 1), (.nil 3), (.nil 1), (.nil 1), (.nil 3), (.bool false)]), o 5 (.mv (.c (.bool false)))]) (.seq (.reg [o 16 (.ld 12 true (.t 2)), o 17 (.call 23 [(.t 16)]), o 6 (.new [(.nil 1), (.nil 1), (.int .i64 0), (.nil 1), (.nil 3), (.nil 3), (.nil 1), (.nil 3), (.nil 1), (.nil 1), (.nil 3), (.bool false)]), ⟨none, none, .st 12 (.t 6) (.t 17)⟩]) (.seq (.seq (.reg [o 18 (.fa 11 (.t 2)), o 19 (.ld 1 false (.t 18)), o 20 (.mv (.t 19)), ⟨some 21, some (20, false), .mv (.t 1)⟩, ⟨some 22, some (20, false), .fa 4 (.t 2)⟩, ⟨some 23, some (20, false), .ld 1 false (.t 22)⟩, ⟨some 24, some (20, false), .len false (.t 23)⟩, ⟨some 25, some (20, false), .bin .sub (.t 24) (.c (.int .i64 1))⟩, ⟨some 26, some (20, false), .call 24 [(.t 21), (.c (.int .i64 0)), (.t 25)]⟩, ⟨some 27, some (20, false), .un .not (.t 26)⟩, o 28 (.pick (.t 20) (.c (.bool true)) (.t 27))]) (.cond (.t 28) (.seq (.reg [o 29 (.ld 12 true (.t 6)), ⟨none, none, .st 12 (.t 4) (.t 29)⟩, o 5 (.mv (.c (.bool false)))]) (.ret)) (.skip))) (.seq (.reg [o 30 (.fa 4 (.t 2)), o 31 (.ld 1 false (.t 30)), o 32 (.mv (.t 1)), o 33 (.ia 3 (.t 31) (.t 32)), o 34 (.ld 3 true (.t 33)), o 7 (.new [(.nil 1), (.int .i64 0), (.int .i64 0)]), ⟨none, none, .st 3 (.t 7) (.t 34)⟩]) (.seq (.seq (.reg [o 35 (.fa 2 (.t 7)), o 36 (.ld 1 false (.t 35)), o 37 (.bin .lss (.t 36) (.c (.int .i64 0)))]) (.cond (.t 37) (.seq (.reg [o 39 (.fa 5 (.t 2)), o 40 (.ld 4 true (.t 39)), o 41 (.call 25 [(.t 40)]), o 38 (.mv (.t 41)), o 42 (.ex (.t 38) 0), o 43 (.ex (.t 38) 1), o 44 (.ex (.t 38) 2), o 8 (.new [(.nil 3), (.nil 1), (.nil 3), (.nil 1)]), o 9 (.new [(.nil 1), (.int .i64 0), (.int .i64 0)]), ⟨none, none, .st 4 (.t 8) (.t 42)⟩, ⟨none, none, .st 3 (.t 9) (.t 43)⟩, o 10 (.mv (.t 44))]) (.seq (.seq (.reg [o 45 (.mv (.t 10))]) (.cond (.t 45) (.regd [(0, o 46 (.fa 4 (.t 6))), (1, o 47 (.ld 1 false (.t 46))), (0, o 48 (.mv (.t 1))), (1, o 49 (.ld 4 true (.t 8))), (2, o 50 (.ld 3 true (.t 9))), (0, o 51 (.fa 5 (.t 6))), (2, ⟨none, none, .st 4 (.t 51) (.t 49)⟩), (1, o 52 (.ia 3 (.t 47) (.t 48))), (1, ⟨none, none, .st 3 (.t 52) (.t 50)⟩)] [(4, 6)]) (.skip))) (.seq (.reg [o 53 (.ld 12 true (.t 6)), o 54 (.mv (.t 10)), ⟨none, none, .st 12 (.t 4) (.t 53)⟩, o 5 (.mv (.t 54))]) (.ret)))) (.skip))) (.seq (.reg [o 56 (.ld 3 true (.t 7)), o 57 (.fa 0 (.t 2)), o 58 (.fa 0 (.t 57)), o 59 (.ld 1 false (.t 58)), o 60 (.fa 3 (.t 2)), o 61 (.ld 1 false (.t 60)), o 62 (.call 26 [(.t 56), (.t 59), (.t 61)]), o 55 (.mv (.t 62)), o 63 (.ex (.t 55) 0), o 64 (.ex (.t 55) 1), o 65 (.ex (.t 55) 2), o 11 (.new [(.nil 1), (.int .i64 0), (.int .i64 0)]), ⟨none, none, .st 3 (.t 11) (.t 63)⟩, o 12 (.mv (.t 64)), o 13 (.mv (.t 65))]) (.seq (.reg [o 66 (.fa 4 (.t 6)), o 67 (.ld 1 false (.t 66)), o 68 (.mv (.t 1)), o 69 (.ld 3 true (.t 11)), o 70 (.mv (.t 12)), o 71 (.ia 3 (.t 67) (.t 68)), ⟨none, none, .st 3 (.t 71) (.t 69)⟩, o 72 (.fa 3 (.t 6)), ⟨none, none, .st 1 (.t 72) (.t 70)⟩]) (.seq (.seq (.reg [o 73 (.mv (.t 13))]) (.block 0 (.seq (.reg [o 79 (.bin .eql (.t 73) (.c (.int .i64 0))), o 78 (.mv (.t 79))]) (.cond (.t 78) (.skip) (.seq (.reg [o 81 (.bin .eql (.t 73) (.c (.int .i64 10))), o 80 (.mv (.t 81))]) (.cond (.t 80) (.seq (.reg [o 83 (.fa 0 (.t 2)), o 84 (.fa 0 (.t 83)), o 85 (.ld 1 false (.t 84)), o 86 (.fa 1 (.t 7)), o 87 (.ld 1 false (.t 86)), o 88 (.call 27 [(.t 85), (.t 87)]), o 82 (.mv (.t 88)), o 89 (.ex (.t 82) 0), o 90 (.ex (.t 82) 1), o 14 (.new [(.int .i64 0), (.int .i64 0), (.int .i64 0), (.int .i64 0)]), ⟨none, none, .st 4 (.t 14) (.t 89)⟩, o 15 (.mv (.t 90))]) (.reg [o 91 (.mv (.t 1)), o 92 (.ld 4 true (.t 14)), o 93 (.call 28 [(.t 6), (.t 91), (.t 92)])])) (.reg [o 74 (.fa 2 (.t 7)), o 75 (.ld 1 false (.t 74)), o 76 (.mv (.t 13)), o 77 (.call 29 [(.t 6), (.t 75), (.c (.int .i64 8)), (.t 76)])]))))))) (.seq (.reg [o 94 (.ld 12 true (.t 6)), ⟨none, none, .st 12 (.t 4) (.t 94)⟩, o 5 (.mv (.c (.bool true)))]) (.ret)))))))))⟩
def K_impl_StepMachine : Keeps := []
theorem r_impl_StepMachine : resolveF Tryz.prog Tryz.f7 K_impl_StepMachine = some F_impl_StepMachine := by kernel_rfl
def X_impl_StepMachine : Ctx := Ctx.cons 23 G_impl_copyMachine (Ctx.cons 24 G_impl_within (Ctx.cons 25 G_impl_Pick (Ctx.cons 26 G_impl_StepCore (Ctx.cons 27 G_impl_wordAt (Ctx.cons 28 G__impl_Machine_call (Ctx.cons 29 G__impl_Machine_tell (fun _ => none)))))))
theorem co_impl_StepMachine : CtxOk Tryz.prog X_impl_StepMachine := CtxOk.cons (CtxOk.cons (CtxOk.cons (CtxOk.cons (CtxOk.cons (CtxOk.cons (CtxOk.cons (CtxOk.nil) ok__impl_Machine_tell) ok__impl_Machine_call) ok_impl_wordAt) ok_impl_StepCore) ok_impl_Pick) ok_impl_within) ok_impl_copyMachine
theorem cx_impl_StepMachine : (CX X_impl_StepMachine 23 G_impl_copyMachine false) ∧ (CX X_impl_StepMachine 24 G_impl_within false) ∧ (CX X_impl_StepMachine 25 G_impl_Pick false) ∧ (CX X_impl_StepMachine 26 G_impl_StepCore false) ∧ (CX X_impl_StepMachine 27 G_impl_wordAt false) ∧ (CX X_impl_StepMachine 28 G__impl_Machine_call true) ∧ (CX X_impl_StepMachine 29 G__impl_Machine_tell true) := ⟨cxI rfl rfl, cxI rfl rfl, cxI rfl rfl, cxI rfl rfl, cxI rfl rfl, cxI rfl rfl, cxI rfl rfl⟩
def S_impl_StepMachine : ByV := ⟨none, false, semF X_impl_StepMachine F_impl_StepMachine none false⟩
def G_impl_StepMachine : CK := .byv S_impl_StepMachine
theorem sg_impl_StepMachine (args : List AV) : S_impl_StepMachine.sem args = semF X_impl_StepMachine F_impl_StepMachine none false args := rfl
theorem cl_impl_StepMachine (args hp) : callS G_impl_StepMachine args hp = byvS S_impl_StepMachine args hp := callS_byv rfl rfl args hp
theorem ok_impl_StepMachine : InlOk Tryz.prog 7 (callS G_impl_StepMachine) := byv_none co_impl_StepMachine Tryz.func7 r_impl_StepMachine rfl (fun _ _ h => h)
def B0_laws_eqIntS : RC :=
  .seq (.seq (.reg [o 11 (.mv (.t 5)), o 12 (.mv (.t 0)), o 13 (.len false (.t 12)), o 14 (.bin .lss (.t 11) (.t 13))]) (.cond (.t 14) (.skip) (.exit 0))) (.seq (.block 1 (.seq (.regd [(0, o 17 (.mv (.t 0))), (0, o 18 (.mv (.t 5))), (1, o 19 (.ia 1 (.t 17) (.t 18))), (1, o 20 (.ld 1 false (.t 19))), (0, o 21 (.mv (.t 1))), (0, o 22 (.mv (.t 5))), (1, o 23 (.ia 1 (.t 21) (.t 22))), (1, o 24 (.ld 1 false (.t 23))), (0, o 25 (.bin .neq (.t 20) (.t 24)))] []) (.cond (.t 25) (.seq (.reg [o 4 (.mv (.c (.bool false)))]) (.ret)) (.skip)))) (.reg [o 15 (.mv (.t 5)), o 16 (.bin .add (.t 15) (.c (.int .i64 1))), o 5 (.mv (.t 16))]))
def F_laws_eqIntS : RF := ⟨26, 2, [.t 4],
  .seq (.reg [o 4 (.mv (.c (.bool false)))]) (.seq (.seq (.reg [o 6 (.mv (.t 0)), o 7 (.len false (.t 6)), o 8 (.mv (.t 1)), o 9 (.len false (.t 8)), o 10 (.bin .neq (.t 7) (.t 9))]) (.cond (.t 10) (.seq (.reg [o 4 (.mv (.c (.bool false)))]) (.ret)) (.skip))) (.seq (.seq (.reg [o 5 (.mv (.c (.int .i64 0)))]) (.block 0 (.loop [0, 1, 5] [(1, []), (0, [4])] B0_laws_eqIntS))) (.seq (.reg [o 4 (.mv (.c (.bool true)))]) (.ret))))⟩
def K_laws_eqIntS : Keeps := [([0, 1, 5], [(1, []), (0, [4])])]
theorem r_laws_eqIntS : resolveF Tryz.prog Tryz.f31 K_laws_eqIntS = some F_laws_eqIntS := by kernel_rfl
def X_laws_eqIntS : Ctx := fun _ => none
theorem co_laws_eqIntS : CtxOk Tryz.prog X_laws_eqIntS := CtxOk.nil
theorem cx_laws_eqIntS : True := trivial
def S_laws_eqIntS : ByV := ⟨none, false, semF X_laws_eqIntS F_laws_eqIntS none false⟩
def G_laws_eqIntS : CK := .byv S_laws_eqIntS
theorem sg_laws_eqIntS (args : List AV) : S_laws_eqIntS.sem args = semF X_laws_eqIntS F_laws_eqIntS none false args := rfl
theorem cl_laws_eqIntS (args hp) : callS G_laws_eqIntS args hp = byvS S_laws_eqIntS args hp := callS_byv rfl rfl args hp
theorem ok_laws_eqIntS : InlOk Tryz.prog 31 (callS G_laws_eqIntS) := byv_none co_laws_eqIntS Tryz.func31 r_laws_eqIntS rfl (fun _ _ h => h)
def F_laws_eqImage : RF := ⟨22, 2, [.t 4],
  .seq (.reg [o 2 (.box (.t 0)), o 3 (.box (.t 1)), o 4 (.mv (.c (.bool false)))]) (.seq (.seq (.reg [o 5 (.fa 0 (.t 2)), o 6 (.ld 1 false (.t 5)), o 7 (.fa 0 (.t 3)), o 8 (.ld 1 false (.t 7)), o 9 (.call 31 [(.t 6), (.t 8)]), o 10 (.un .not (.t 9))]) (.cond (.t 10) (.seq (.reg [o 4 (.mv (.c (.bool false)))]) (.ret)) (.skip))) (.seq (.seq (.reg [o 11 (.fa 1 (.t 2)), o 12 (.ld 1 false (.t 11)), o 13 (.fa 1 (.t 3)), o 14 (.ld 1 false (.t 13)), o 15 (.call 31 [(.t 12), (.t 14)]), o 16 (.un .not (.t 15))]) (.cond (.t 16) (.seq (.reg [o 4 (.mv (.c (.bool false)))]) (.ret)) (.skip))) (.seq (.seq (.reg [o 17 (.fa 2 (.t 2)), o 18 (.ld 1 false (.t 17)), o 19 (.fa 2 (.t 3)), o 20 (.ld 1 false (.t 19)), o 21 (.bin .neq (.t 18) (.t 20))]) (.cond (.t 21) (.seq (.reg [o 4 (.mv (.c (.bool false)))]) (.ret)) (.skip))) (.seq (.reg [o 4 (.mv (.c (.bool true)))]) (.ret)))))⟩
def K_laws_eqImage : Keeps := []
theorem r_laws_eqImage : resolveF Tryz.prog Tryz.f30 K_laws_eqImage = some F_laws_eqImage := by kernel_rfl
def X_laws_eqImage : Ctx := Ctx.cons 31 G_laws_eqIntS (fun _ => none)
theorem co_laws_eqImage : CtxOk Tryz.prog X_laws_eqImage := CtxOk.cons (CtxOk.nil) ok_laws_eqIntS
theorem cx_laws_eqImage : (CX X_laws_eqImage 31 G_laws_eqIntS false) := cxI rfl rfl
def S_laws_eqImage : ByV := ⟨none, false, semF X_laws_eqImage F_laws_eqImage none false⟩
def G_laws_eqImage : CK := .byv S_laws_eqImage
theorem sg_laws_eqImage (args : List AV) : S_laws_eqImage.sem args = semF X_laws_eqImage F_laws_eqImage none false args := rfl
theorem cl_laws_eqImage (args hp) : callS G_laws_eqImage args hp = byvS S_laws_eqImage args hp := callS_byv rfl rfl args hp
theorem ok_laws_eqImage : InlOk Tryz.prog 30 (callS G_laws_eqImage) := byv_none co_laws_eqImage Tryz.func30 r_laws_eqImage rfl (fun _ _ h => h)
def F_laws_eqCore : RF := ⟨21, 2, [.t 4],
  .seq (.reg [o 2 (.box (.t 0)), o 3 (.box (.t 1)), o 4 (.mv (.c (.bool false)))]) (.seq (.seq (.reg [o 5 (.fa 0 (.t 2)), o 6 (.ld 1 false (.t 5)), o 7 (.fa 0 (.t 3)), o 8 (.ld 1 false (.t 7)), o 9 (.call 31 [(.t 6), (.t 8)]), o 10 (.un .not (.t 9))]) (.cond (.t 10) (.seq (.reg [o 4 (.mv (.c (.bool false)))]) (.ret)) (.skip))) (.seq (.seq (.reg [o 11 (.fa 1 (.t 2)), o 12 (.ld 1 false (.t 11)), o 13 (.fa 1 (.t 3)), o 14 (.ld 1 false (.t 13)), o 15 (.bin .neq (.t 12) (.t 14))]) (.cond (.t 15) (.seq (.reg [o 4 (.mv (.c (.bool false)))]) (.ret)) (.skip))) (.seq (.seq (.reg [o 16 (.fa 2 (.t 2)), o 17 (.ld 1 false (.t 16)), o 18 (.fa 2 (.t 3)), o 19 (.ld 1 false (.t 18)), o 20 (.bin .neq (.t 17) (.t 19))]) (.cond (.t 20) (.seq (.reg [o 4 (.mv (.c (.bool false)))]) (.ret)) (.skip))) (.seq (.reg [o 4 (.mv (.c (.bool true)))]) (.ret)))))⟩
def K_laws_eqCore : Keeps := []
theorem r_laws_eqCore : resolveF Tryz.prog Tryz.f71 K_laws_eqCore = some F_laws_eqCore := by kernel_rfl
def X_laws_eqCore : Ctx := Ctx.cons 31 G_laws_eqIntS (fun _ => none)
theorem co_laws_eqCore : CtxOk Tryz.prog X_laws_eqCore := CtxOk.cons (CtxOk.nil) ok_laws_eqIntS
theorem cx_laws_eqCore : (CX X_laws_eqCore 31 G_laws_eqIntS false) := cxI rfl rfl
def S_laws_eqCore : ByV := ⟨none, false, semF X_laws_eqCore F_laws_eqCore none false⟩
def G_laws_eqCore : CK := .byv S_laws_eqCore
theorem sg_laws_eqCore (args : List AV) : S_laws_eqCore.sem args = semF X_laws_eqCore F_laws_eqCore none false args := rfl
theorem cl_laws_eqCore (args hp) : callS G_laws_eqCore args hp = byvS S_laws_eqCore args hp := callS_byv rfl rfl args hp
theorem ok_laws_eqCore : InlOk Tryz.prog 71 (callS G_laws_eqCore) := byv_none co_laws_eqCore Tryz.func71 r_laws_eqCore rfl (fun _ _ h => h)
def B0_laws_eqCoreS : RC :=
  .seq (.seq (.reg [o 11 (.mv (.t 5)), o 12 (.mv (.t 0)), o 13 (.len false (.t 12)), o 14 (.bin .lss (.t 11) (.t 13))]) (.cond (.t 14) (.skip) (.exit 0))) (.seq (.block 1 (.seq (.regd [(0, o 17 (.mv (.t 0))), (0, o 18 (.mv (.t 5))), (1, o 19 (.ia 3 (.t 17) (.t 18))), (1, o 20 (.ld 3 true (.t 19))), (0, o 21 (.mv (.t 1))), (0, o 22 (.mv (.t 5))), (1, o 23 (.ia 3 (.t 21) (.t 22))), (1, o 24 (.ld 3 true (.t 23))), (1, o 25 (.call 71 [(.t 20), (.t 24)])), (0, o 26 (.un .not (.t 25)))] []) (.cond (.t 26) (.seq (.reg [o 4 (.mv (.c (.bool false)))]) (.ret)) (.skip)))) (.reg [o 15 (.mv (.t 5)), o 16 (.bin .add (.t 15) (.c (.int .i64 1))), o 5 (.mv (.t 16))]))
def F_laws_eqCoreS : RF := ⟨27, 2, [.t 4],
  .seq (.reg [o 4 (.mv (.c (.bool false)))]) (.seq (.seq (.reg [o 6 (.mv (.t 0)), o 7 (.len false (.t 6)), o 8 (.mv (.t 1)), o 9 (.len false (.t 8)), o 10 (.bin .neq (.t 7) (.t 9))]) (.cond (.t 10) (.seq (.reg [o 4 (.mv (.c (.bool false)))]) (.ret)) (.skip))) (.seq (.seq (.reg [o 5 (.mv (.c (.int .i64 0)))]) (.block 0 (.loop [0, 1, 5] [(1, []), (0, [4])] B0_laws_eqCoreS))) (.seq (.reg [o 4 (.mv (.c (.bool true)))]) (.ret))))⟩
def K_laws_eqCoreS : Keeps := [([0, 1, 5], [(1, []), (0, [4])])]
theorem r_laws_eqCoreS : resolveF Tryz.prog Tryz.f32 K_laws_eqCoreS = some F_laws_eqCoreS := by kernel_rfl
def X_laws_eqCoreS : Ctx := Ctx.cons 71 G_laws_eqCore (fun _ => none)
theorem co_laws_eqCoreS : CtxOk Tryz.prog X_laws_eqCoreS := CtxOk.cons (CtxOk.nil) ok_laws_eqCore
theorem cx_laws_eqCoreS : (CX X_laws_eqCoreS 71 G_laws_eqCore false) := cxI rfl rfl
def S_laws_eqCoreS : ByV := ⟨none, false, semF X_laws_eqCoreS F_laws_eqCoreS none false⟩
def G_laws_eqCoreS : CK := .byv S_laws_eqCoreS
theorem sg_laws_eqCoreS (args : List AV) : S_laws_eqCoreS.sem args = semF X_laws_eqCoreS F_laws_eqCoreS none false args := rfl
theorem cl_laws_eqCoreS (args hp) : callS G_laws_eqCoreS args hp = byvS S_laws_eqCoreS args hp := callS_byv rfl rfl args hp
theorem ok_laws_eqCoreS : InlOk Tryz.prog 32 (callS G_laws_eqCoreS) := byv_none co_laws_eqCoreS Tryz.func32 r_laws_eqCoreS rfl (fun _ _ h => h)
def F_laws_eqGate : RF := ⟨22, 2, [.t 4],
  .seq (.reg [o 2 (.box (.t 0)), o 3 (.box (.t 1)), o 4 (.mv (.c (.bool false)))]) (.seq (.seq (.reg [o 5 (.fa 0 (.t 2)), o 6 (.ld 1 false (.t 5)), o 7 (.fa 0 (.t 3)), o 8 (.ld 1 false (.t 7)), o 9 (.bin .neq (.t 6) (.t 8))]) (.cond (.t 9) (.seq (.reg [o 4 (.mv (.c (.bool false)))]) (.ret)) (.skip))) (.seq (.seq (.reg [o 10 (.fa 1 (.t 2)), o 11 (.ld 1 false (.t 10)), o 12 (.fa 1 (.t 3)), o 13 (.ld 1 false (.t 12)), o 14 (.call 31 [(.t 11), (.t 13)]), o 15 (.un .not (.t 14))]) (.cond (.t 15) (.seq (.reg [o 4 (.mv (.c (.bool false)))]) (.ret)) (.skip))) (.seq (.seq (.reg [o 16 (.fa 2 (.t 2)), o 17 (.ld 1 false (.t 16)), o 18 (.fa 2 (.t 3)), o 19 (.ld 1 false (.t 18)), o 20 (.call 31 [(.t 17), (.t 19)]), o 21 (.un .not (.t 20))]) (.cond (.t 21) (.seq (.reg [o 4 (.mv (.c (.bool false)))]) (.ret)) (.skip))) (.seq (.reg [o 4 (.mv (.c (.bool true)))]) (.ret)))))⟩
def K_laws_eqGate : Keeps := []
theorem r_laws_eqGate : resolveF Tryz.prog Tryz.f100 K_laws_eqGate = some F_laws_eqGate := by kernel_rfl
def X_laws_eqGate : Ctx := Ctx.cons 31 G_laws_eqIntS (fun _ => none)
theorem co_laws_eqGate : CtxOk Tryz.prog X_laws_eqGate := CtxOk.cons (CtxOk.nil) ok_laws_eqIntS
theorem cx_laws_eqGate : (CX X_laws_eqGate 31 G_laws_eqIntS false) := cxI rfl rfl
def S_laws_eqGate : ByV := ⟨none, false, semF X_laws_eqGate F_laws_eqGate none false⟩
def G_laws_eqGate : CK := .byv S_laws_eqGate
theorem sg_laws_eqGate (args : List AV) : S_laws_eqGate.sem args = semF X_laws_eqGate F_laws_eqGate none false args := rfl
theorem cl_laws_eqGate (args hp) : callS G_laws_eqGate args hp = byvS S_laws_eqGate args hp := callS_byv rfl rfl args hp
theorem ok_laws_eqGate : InlOk Tryz.prog 100 (callS G_laws_eqGate) := byv_none co_laws_eqGate Tryz.func100 r_laws_eqGate rfl (fun _ _ h => h)
def B0_laws_eqGateS : RC :=
  .seq (.seq (.reg [o 11 (.mv (.t 5)), o 12 (.mv (.t 0)), o 13 (.len false (.t 12)), o 14 (.bin .lss (.t 11) (.t 13))]) (.cond (.t 14) (.skip) (.exit 0))) (.seq (.block 1 (.seq (.regd [(0, o 17 (.mv (.t 0))), (0, o 18 (.mv (.t 5))), (1, o 19 (.ia 3 (.t 17) (.t 18))), (1, o 20 (.ld 3 true (.t 19))), (0, o 21 (.mv (.t 1))), (0, o 22 (.mv (.t 5))), (1, o 23 (.ia 3 (.t 21) (.t 22))), (1, o 24 (.ld 3 true (.t 23))), (1, o 25 (.call 100 [(.t 20), (.t 24)])), (0, o 26 (.un .not (.t 25)))] []) (.cond (.t 26) (.seq (.reg [o 4 (.mv (.c (.bool false)))]) (.ret)) (.skip)))) (.reg [o 15 (.mv (.t 5)), o 16 (.bin .add (.t 15) (.c (.int .i64 1))), o 5 (.mv (.t 16))]))
def F_laws_eqGateS : RF := ⟨27, 2, [.t 4],
  .seq (.reg [o 4 (.mv (.c (.bool false)))]) (.seq (.seq (.reg [o 6 (.mv (.t 0)), o 7 (.len false (.t 6)), o 8 (.mv (.t 1)), o 9 (.len false (.t 8)), o 10 (.bin .neq (.t 7) (.t 9))]) (.cond (.t 10) (.seq (.reg [o 4 (.mv (.c (.bool false)))]) (.ret)) (.skip))) (.seq (.seq (.reg [o 5 (.mv (.c (.int .i64 0)))]) (.block 0 (.loop [0, 1, 5] [(1, []), (0, [4])] B0_laws_eqGateS))) (.seq (.reg [o 4 (.mv (.c (.bool true)))]) (.ret))))⟩
def K_laws_eqGateS : Keeps := [([0, 1, 5], [(1, []), (0, [4])])]
theorem r_laws_eqGateS : resolveF Tryz.prog Tryz.f72 K_laws_eqGateS = some F_laws_eqGateS := by kernel_rfl
def X_laws_eqGateS : Ctx := Ctx.cons 100 G_laws_eqGate (fun _ => none)
theorem co_laws_eqGateS : CtxOk Tryz.prog X_laws_eqGateS := CtxOk.cons (CtxOk.nil) ok_laws_eqGate
theorem cx_laws_eqGateS : (CX X_laws_eqGateS 100 G_laws_eqGate false) := cxI rfl rfl
def S_laws_eqGateS : ByV := ⟨none, false, semF X_laws_eqGateS F_laws_eqGateS none false⟩
def G_laws_eqGateS : CK := .byv S_laws_eqGateS
theorem sg_laws_eqGateS (args : List AV) : S_laws_eqGateS.sem args = semF X_laws_eqGateS F_laws_eqGateS none false args := rfl
theorem cl_laws_eqGateS (args hp) : callS G_laws_eqGateS args hp = byvS S_laws_eqGateS args hp := callS_byv rfl rfl args hp
theorem ok_laws_eqGateS : InlOk Tryz.prog 72 (callS G_laws_eqGateS) := byv_none co_laws_eqGateS Tryz.func72 r_laws_eqGateS rfl (fun _ _ h => h)
def B0_laws_eqBoolS : RC :=
  .seq (.seq (.reg [o 11 (.mv (.t 5)), o 12 (.mv (.t 0)), o 13 (.len false (.t 12)), o 14 (.bin .lss (.t 11) (.t 13))]) (.cond (.t 14) (.skip) (.exit 0))) (.seq (.block 1 (.seq (.regd [(0, o 17 (.mv (.t 0))), (0, o 18 (.mv (.t 5))), (1, o 19 (.ia 1 (.t 17) (.t 18))), (1, o 20 (.ld 1 false (.t 19))), (0, o 21 (.mv (.t 1))), (0, o 22 (.mv (.t 5))), (1, o 23 (.ia 1 (.t 21) (.t 22))), (1, o 24 (.ld 1 false (.t 23))), (0, o 25 (.bib .neq (.t 20) (.t 24)))] []) (.cond (.t 25) (.seq (.reg [o 4 (.mv (.c (.bool false)))]) (.ret)) (.skip)))) (.reg [o 15 (.mv (.t 5)), o 16 (.bin .add (.t 15) (.c (.int .i64 1))), o 5 (.mv (.t 16))]))
def F_laws_eqBoolS : RF := ⟨26, 2, [.t 4],
  .seq (.reg [o 4 (.mv (.c (.bool false)))]) (.seq (.seq (.reg [o 6 (.mv (.t 0)), o 7 (.len false (.t 6)), o 8 (.mv (.t 1)), o 9 (.len false (.t 8)), o 10 (.bin .neq (.t 7) (.t 9))]) (.cond (.t 10) (.seq (.reg [o 4 (.mv (.c (.bool false)))]) (.ret)) (.skip))) (.seq (.seq (.reg [o 5 (.mv (.c (.int .i64 0)))]) (.block 0 (.loop [0, 1, 5] [(1, []), (0, [4])] B0_laws_eqBoolS))) (.seq (.reg [o 4 (.mv (.c (.bool true)))]) (.ret))))⟩
def K_laws_eqBoolS : Keeps := [([0, 1, 5], [(1, []), (0, [4])])]
theorem r_laws_eqBoolS : resolveF Tryz.prog Tryz.f73 K_laws_eqBoolS = some F_laws_eqBoolS := by kernel_rfl
def X_laws_eqBoolS : Ctx := fun _ => none
theorem co_laws_eqBoolS : CtxOk Tryz.prog X_laws_eqBoolS := CtxOk.nil
theorem cx_laws_eqBoolS : True := trivial
def S_laws_eqBoolS : ByV := ⟨none, false, semF X_laws_eqBoolS F_laws_eqBoolS none false⟩
def G_laws_eqBoolS : CK := .byv S_laws_eqBoolS
theorem sg_laws_eqBoolS (args : List AV) : S_laws_eqBoolS.sem args = semF X_laws_eqBoolS F_laws_eqBoolS none false args := rfl
theorem cl_laws_eqBoolS (args hp) : callS G_laws_eqBoolS args hp = byvS S_laws_eqBoolS args hp := callS_byv rfl rfl args hp
theorem ok_laws_eqBoolS : InlOk Tryz.prog 73 (callS G_laws_eqBoolS) := byv_none co_laws_eqBoolS Tryz.func73 r_laws_eqBoolS rfl (fun _ _ h => h)
def F_laws_eqKernel : RF := ⟨29, 2, [.t 4],
  .seq (.reg [o 2 (.box (.t 0)), o 3 (.box (.t 1)), o 4 (.mv (.c (.bool false)))]) (.seq (.seq (.reg [o 5 (.fa 0 (.t 2)), o 6 (.ld 1 false (.t 5)), o 7 (.fa 0 (.t 3)), o 8 (.ld 1 false (.t 7)), o 9 (.call 72 [(.t 6), (.t 8)]), o 10 (.un .not (.t 9))]) (.cond (.t 10) (.seq (.reg [o 4 (.mv (.c (.bool false)))]) (.ret)) (.skip))) (.seq (.seq (.reg [o 11 (.fa 1 (.t 2)), o 12 (.ld 1 false (.t 11)), o 13 (.fa 1 (.t 3)), o 14 (.ld 1 false (.t 13)), o 15 (.call 31 [(.t 12), (.t 14)]), o 16 (.un .not (.t 15))]) (.cond (.t 16) (.seq (.reg [o 4 (.mv (.c (.bool false)))]) (.ret)) (.skip))) (.seq (.seq (.reg [o 17 (.fa 2 (.t 2)), o 18 (.ld 1 false (.t 17)), o 19 (.fa 2 (.t 3)), o 20 (.ld 1 false (.t 19)), o 21 (.call 32 [(.t 18), (.t 20)]), o 22 (.un .not (.t 21))]) (.cond (.t 22) (.seq (.reg [o 4 (.mv (.c (.bool false)))]) (.ret)) (.skip))) (.seq (.seq (.reg [o 23 (.fa 3 (.t 2)), o 24 (.ld 1 false (.t 23)), o 25 (.fa 3 (.t 3)), o 26 (.ld 1 false (.t 25)), o 27 (.call 73 [(.t 24), (.t 26)]), o 28 (.un .not (.t 27))]) (.cond (.t 28) (.seq (.reg [o 4 (.mv (.c (.bool false)))]) (.ret)) (.skip))) (.seq (.reg [o 4 (.mv (.c (.bool true)))]) (.ret))))))⟩
def K_laws_eqKernel : Keeps := []
theorem r_laws_eqKernel : resolveF Tryz.prog Tryz.f33 K_laws_eqKernel = some F_laws_eqKernel := by kernel_rfl
def X_laws_eqKernel : Ctx := Ctx.cons 72 G_laws_eqGateS (Ctx.cons 31 G_laws_eqIntS (Ctx.cons 32 G_laws_eqCoreS (Ctx.cons 73 G_laws_eqBoolS (fun _ => none))))
theorem co_laws_eqKernel : CtxOk Tryz.prog X_laws_eqKernel := CtxOk.cons (CtxOk.cons (CtxOk.cons (CtxOk.cons (CtxOk.nil) ok_laws_eqBoolS) ok_laws_eqCoreS) ok_laws_eqIntS) ok_laws_eqGateS
theorem cx_laws_eqKernel : (CX X_laws_eqKernel 72 G_laws_eqGateS false) ∧ (CX X_laws_eqKernel 31 G_laws_eqIntS false) ∧ (CX X_laws_eqKernel 32 G_laws_eqCoreS false) ∧ (CX X_laws_eqKernel 73 G_laws_eqBoolS false) := ⟨cxI rfl rfl, cxI rfl rfl, cxI rfl rfl, cxI rfl rfl⟩
def S_laws_eqKernel : ByV := ⟨none, false, semF X_laws_eqKernel F_laws_eqKernel none false⟩
def G_laws_eqKernel : CK := .byv S_laws_eqKernel
theorem sg_laws_eqKernel (args : List AV) : S_laws_eqKernel.sem args = semF X_laws_eqKernel F_laws_eqKernel none false args := rfl
theorem cl_laws_eqKernel (args hp) : callS G_laws_eqKernel args hp = byvS S_laws_eqKernel args hp := callS_byv rfl rfl args hp
theorem ok_laws_eqKernel : InlOk Tryz.prog 33 (callS G_laws_eqKernel) := byv_none co_laws_eqKernel Tryz.func33 r_laws_eqKernel rfl (fun _ _ h => h)
def F_laws_eqEvent : RF := ⟨20, 2, [.t 4],
  .seq (.reg [o 2 (.box (.t 0)), o 3 (.box (.t 1)), o 4 (.mv (.c (.bool false)))]) (.seq (.seq (.reg [o 5 (.fa 0 (.t 2)), o 6 (.ld 1 false (.t 5)), o 7 (.fa 0 (.t 3)), o 8 (.ld 1 false (.t 7)), o 9 (.bin .neq (.t 6) (.t 8))]) (.cond (.t 9) (.seq (.reg [o 4 (.mv (.c (.bool false)))]) (.ret)) (.skip))) (.seq (.seq (.reg [o 10 (.fa 1 (.t 2)), o 11 (.ld 1 false (.t 10)), o 12 (.fa 1 (.t 3)), o 13 (.ld 1 false (.t 12)), o 14 (.bin .neq (.t 11) (.t 13))]) (.cond (.t 14) (.seq (.reg [o 4 (.mv (.c (.bool false)))]) (.ret)) (.skip))) (.seq (.seq (.reg [o 15 (.fa 2 (.t 2)), o 16 (.ld 1 false (.t 15)), o 17 (.fa 2 (.t 3)), o 18 (.ld 1 false (.t 17)), o 19 (.bin .neq (.t 16) (.t 18))]) (.cond (.t 19) (.seq (.reg [o 4 (.mv (.c (.bool false)))]) (.ret)) (.skip))) (.seq (.reg [o 4 (.mv (.c (.bool true)))]) (.ret)))))⟩
def K_laws_eqEvent : Keeps := []
theorem r_laws_eqEvent : resolveF Tryz.prog Tryz.f74 K_laws_eqEvent = some F_laws_eqEvent := by kernel_rfl
def X_laws_eqEvent : Ctx := fun _ => none
theorem co_laws_eqEvent : CtxOk Tryz.prog X_laws_eqEvent := CtxOk.nil
theorem cx_laws_eqEvent : True := trivial
def S_laws_eqEvent : ByV := ⟨none, false, semF X_laws_eqEvent F_laws_eqEvent none false⟩
def G_laws_eqEvent : CK := .byv S_laws_eqEvent
theorem sg_laws_eqEvent (args : List AV) : S_laws_eqEvent.sem args = semF X_laws_eqEvent F_laws_eqEvent none false args := rfl
theorem cl_laws_eqEvent (args hp) : callS G_laws_eqEvent args hp = byvS S_laws_eqEvent args hp := callS_byv rfl rfl args hp
theorem ok_laws_eqEvent : InlOk Tryz.prog 74 (callS G_laws_eqEvent) := byv_none co_laws_eqEvent Tryz.func74 r_laws_eqEvent rfl (fun _ _ h => h)
def B0_laws_eqEventS : RC :=
  .seq (.seq (.reg [o 11 (.mv (.t 5)), o 12 (.mv (.t 0)), o 13 (.len false (.t 12)), o 14 (.bin .lss (.t 11) (.t 13))]) (.cond (.t 14) (.skip) (.exit 0))) (.seq (.block 1 (.seq (.regd [(0, o 17 (.mv (.t 0))), (0, o 18 (.mv (.t 5))), (1, o 19 (.ia 3 (.t 17) (.t 18))), (1, o 20 (.ld 3 true (.t 19))), (0, o 21 (.mv (.t 1))), (0, o 22 (.mv (.t 5))), (1, o 23 (.ia 3 (.t 21) (.t 22))), (1, o 24 (.ld 3 true (.t 23))), (1, o 25 (.call 74 [(.t 20), (.t 24)])), (0, o 26 (.un .not (.t 25)))] []) (.cond (.t 26) (.seq (.reg [o 4 (.mv (.c (.bool false)))]) (.ret)) (.skip)))) (.reg [o 15 (.mv (.t 5)), o 16 (.bin .add (.t 15) (.c (.int .i64 1))), o 5 (.mv (.t 16))]))
def F_laws_eqEventS : RF := ⟨27, 2, [.t 4],
  .seq (.reg [o 4 (.mv (.c (.bool false)))]) (.seq (.seq (.reg [o 6 (.mv (.t 0)), o 7 (.len false (.t 6)), o 8 (.mv (.t 1)), o 9 (.len false (.t 8)), o 10 (.bin .neq (.t 7) (.t 9))]) (.cond (.t 10) (.seq (.reg [o 4 (.mv (.c (.bool false)))]) (.ret)) (.skip))) (.seq (.seq (.reg [o 5 (.mv (.c (.int .i64 0)))]) (.block 0 (.loop [0, 1, 5] [(1, []), (0, [4])] B0_laws_eqEventS))) (.seq (.reg [o 4 (.mv (.c (.bool true)))]) (.ret))))⟩
def K_laws_eqEventS : Keeps := [([0, 1, 5], [(1, []), (0, [4])])]
theorem r_laws_eqEventS : resolveF Tryz.prog Tryz.f34 K_laws_eqEventS = some F_laws_eqEventS := by kernel_rfl
def X_laws_eqEventS : Ctx := Ctx.cons 74 G_laws_eqEvent (fun _ => none)
theorem co_laws_eqEventS : CtxOk Tryz.prog X_laws_eqEventS := CtxOk.cons (CtxOk.nil) ok_laws_eqEvent
theorem cx_laws_eqEventS : (CX X_laws_eqEventS 74 G_laws_eqEvent false) := cxI rfl rfl
def S_laws_eqEventS : ByV := ⟨none, false, semF X_laws_eqEventS F_laws_eqEventS none false⟩
def G_laws_eqEventS : CK := .byv S_laws_eqEventS
theorem sg_laws_eqEventS (args : List AV) : S_laws_eqEventS.sem args = semF X_laws_eqEventS F_laws_eqEventS none false args := rfl
theorem cl_laws_eqEventS (args hp) : callS G_laws_eqEventS args hp = byvS S_laws_eqEventS args hp := callS_byv rfl rfl args hp
theorem ok_laws_eqEventS : InlOk Tryz.prog 34 (callS G_laws_eqEventS) := byv_none co_laws_eqEventS Tryz.func34 r_laws_eqEventS rfl (fun _ _ h => h)
def F_laws_eqMachine : RF := ⟨46, 2, [.t 4],
  .seq (.reg [o 2 (.box (.t 0)), o 3 (.box (.t 1)), o 4 (.mv (.c (.bool false)))]) (.seq (.seq (.reg [o 5 (.fa 0 (.t 2)), o 6 (.ld 3 true (.t 5)), o 7 (.fa 0 (.t 3)), o 8 (.ld 3 true (.t 7)), o 9 (.call 30 [(.t 6), (.t 8)]), o 10 (.un .not (.t 9))]) (.cond (.t 10) (.seq (.reg [o 4 (.mv (.c (.bool false)))]) (.ret)) (.skip))) (.seq (.seq (.reg [o 11 (.fa 3 (.t 2)), o 12 (.ld 1 false (.t 11)), o 13 (.fa 3 (.t 3)), o 14 (.ld 1 false (.t 13)), o 15 (.call 31 [(.t 12), (.t 14)]), o 16 (.un .not (.t 15))]) (.cond (.t 16) (.seq (.reg [o 4 (.mv (.c (.bool false)))]) (.ret)) (.skip))) (.seq (.seq (.reg [o 17 (.fa 4 (.t 2)), o 18 (.ld 1 false (.t 17)), o 19 (.fa 4 (.t 3)), o 20 (.ld 1 false (.t 19)), o 21 (.call 32 [(.t 18), (.t 20)]), o 22 (.un .not (.t 21))]) (.cond (.t 22) (.seq (.reg [o 4 (.mv (.c (.bool false)))]) (.ret)) (.skip))) (.seq (.seq (.reg [o 23 (.fa 5 (.t 2)), o 24 (.ld 4 true (.t 23)), o 25 (.fa 5 (.t 3)), o 26 (.ld 4 true (.t 25)), o 27 (.call 33 [(.t 24), (.t 26)]), o 28 (.un .not (.t 27))]) (.cond (.t 28) (.seq (.reg [o 4 (.mv (.c (.bool false)))]) (.ret)) (.skip))) (.seq (.seq (.reg [o 29 (.fa 9 (.t 2)), o 30 (.ld 1 false (.t 29)), o 31 (.fa 9 (.t 3)), o 32 (.ld 1 false (.t 31)), o 33 (.call 31 [(.t 30), (.t 32)]), o 34 (.un .not (.t 33))]) (.cond (.t 34) (.seq (.reg [o 4 (.mv (.c (.bool false)))]) (.ret)) (.skip))) (.seq (.seq (.reg [o 35 (.fa 10 (.t 2)), o 36 (.ld 1 false (.t 35)), o 37 (.fa 10 (.t 3)), o 38 (.ld 1 false (.t 37)), o 39 (.call 34 [(.t 36), (.t 38)]), o 40 (.un .not (.t 39))]) (.cond (.t 40) (.seq (.reg [o 4 (.mv (.c (.bool false)))]) (.ret)) (.skip))) (.seq (.seq (.reg [o 41 (.fa 11 (.t 2)), o 42 (.ld 1 false (.t 41)), o 43 (.fa 11 (.t 3)), o 44 (.ld 1 false (.t 43)), o 45 (.bib .neq (.t 42) (.t 44))]) (.cond (.t 45) (.seq (.reg [o 4 (.mv (.c (.bool false)))]) (.ret)) (.skip))) (.seq (.reg [o 4 (.mv (.c (.bool true)))]) (.ret)))))))))⟩
def K_laws_eqMachine : Keeps := []
theorem r_laws_eqMachine : resolveF Tryz.prog Tryz.f8 K_laws_eqMachine = some F_laws_eqMachine := by kernel_rfl
def X_laws_eqMachine : Ctx := Ctx.cons 30 G_laws_eqImage (Ctx.cons 31 G_laws_eqIntS (Ctx.cons 32 G_laws_eqCoreS (Ctx.cons 33 G_laws_eqKernel (Ctx.cons 34 G_laws_eqEventS (fun _ => none)))))
theorem co_laws_eqMachine : CtxOk Tryz.prog X_laws_eqMachine := CtxOk.cons (CtxOk.cons (CtxOk.cons (CtxOk.cons (CtxOk.cons (CtxOk.nil) ok_laws_eqEventS) ok_laws_eqKernel) ok_laws_eqCoreS) ok_laws_eqIntS) ok_laws_eqImage
theorem cx_laws_eqMachine : (CX X_laws_eqMachine 30 G_laws_eqImage false) ∧ (CX X_laws_eqMachine 31 G_laws_eqIntS false) ∧ (CX X_laws_eqMachine 32 G_laws_eqCoreS false) ∧ (CX X_laws_eqMachine 33 G_laws_eqKernel false) ∧ (CX X_laws_eqMachine 34 G_laws_eqEventS false) := ⟨cxI rfl rfl, cxI rfl rfl, cxI rfl rfl, cxI rfl rfl, cxI rfl rfl⟩
def S_laws_eqMachine : ByV := ⟨none, false, semF X_laws_eqMachine F_laws_eqMachine none false⟩
def G_laws_eqMachine : CK := .byv S_laws_eqMachine
theorem sg_laws_eqMachine (args : List AV) : S_laws_eqMachine.sem args = semF X_laws_eqMachine F_laws_eqMachine none false args := rfl
theorem cl_laws_eqMachine (args hp) : callS G_laws_eqMachine args hp = byvS S_laws_eqMachine args hp := callS_byv rfl rfl args hp
theorem ok_laws_eqMachine : InlOk Tryz.prog 8 (callS G_laws_eqMachine) := byv_none co_laws_eqMachine Tryz.func8 r_laws_eqMachine rfl (fun _ _ h => h)
def B0_laws_markIntS : RC :=
  .seq (.seq (.reg [o 6 (.mv (.t 5)), o 7 (.mv (.t 0)), o 8 (.len false (.t 7)), o 9 (.bin .lss (.t 6) (.t 8))]) (.cond (.t 9) (.skip) (.exit 0))) (.seq (.block 1 (.seq (.reg [o 12 (.mv (.t 0)), o 13 (.mv (.t 5)), o 14 (.mv (.t 1)), o 15 (.ia 1 (.t 12) (.t 13)), ⟨none, none, .st 1 (.t 15) (.t 14)⟩]) (.reg [o 16 (.mv (.t 1)), o 17 (.bin .add (.t 16) (.c (.int .i64 1))), o 1 (.mv (.t 17))]))) (.reg [o 10 (.mv (.t 5)), o 11 (.bin .add (.t 10) (.c (.int .i64 1))), o 5 (.mv (.t 11))]))
def F_laws_markIntS : RF := ⟨19, 2, [.t 4],
  .seq (.reg [o 4 (.mv (.c (.int .i64 0)))]) (.seq (.seq (.reg [o 5 (.mv (.c (.int .i64 0)))]) (.block 0 (.loop [0, 1, 5] [(1, [1])] B0_laws_markIntS))) (.seq (.reg [o 18 (.mv (.t 1)), o 4 (.mv (.t 18))]) (.ret)))⟩
def K_laws_markIntS : Keeps := [([0, 1, 5], [(1, [1])])]
theorem r_laws_markIntS : resolveF Tryz.prog Tryz.f36 K_laws_markIntS = some F_laws_markIntS := by kernel_rfl
def X_laws_markIntS : Ctx := fun _ => none
theorem co_laws_markIntS : CtxOk Tryz.prog X_laws_markIntS := CtxOk.nil
theorem cx_laws_markIntS : True := trivial
def S_laws_markIntS : ByV := ⟨some 0, false, semF X_laws_markIntS F_laws_markIntS (some 0) false⟩
def G_laws_markIntS : CK := .byv S_laws_markIntS
theorem sg_laws_markIntS (args : List AV) : S_laws_markIntS.sem args = semF X_laws_markIntS F_laws_markIntS (some 0) false args := rfl
theorem cl_laws_markIntS (args hp) : callS G_laws_markIntS args hp = byvM S_laws_markIntS args hp := callS_byvM rfl args hp
theorem ok_laws_markIntS : InlOk Tryz.prog 36 (callS G_laws_markIntS) := byv_mark co_laws_markIntS Tryz.func36 r_laws_markIntS rfl (ro := false) (fun _ _ h => h)
def F_laws_markImage : RF := ⟨14, 2, [.t 4],
  .seq (.reg [o 2 (.box (.t 0)), o 4 (.mv (.c (.int .i64 0)))]) (.seq (.reg [o 5 (.fa 0 (.t 2)), o 6 (.ld 1 false (.t 5)), o 7 (.mv (.t 1)), o 8 (.call 36 [(.t 6), (.t 7)]), o 1 (.mv (.t 8))]) (.seq (.reg [o 9 (.fa 1 (.t 2)), o 10 (.ld 1 false (.t 9)), o 11 (.mv (.t 1)), o 12 (.call 36 [(.t 10), (.t 11)]), o 1 (.mv (.t 12))]) (.seq (.reg [o 13 (.mv (.t 1)), o 4 (.mv (.t 13))]) (.ret))))⟩
def K_laws_markImage : Keeps := []
theorem r_laws_markImage : resolveF Tryz.prog Tryz.f35 K_laws_markImage = some F_laws_markImage := by kernel_rfl
def X_laws_markImage : Ctx := Ctx.cons 36 G_laws_markIntS (fun _ => none)
theorem co_laws_markImage : CtxOk Tryz.prog X_laws_markImage := CtxOk.cons (CtxOk.nil) ok_laws_markIntS
theorem cx_laws_markImage : (CX X_laws_markImage 36 G_laws_markIntS true) := cxI rfl rfl
def G_laws_markImage : CK := .inl (runF X_laws_markImage F_laws_markImage)
theorem cl_laws_markImage (args hp) : callS G_laws_markImage args hp = runF X_laws_markImage F_laws_markImage args hp := rfl
theorem ok_laws_markImage : InlOk Tryz.prog 35 (callS G_laws_markImage) := runF_ok co_laws_markImage Tryz.func35 r_laws_markImage
def B0_laws_markCoreS : RC :=
  .seq (.seq (.reg [o 6 (.mv (.t 5)), o 7 (.mv (.t 0)), o 8 (.len false (.t 7)), o 9 (.bin .lss (.t 6) (.t 8))]) (.cond (.t 9) (.skip) (.exit 0))) (.seq (.block 1 (.seq (.reg [o 12 (.mv (.t 0)), o 13 (.mv (.t 5)), o 14 (.ia 3 (.t 12) (.t 13)), o 15 (.fa 0 (.t 14)), o 16 (.ld 1 false (.t 15)), o 17 (.mv (.t 1)), o 18 (.call 36 [(.t 16), (.t 17)]), o 1 (.mv (.t 18))]) (.seq (.reg [o 19 (.mv (.t 0)), o 20 (.mv (.t 5)), o 21 (.mv (.t 1)), o 22 (.ia 3 (.t 19) (.t 20)), o 23 (.fa 1 (.t 22)), ⟨none, none, .st 1 (.t 23) (.t 21)⟩]) (.seq (.reg [o 24 (.mv (.t 1)), o 25 (.bin .add (.t 24) (.c (.int .i64 1))), o 1 (.mv (.t 25))]) (.seq (.reg [o 26 (.mv (.t 0)), o 27 (.mv (.t 5)), o 28 (.mv (.t 1)), o 29 (.ia 3 (.t 26) (.t 27)), o 30 (.fa 2 (.t 29)), ⟨none, none, .st 1 (.t 30) (.t 28)⟩]) (.reg [o 31 (.mv (.t 1)), o 32 (.bin .add (.t 31) (.c (.int .i64 1))), o 1 (.mv (.t 32))])))))) (.reg [o 10 (.mv (.t 5)), o 11 (.bin .add (.t 10) (.c (.int .i64 1))), o 5 (.mv (.t 11))]))
def F_laws_markCoreS : RF := ⟨34, 2, [.t 4],
  .seq (.reg [o 4 (.mv (.c (.int .i64 0)))]) (.seq (.seq (.reg [o 5 (.mv (.c (.int .i64 0)))]) (.block 0 (.loop [0, 1, 5] [(1, [1])] B0_laws_markCoreS))) (.seq (.reg [o 33 (.mv (.t 1)), o 4 (.mv (.t 33))]) (.ret)))⟩
def K_laws_markCoreS : Keeps := [([0, 1, 5], [(1, [1])])]
theorem r_laws_markCoreS : resolveF Tryz.prog Tryz.f37 K_laws_markCoreS = some F_laws_markCoreS := by kernel_rfl
def X_laws_markCoreS : Ctx := Ctx.cons 36 G_laws_markIntS (fun _ => none)
theorem co_laws_markCoreS : CtxOk Tryz.prog X_laws_markCoreS := CtxOk.cons (CtxOk.nil) ok_laws_markIntS
theorem cx_laws_markCoreS : (CX X_laws_markCoreS 36 G_laws_markIntS true) := cxI rfl rfl
def S_laws_markCoreS : ByV := ⟨some 0, false, semF X_laws_markCoreS F_laws_markCoreS (some 0) false⟩
def G_laws_markCoreS : CK := .byv S_laws_markCoreS
theorem sg_laws_markCoreS (args : List AV) : S_laws_markCoreS.sem args = semF X_laws_markCoreS F_laws_markCoreS (some 0) false args := rfl
theorem cl_laws_markCoreS (args hp) : callS G_laws_markCoreS args hp = byvM S_laws_markCoreS args hp := callS_byvM rfl args hp
theorem ok_laws_markCoreS : InlOk Tryz.prog 37 (callS G_laws_markCoreS) := byv_mark co_laws_markCoreS Tryz.func37 r_laws_markCoreS rfl (ro := false) (fun _ _ h => h)
def B0_laws_markGateS : RC :=
  .seq (.seq (.reg [o 6 (.mv (.t 5)), o 7 (.mv (.t 0)), o 8 (.len false (.t 7)), o 9 (.bin .lss (.t 6) (.t 8))]) (.cond (.t 9) (.skip) (.exit 0))) (.seq (.block 1 (.seq (.reg [o 12 (.mv (.t 0)), o 13 (.mv (.t 5)), o 14 (.mv (.t 1)), o 15 (.ia 3 (.t 12) (.t 13)), o 16 (.fa 0 (.t 15)), ⟨none, none, .st 1 (.t 16) (.t 14)⟩]) (.seq (.reg [o 17 (.mv (.t 1)), o 18 (.bin .add (.t 17) (.c (.int .i64 1))), o 1 (.mv (.t 18))]) (.seq (.reg [o 19 (.mv (.t 0)), o 20 (.mv (.t 5)), o 21 (.ia 3 (.t 19) (.t 20)), o 22 (.fa 1 (.t 21)), o 23 (.ld 1 false (.t 22)), o 24 (.mv (.t 1)), o 25 (.call 36 [(.t 23), (.t 24)]), o 1 (.mv (.t 25))]) (.reg [o 26 (.mv (.t 0)), o 27 (.mv (.t 5)), o 28 (.ia 3 (.t 26) (.t 27)), o 29 (.fa 2 (.t 28)), o 30 (.ld 1 false (.t 29)), o 31 (.mv (.t 1)), o 32 (.call 36 [(.t 30), (.t 31)]), o 1 (.mv (.t 32))]))))) (.reg [o 10 (.mv (.t 5)), o 11 (.bin .add (.t 10) (.c (.int .i64 1))), o 5 (.mv (.t 11))]))
def F_laws_markGateS : RF := ⟨34, 2, [.t 4],
  .seq (.reg [o 4 (.mv (.c (.int .i64 0)))]) (.seq (.seq (.reg [o 5 (.mv (.c (.int .i64 0)))]) (.block 0 (.loop [0, 1, 5] [(1, [1])] B0_laws_markGateS))) (.seq (.reg [o 33 (.mv (.t 1)), o 4 (.mv (.t 33))]) (.ret)))⟩
def K_laws_markGateS : Keeps := [([0, 1, 5], [(1, [1])])]
theorem r_laws_markGateS : resolveF Tryz.prog Tryz.f75 K_laws_markGateS = some F_laws_markGateS := by kernel_rfl
def X_laws_markGateS : Ctx := Ctx.cons 36 G_laws_markIntS (fun _ => none)
theorem co_laws_markGateS : CtxOk Tryz.prog X_laws_markGateS := CtxOk.cons (CtxOk.nil) ok_laws_markIntS
theorem cx_laws_markGateS : (CX X_laws_markGateS 36 G_laws_markIntS true) := cxI rfl rfl
def S_laws_markGateS : ByV := ⟨some 0, false, semF X_laws_markGateS F_laws_markGateS (some 0) false⟩
def G_laws_markGateS : CK := .byv S_laws_markGateS
theorem sg_laws_markGateS (args : List AV) : S_laws_markGateS.sem args = semF X_laws_markGateS F_laws_markGateS (some 0) false args := rfl
theorem cl_laws_markGateS (args hp) : callS G_laws_markGateS args hp = byvM S_laws_markGateS args hp := callS_byvM rfl args hp
theorem ok_laws_markGateS : InlOk Tryz.prog 75 (callS G_laws_markGateS) := byv_mark co_laws_markGateS Tryz.func75 r_laws_markGateS rfl (ro := false) (fun _ _ h => h)
def B0_laws_markBoolS : RC :=
  .seq (.seq (.reg [o 6 (.mv (.t 5)), o 7 (.mv (.t 0)), o 8 (.len false (.t 7)), o 9 (.bin .lss (.t 6) (.t 8))]) (.cond (.t 9) (.skip) (.exit 0))) (.seq (.block 1 (.seq (.reg [o 12 (.mv (.t 0)), o 13 (.mv (.t 5)), o 14 (.mv (.t 1)), o 15 (.bin .rem (.t 14) (.c (.int .i64 3))), o 16 (.bin .eql (.t 15) (.c (.int .i64 0))), o 17 (.ia 1 (.t 12) (.t 13)), ⟨none, none, .st 1 (.t 17) (.t 16)⟩]) (.reg [o 18 (.mv (.t 1)), o 19 (.bin .add (.t 18) (.c (.int .i64 1))), o 1 (.mv (.t 19))]))) (.reg [o 10 (.mv (.t 5)), o 11 (.bin .add (.t 10) (.c (.int .i64 1))), o 5 (.mv (.t 11))]))
def F_laws_markBoolS : RF := ⟨21, 2, [.t 4],
  .seq (.reg [o 4 (.mv (.c (.int .i64 0)))]) (.seq (.seq (.reg [o 5 (.mv (.c (.int .i64 0)))]) (.block 0 (.loop [0, 1, 5] [(1, [1])] B0_laws_markBoolS))) (.seq (.reg [o 20 (.mv (.t 1)), o 4 (.mv (.t 20))]) (.ret)))⟩
def K_laws_markBoolS : Keeps := [([0, 1, 5], [(1, [1])])]
theorem r_laws_markBoolS : resolveF Tryz.prog Tryz.f76 K_laws_markBoolS = some F_laws_markBoolS := by kernel_rfl
def X_laws_markBoolS : Ctx := fun _ => none
theorem co_laws_markBoolS : CtxOk Tryz.prog X_laws_markBoolS := CtxOk.nil
theorem cx_laws_markBoolS : True := trivial
def S_laws_markBoolS : ByV := ⟨some 0, false, semF X_laws_markBoolS F_laws_markBoolS (some 0) false⟩
def G_laws_markBoolS : CK := .byv S_laws_markBoolS
theorem sg_laws_markBoolS (args : List AV) : S_laws_markBoolS.sem args = semF X_laws_markBoolS F_laws_markBoolS (some 0) false args := rfl
theorem cl_laws_markBoolS (args hp) : callS G_laws_markBoolS args hp = byvM S_laws_markBoolS args hp := callS_byvM rfl args hp
theorem ok_laws_markBoolS : InlOk Tryz.prog 76 (callS G_laws_markBoolS) := byv_mark co_laws_markBoolS Tryz.func76 r_laws_markBoolS rfl (ro := false) (fun _ _ h => h)
def F_laws_markKernel : RF := ⟨22, 2, [.t 4],
  .seq (.reg [o 2 (.box (.t 0)), o 4 (.mv (.c (.int .i64 0)))]) (.seq (.reg [o 5 (.fa 0 (.t 2)), o 6 (.ld 1 false (.t 5)), o 7 (.mv (.t 1)), o 8 (.call 75 [(.t 6), (.t 7)]), o 1 (.mv (.t 8))]) (.seq (.reg [o 9 (.fa 1 (.t 2)), o 10 (.ld 1 false (.t 9)), o 11 (.mv (.t 1)), o 12 (.call 36 [(.t 10), (.t 11)]), o 1 (.mv (.t 12))]) (.seq (.reg [o 13 (.fa 2 (.t 2)), o 14 (.ld 1 false (.t 13)), o 15 (.mv (.t 1)), o 16 (.call 37 [(.t 14), (.t 15)]), o 1 (.mv (.t 16))]) (.seq (.reg [o 17 (.fa 3 (.t 2)), o 18 (.ld 1 false (.t 17)), o 19 (.mv (.t 1)), o 20 (.call 76 [(.t 18), (.t 19)]), o 1 (.mv (.t 20))]) (.seq (.reg [o 21 (.mv (.t 1)), o 4 (.mv (.t 21))]) (.ret))))))⟩
def K_laws_markKernel : Keeps := []
theorem r_laws_markKernel : resolveF Tryz.prog Tryz.f38 K_laws_markKernel = some F_laws_markKernel := by kernel_rfl
def X_laws_markKernel : Ctx := Ctx.cons 75 G_laws_markGateS (Ctx.cons 36 G_laws_markIntS (Ctx.cons 37 G_laws_markCoreS (Ctx.cons 76 G_laws_markBoolS (fun _ => none))))
theorem co_laws_markKernel : CtxOk Tryz.prog X_laws_markKernel := CtxOk.cons (CtxOk.cons (CtxOk.cons (CtxOk.cons (CtxOk.nil) ok_laws_markBoolS) ok_laws_markCoreS) ok_laws_markIntS) ok_laws_markGateS
theorem cx_laws_markKernel : (CX X_laws_markKernel 75 G_laws_markGateS true) ∧ (CX X_laws_markKernel 36 G_laws_markIntS true) ∧ (CX X_laws_markKernel 37 G_laws_markCoreS true) ∧ (CX X_laws_markKernel 76 G_laws_markBoolS true) := ⟨cxI rfl rfl, cxI rfl rfl, cxI rfl rfl, cxI rfl rfl⟩
def G_laws_markKernel : CK := .inl (runF X_laws_markKernel F_laws_markKernel)
theorem cl_laws_markKernel (args hp) : callS G_laws_markKernel args hp = runF X_laws_markKernel F_laws_markKernel args hp := rfl
theorem ok_laws_markKernel : InlOk Tryz.prog 38 (callS G_laws_markKernel) := runF_ok co_laws_markKernel Tryz.func38 r_laws_markKernel
end
end Go.Proofs.YtdhmlhlpdejefaaGreat.AI
