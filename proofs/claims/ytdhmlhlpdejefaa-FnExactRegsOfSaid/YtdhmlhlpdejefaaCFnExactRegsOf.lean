/- The functions that the law FnExactRegsOf reaches, in the reckoner's words. -/
import Derived.Test.YtdhmlhlpdejefaaAEqs5
import Derived.Test.YtdhmlhlpdejefaaChecked
import Derived.ProofKit
namespace Go.Proofs.Ytdhmlhlpdejefaa.AI
open Go.Proofs
set_option linter.all false
set_option maxRecDepth 100000
/- 67 laws_szIntS calls []  -/
def F_laws_szIntS : RF := ⟨12, 2, [.t 4],
  .seq (.reg [⟨some 4, none, .mv (.c (.int .i64 0))⟩]) (.seq (.reg [⟨some 5, none, .mv (.t 1)⟩, ⟨some 6, none, .mv (.t 0)⟩, ⟨some 7, none, .len false (.t 6)⟩, ⟨some 8, none, .bin .sub (.t 5) (.t 7)⟩, ⟨some 1, none, .mv (.t 8)⟩]) (.seq (.seq (.reg [⟨some 9, none, .mv (.t 1)⟩, ⟨some 10, none, .bin .lss (.t 9) (.c (.int .i64 0))⟩]) (.cond (.t 10) (.seq (.reg [⟨some 4, none, .mv (.c (.int .i64 (-1)))⟩]) (.ret)) (.skip))) (.seq (.reg [⟨some 11, none, .mv (.t 1)⟩, ⟨some 4, none, .mv (.t 11)⟩]) (.ret))))⟩
def K_laws_szIntS : Keeps := []
theorem r_laws_szIntS : resolveF Try.prog Try.f67 K_laws_szIntS = some F_laws_szIntS := by kernel_rfl
noncomputable def X_laws_szIntS : Ctx := fun _ => none
theorem co_laws_szIntS : CtxOk Try.prog X_laws_szIntS := CtxOk.nil
theorem cx_laws_szIntS : True := trivial
noncomputable def S_laws_szIntS : ByV := ⟨none, false, semF X_laws_szIntS F_laws_szIntS none false⟩
noncomputable def G_laws_szIntS : CK := .byv S_laws_szIntS
theorem sg_laws_szIntS (args : List AV) : S_laws_szIntS.sem args = semF X_laws_szIntS F_laws_szIntS none false args := rfl
theorem cl_laws_szIntS (args : List AV) (hp : Hp) : callS G_laws_szIntS args hp = byvS S_laws_szIntS args hp := callS_byv rfl rfl args hp
theorem ok_laws_szIntS : InlOk Try.prog 67 (callS G_laws_szIntS) := byv_none co_laws_szIntS Try.func67 r_laws_szIntS rfl (fun _ _ h => h)
/- 102 laws_szNode calls [laws_szIntS]  -/
def F_laws_szNode : RF := ⟨33, 2, [.t 4],
  .seq (.reg [⟨some 2, none, .box (.t 0)⟩, ⟨some 4, none, .mv (.c (.int .i64 0))⟩]) (.seq (.reg [⟨some 5, none, .mv (.t 1)⟩, ⟨some 6, none, .fa 2 (.t 2)⟩, ⟨some 7, none, .ld 1 false (.t 6)⟩, ⟨some 8, none, .len true (.t 7)⟩, ⟨some 9, none, .bin .sub (.t 5) (.t 8)⟩, ⟨some 1, none, .mv (.t 9)⟩]) (.seq (.seq (.reg [⟨some 10, none, .mv (.t 1)⟩, ⟨some 11, none, .bin .lss (.t 10) (.c (.int .i64 0))⟩]) (.cond (.t 11) (.seq (.reg [⟨some 4, none, .mv (.c (.int .i64 (-1)))⟩]) (.ret)) (.skip))) (.seq (.reg [⟨some 12, none, .mv (.t 1)⟩, ⟨some 13, none, .fa 3 (.t 2)⟩, ⟨some 14, none, .ld 1 false (.t 13)⟩, ⟨some 15, none, .len true (.t 14)⟩, ⟨some 16, none, .bin .sub (.t 12) (.t 15)⟩, ⟨some 1, none, .mv (.t 16)⟩]) (.seq (.seq (.reg [⟨some 17, none, .mv (.t 1)⟩, ⟨some 18, none, .bin .lss (.t 17) (.c (.int .i64 0))⟩]) (.cond (.t 18) (.seq (.reg [⟨some 4, none, .mv (.c (.int .i64 (-1)))⟩]) (.ret)) (.skip))) (.seq (.reg [⟨some 19, none, .mv (.t 1)⟩, ⟨some 20, none, .fa 4 (.t 2)⟩, ⟨some 21, none, .ld 1 false (.t 20)⟩, ⟨some 22, none, .len true (.t 21)⟩, ⟨some 23, none, .bin .sub (.t 19) (.t 22)⟩, ⟨some 1, none, .mv (.t 23)⟩]) (.seq (.seq (.reg [⟨some 24, none, .mv (.t 1)⟩, ⟨some 25, none, .bin .lss (.t 24) (.c (.int .i64 0))⟩]) (.cond (.t 25) (.seq (.reg [⟨some 4, none, .mv (.c (.int .i64 (-1)))⟩]) (.ret)) (.skip))) (.seq (.reg [⟨some 26, none, .fa 5 (.t 2)⟩, ⟨some 27, none, .ld 1 false (.t 26)⟩, ⟨some 28, none, .mv (.t 1)⟩, ⟨some 29, none, .call 67 [(.t 27), (.t 28)]⟩, ⟨some 1, none, .mv (.t 29)⟩]) (.seq (.seq (.reg [⟨some 30, none, .mv (.t 1)⟩, ⟨some 31, none, .bin .lss (.t 30) (.c (.int .i64 0))⟩]) (.cond (.t 31) (.seq (.reg [⟨some 4, none, .mv (.c (.int .i64 (-1)))⟩]) (.ret)) (.skip))) (.seq (.reg [⟨some 32, none, .mv (.t 1)⟩, ⟨some 4, none, .mv (.t 32)⟩]) (.ret))))))))))⟩
def K_laws_szNode : Keeps := []
theorem r_laws_szNode : resolveF Try.prog Try.f102 K_laws_szNode = some F_laws_szNode := by kernel_rfl
noncomputable def X_laws_szNode : Ctx := Ctx.cons 67 G_laws_szIntS (fun _ => none)
theorem co_laws_szNode : CtxOk Try.prog X_laws_szNode := CtxOk.cons (CtxOk.nil) ok_laws_szIntS
theorem cx_laws_szNode : ((∀ args hp, callX X_laws_szNode 67 args hp = callS G_laws_szIntS args hp) ∧ (trC (X_laws_szNode 67) = false)) := ⟨fun _ _ => rfl, rfl⟩
noncomputable def S_laws_szNode : ByV := ⟨none, false, semF X_laws_szNode F_laws_szNode none false⟩
noncomputable def G_laws_szNode : CK := .byv S_laws_szNode
theorem sg_laws_szNode (args : List AV) : S_laws_szNode.sem args = semF X_laws_szNode F_laws_szNode none false args := rfl
theorem cl_laws_szNode (args : List AV) (hp : Hp) : callS G_laws_szNode args hp = byvS S_laws_szNode args hp := callS_byv rfl rfl args hp
theorem ok_laws_szNode : InlOk Try.prog 102 (callS G_laws_szNode) := byv_none co_laws_szNode Try.func102 r_laws_szNode rfl (fun _ _ h => h)
/- 51 laws_szNodeS calls [laws_szNode]  -/
def B0_laws_szNodeS : RC :=
  .seq (.seq (.reg [⟨some 12, none, .mv (.t 5)⟩, ⟨some 13, none, .mv (.t 0)⟩, ⟨some 14, none, .len false (.t 13)⟩, ⟨some 15, none, .bin .lss (.t 12) (.t 14)⟩]) (.cond (.t 15) (.skip) (.exit 0))) (.seq (.block 1 (.seq (.reg [⟨some 18, none, .mv (.t 0)⟩, ⟨some 19, none, .mv (.t 5)⟩, ⟨some 20, none, .ia 6 (.t 18) (.t 19)⟩, ⟨some 21, none, .ld 6 true (.t 20)⟩, ⟨some 22, none, .mv (.t 1)⟩, ⟨some 23, none, .call 102 [(.t 21), (.t 22)]⟩, ⟨some 1, none, .mv (.t 23)⟩]) (.seq (.reg [⟨some 24, none, .mv (.t 1)⟩, ⟨some 25, none, .bin .lss (.t 24) (.c (.int .i64 0))⟩]) (.cond (.t 25) (.seq (.reg [⟨some 4, none, .mv (.c (.int .i64 (-1)))⟩]) (.ret)) (.skip))))) (.reg [⟨some 16, none, .mv (.t 5)⟩, ⟨some 17, none, .bin .add (.t 16) (.c (.int .i64 1))⟩, ⟨some 5, none, .mv (.t 17)⟩]))
def F_laws_szNodeS : RF := ⟨27, 2, [.t 4],
  .seq (.reg [⟨some 4, none, .mv (.c (.int .i64 0))⟩]) (.seq (.reg [⟨some 6, none, .mv (.t 1)⟩, ⟨some 7, none, .mv (.t 0)⟩, ⟨some 8, none, .len false (.t 7)⟩, ⟨some 9, none, .bin .sub (.t 6) (.t 8)⟩, ⟨some 1, none, .mv (.t 9)⟩]) (.seq (.seq (.reg [⟨some 10, none, .mv (.t 1)⟩, ⟨some 11, none, .bin .lss (.t 10) (.c (.int .i64 0))⟩]) (.cond (.t 11) (.seq (.reg [⟨some 4, none, .mv (.c (.int .i64 (-1)))⟩]) (.ret)) (.skip))) (.seq (.seq (.reg [⟨some 5, none, .mv (.c (.int .i64 0))⟩]) (.block 0 (.loop [0, 1, 5] [(1, [1]), (0, [4])] B0_laws_szNodeS))) (.seq (.reg [⟨some 26, none, .mv (.t 1)⟩, ⟨some 4, none, .mv (.t 26)⟩]) (.ret)))))⟩
def K_laws_szNodeS : Keeps := [([0, 1, 5], [(1, [1]), (0, [4])])]
theorem r_laws_szNodeS : resolveF Try.prog Try.f51 K_laws_szNodeS = some F_laws_szNodeS := by kernel_rfl
noncomputable def X_laws_szNodeS : Ctx := Ctx.cons 102 G_laws_szNode (fun _ => none)
theorem co_laws_szNodeS : CtxOk Try.prog X_laws_szNodeS := CtxOk.cons (CtxOk.nil) ok_laws_szNode
theorem cx_laws_szNodeS : ((∀ args hp, callX X_laws_szNodeS 102 args hp = callS G_laws_szNode args hp) ∧ (trC (X_laws_szNodeS 102) = false)) := ⟨fun _ _ => rfl, rfl⟩
noncomputable def S_laws_szNodeS : ByV := ⟨none, false, semF X_laws_szNodeS F_laws_szNodeS none false⟩
noncomputable def G_laws_szNodeS : CK := .byv S_laws_szNodeS
theorem sg_laws_szNodeS (args : List AV) : S_laws_szNodeS.sem args = semF X_laws_szNodeS F_laws_szNodeS none false args := rfl
theorem cl_laws_szNodeS (args : List AV) (hp : Hp) : callS G_laws_szNodeS args hp = byvS S_laws_szNodeS args hp := callS_byv rfl rfl args hp
theorem ok_laws_szNodeS : InlOk Try.prog 51 (callS G_laws_szNodeS) := byv_none co_laws_szNodeS Try.func51 r_laws_szNodeS rfl (fun _ _ h => h)
/- 66 laws_szStringS calls []  -/
def B0_laws_szStringS : RC :=
  .seq (.seq (.reg [⟨some 12, none, .mv (.t 5)⟩, ⟨some 13, none, .mv (.t 0)⟩, ⟨some 14, none, .len false (.t 13)⟩, ⟨some 15, none, .bin .lss (.t 12) (.t 14)⟩]) (.cond (.t 15) (.skip) (.exit 0))) (.seq (.block 1 (.seq (.reg [⟨some 18, none, .mv (.t 1)⟩, ⟨some 19, none, .mv (.t 0)⟩, ⟨some 20, none, .mv (.t 5)⟩, ⟨some 21, none, .ia 1 (.t 19) (.t 20)⟩, ⟨some 22, none, .ld 1 false (.t 21)⟩, ⟨some 23, none, .len true (.t 22)⟩, ⟨some 24, none, .bin .sub (.t 18) (.t 23)⟩, ⟨some 1, none, .mv (.t 24)⟩]) (.seq (.reg [⟨some 25, none, .mv (.t 1)⟩, ⟨some 26, none, .bin .lss (.t 25) (.c (.int .i64 0))⟩]) (.cond (.t 26) (.seq (.reg [⟨some 4, none, .mv (.c (.int .i64 (-1)))⟩]) (.ret)) (.skip))))) (.reg [⟨some 16, none, .mv (.t 5)⟩, ⟨some 17, none, .bin .add (.t 16) (.c (.int .i64 1))⟩, ⟨some 5, none, .mv (.t 17)⟩]))
def F_laws_szStringS : RF := ⟨28, 2, [.t 4],
  .seq (.reg [⟨some 4, none, .mv (.c (.int .i64 0))⟩]) (.seq (.reg [⟨some 6, none, .mv (.t 1)⟩, ⟨some 7, none, .mv (.t 0)⟩, ⟨some 8, none, .len false (.t 7)⟩, ⟨some 9, none, .bin .sub (.t 6) (.t 8)⟩, ⟨some 1, none, .mv (.t 9)⟩]) (.seq (.seq (.reg [⟨some 10, none, .mv (.t 1)⟩, ⟨some 11, none, .bin .lss (.t 10) (.c (.int .i64 0))⟩]) (.cond (.t 11) (.seq (.reg [⟨some 4, none, .mv (.c (.int .i64 (-1)))⟩]) (.ret)) (.skip))) (.seq (.seq (.reg [⟨some 5, none, .mv (.c (.int .i64 0))⟩]) (.block 0 (.loop [0, 1, 5] [(1, [1]), (0, [4])] B0_laws_szStringS))) (.seq (.reg [⟨some 27, none, .mv (.t 1)⟩, ⟨some 4, none, .mv (.t 27)⟩]) (.ret)))))⟩
def K_laws_szStringS : Keeps := [([0, 1, 5], [(1, [1]), (0, [4])])]
theorem r_laws_szStringS : resolveF Try.prog Try.f66 K_laws_szStringS = some F_laws_szStringS := by kernel_rfl
noncomputable def X_laws_szStringS : Ctx := fun _ => none
theorem co_laws_szStringS : CtxOk Try.prog X_laws_szStringS := CtxOk.nil
theorem cx_laws_szStringS : True := trivial
noncomputable def S_laws_szStringS : ByV := ⟨none, false, semF X_laws_szStringS F_laws_szStringS none false⟩
noncomputable def G_laws_szStringS : CK := .byv S_laws_szStringS
theorem sg_laws_szStringS (args : List AV) : S_laws_szStringS.sem args = semF X_laws_szStringS F_laws_szStringS none false args := rfl
theorem cl_laws_szStringS (args : List AV) (hp : Hp) : callS G_laws_szStringS args hp = byvS S_laws_szStringS args hp := callS_byv rfl rfl args hp
theorem ok_laws_szStringS : InlOk Try.prog 66 (callS G_laws_szStringS) := byv_none co_laws_szStringS Try.func66 r_laws_szStringS rfl (fun _ _ h => h)
/- 144 laws_szEntry calls []  -/
def F_laws_szEntry : RF := ⟨20, 2, [.t 4],
  .seq (.reg [⟨some 2, none, .box (.t 0)⟩, ⟨some 4, none, .mv (.c (.int .i64 0))⟩]) (.seq (.reg [⟨some 5, none, .mv (.t 1)⟩, ⟨some 6, none, .fa 0 (.t 2)⟩, ⟨some 7, none, .ld 1 false (.t 6)⟩, ⟨some 8, none, .len true (.t 7)⟩, ⟨some 9, none, .bin .sub (.t 5) (.t 8)⟩, ⟨some 1, none, .mv (.t 9)⟩]) (.seq (.seq (.reg [⟨some 10, none, .mv (.t 1)⟩, ⟨some 11, none, .bin .lss (.t 10) (.c (.int .i64 0))⟩]) (.cond (.t 11) (.seq (.reg [⟨some 4, none, .mv (.c (.int .i64 (-1)))⟩]) (.ret)) (.skip))) (.seq (.reg [⟨some 12, none, .mv (.t 1)⟩, ⟨some 13, none, .fa 1 (.t 2)⟩, ⟨some 14, none, .ld 1 false (.t 13)⟩, ⟨some 15, none, .len true (.t 14)⟩, ⟨some 16, none, .bin .sub (.t 12) (.t 15)⟩, ⟨some 1, none, .mv (.t 16)⟩]) (.seq (.seq (.reg [⟨some 17, none, .mv (.t 1)⟩, ⟨some 18, none, .bin .lss (.t 17) (.c (.int .i64 0))⟩]) (.cond (.t 18) (.seq (.reg [⟨some 4, none, .mv (.c (.int .i64 (-1)))⟩]) (.ret)) (.skip))) (.seq (.reg [⟨some 19, none, .mv (.t 1)⟩, ⟨some 4, none, .mv (.t 19)⟩]) (.ret))))))⟩
def K_laws_szEntry : Keeps := []
theorem r_laws_szEntry : resolveF Try.prog Try.f144 K_laws_szEntry = some F_laws_szEntry := by kernel_rfl
noncomputable def X_laws_szEntry : Ctx := fun _ => none
theorem co_laws_szEntry : CtxOk Try.prog X_laws_szEntry := CtxOk.nil
theorem cx_laws_szEntry : True := trivial
noncomputable def S_laws_szEntry : ByV := ⟨none, false, semF X_laws_szEntry F_laws_szEntry none false⟩
noncomputable def G_laws_szEntry : CK := .byv S_laws_szEntry
theorem sg_laws_szEntry (args : List AV) : S_laws_szEntry.sem args = semF X_laws_szEntry F_laws_szEntry none false args := rfl
theorem cl_laws_szEntry (args : List AV) (hp : Hp) : callS G_laws_szEntry args hp = byvS S_laws_szEntry args hp := callS_byv rfl rfl args hp
theorem ok_laws_szEntry : InlOk Try.prog 144 (callS G_laws_szEntry) := byv_none co_laws_szEntry Try.func144 r_laws_szEntry rfl (fun _ _ h => h)
/- 135 laws_szEntryS calls [laws_szEntry]  -/
def B0_laws_szEntryS : RC :=
  .seq (.seq (.reg [⟨some 12, none, .mv (.t 5)⟩, ⟨some 13, none, .mv (.t 0)⟩, ⟨some 14, none, .len false (.t 13)⟩, ⟨some 15, none, .bin .lss (.t 12) (.t 14)⟩]) (.cond (.t 15) (.skip) (.exit 0))) (.seq (.block 1 (.seq (.reg [⟨some 18, none, .mv (.t 0)⟩, ⟨some 19, none, .mv (.t 5)⟩, ⟨some 20, none, .ia 3 (.t 18) (.t 19)⟩, ⟨some 21, none, .ld 3 true (.t 20)⟩, ⟨some 22, none, .mv (.t 1)⟩, ⟨some 23, none, .call 144 [(.t 21), (.t 22)]⟩, ⟨some 1, none, .mv (.t 23)⟩]) (.seq (.reg [⟨some 24, none, .mv (.t 1)⟩, ⟨some 25, none, .bin .lss (.t 24) (.c (.int .i64 0))⟩]) (.cond (.t 25) (.seq (.reg [⟨some 4, none, .mv (.c (.int .i64 (-1)))⟩]) (.ret)) (.skip))))) (.reg [⟨some 16, none, .mv (.t 5)⟩, ⟨some 17, none, .bin .add (.t 16) (.c (.int .i64 1))⟩, ⟨some 5, none, .mv (.t 17)⟩]))
def F_laws_szEntryS : RF := ⟨27, 2, [.t 4],
  .seq (.reg [⟨some 4, none, .mv (.c (.int .i64 0))⟩]) (.seq (.reg [⟨some 6, none, .mv (.t 1)⟩, ⟨some 7, none, .mv (.t 0)⟩, ⟨some 8, none, .len false (.t 7)⟩, ⟨some 9, none, .bin .sub (.t 6) (.t 8)⟩, ⟨some 1, none, .mv (.t 9)⟩]) (.seq (.seq (.reg [⟨some 10, none, .mv (.t 1)⟩, ⟨some 11, none, .bin .lss (.t 10) (.c (.int .i64 0))⟩]) (.cond (.t 11) (.seq (.reg [⟨some 4, none, .mv (.c (.int .i64 (-1)))⟩]) (.ret)) (.skip))) (.seq (.seq (.reg [⟨some 5, none, .mv (.c (.int .i64 0))⟩]) (.block 0 (.loop [0, 1, 5] [(1, [1]), (0, [4])] B0_laws_szEntryS))) (.seq (.reg [⟨some 26, none, .mv (.t 1)⟩, ⟨some 4, none, .mv (.t 26)⟩]) (.ret)))))⟩
def K_laws_szEntryS : Keeps := [([0, 1, 5], [(1, [1]), (0, [4])])]
theorem r_laws_szEntryS : resolveF Try.prog Try.f135 K_laws_szEntryS = some F_laws_szEntryS := by kernel_rfl
noncomputable def X_laws_szEntryS : Ctx := Ctx.cons 144 G_laws_szEntry (fun _ => none)
theorem co_laws_szEntryS : CtxOk Try.prog X_laws_szEntryS := CtxOk.cons (CtxOk.nil) ok_laws_szEntry
theorem cx_laws_szEntryS : ((∀ args hp, callX X_laws_szEntryS 144 args hp = callS G_laws_szEntry args hp) ∧ (trC (X_laws_szEntryS 144) = false)) := ⟨fun _ _ => rfl, rfl⟩
noncomputable def S_laws_szEntryS : ByV := ⟨none, false, semF X_laws_szEntryS F_laws_szEntryS none false⟩
noncomputable def G_laws_szEntryS : CK := .byv S_laws_szEntryS
theorem sg_laws_szEntryS (args : List AV) : S_laws_szEntryS.sem args = semF X_laws_szEntryS F_laws_szEntryS none false args := rfl
theorem cl_laws_szEntryS (args : List AV) (hp : Hp) : callS G_laws_szEntryS args hp = byvS S_laws_szEntryS args hp := callS_byv rfl rfl args hp
theorem ok_laws_szEntryS : InlOk Try.prog 135 (callS G_laws_szEntryS) := byv_none co_laws_szEntryS Try.func135 r_laws_szEntryS rfl (fun _ _ h => h)
/- 103 laws_szMonitor calls [laws_szStringS, laws_szEntryS]  -/
def F_laws_szMonitor : RF := ⟨31, 2, [.t 4],
  .seq (.reg [⟨some 2, none, .box (.t 0)⟩, ⟨some 4, none, .mv (.c (.int .i64 0))⟩]) (.seq (.reg [⟨some 5, none, .mv (.t 1)⟩, ⟨some 6, none, .fa 0 (.t 2)⟩, ⟨some 7, none, .ld 1 false (.t 6)⟩, ⟨some 8, none, .len true (.t 7)⟩, ⟨some 9, none, .bin .sub (.t 5) (.t 8)⟩, ⟨some 1, none, .mv (.t 9)⟩]) (.seq (.seq (.reg [⟨some 10, none, .mv (.t 1)⟩, ⟨some 11, none, .bin .lss (.t 10) (.c (.int .i64 0))⟩]) (.cond (.t 11) (.seq (.reg [⟨some 4, none, .mv (.c (.int .i64 (-1)))⟩]) (.ret)) (.skip))) (.seq (.reg [⟨some 12, none, .fa 1 (.t 2)⟩, ⟨some 13, none, .ld 1 false (.t 12)⟩, ⟨some 14, none, .mv (.t 1)⟩, ⟨some 15, none, .call 66 [(.t 13), (.t 14)]⟩, ⟨some 1, none, .mv (.t 15)⟩]) (.seq (.seq (.reg [⟨some 16, none, .mv (.t 1)⟩, ⟨some 17, none, .bin .lss (.t 16) (.c (.int .i64 0))⟩]) (.cond (.t 17) (.seq (.reg [⟨some 4, none, .mv (.c (.int .i64 (-1)))⟩]) (.ret)) (.skip))) (.seq (.reg [⟨some 18, none, .fa 2 (.t 2)⟩, ⟨some 19, none, .ld 1 false (.t 18)⟩, ⟨some 20, none, .mv (.t 1)⟩, ⟨some 21, none, .call 66 [(.t 19), (.t 20)]⟩, ⟨some 1, none, .mv (.t 21)⟩]) (.seq (.seq (.reg [⟨some 22, none, .mv (.t 1)⟩, ⟨some 23, none, .bin .lss (.t 22) (.c (.int .i64 0))⟩]) (.cond (.t 23) (.seq (.reg [⟨some 4, none, .mv (.c (.int .i64 (-1)))⟩]) (.ret)) (.skip))) (.seq (.reg [⟨some 24, none, .fa 3 (.t 2)⟩, ⟨some 25, none, .ld 1 false (.t 24)⟩, ⟨some 26, none, .mv (.t 1)⟩, ⟨some 27, none, .call 135 [(.t 25), (.t 26)]⟩, ⟨some 1, none, .mv (.t 27)⟩]) (.seq (.seq (.reg [⟨some 28, none, .mv (.t 1)⟩, ⟨some 29, none, .bin .lss (.t 28) (.c (.int .i64 0))⟩]) (.cond (.t 29) (.seq (.reg [⟨some 4, none, .mv (.c (.int .i64 (-1)))⟩]) (.ret)) (.skip))) (.seq (.reg [⟨some 30, none, .mv (.t 1)⟩, ⟨some 4, none, .mv (.t 30)⟩]) (.ret))))))))))⟩
def K_laws_szMonitor : Keeps := []
theorem r_laws_szMonitor : resolveF Try.prog Try.f103 K_laws_szMonitor = some F_laws_szMonitor := by kernel_rfl
noncomputable def X_laws_szMonitor : Ctx := Ctx.cons 66 G_laws_szStringS (Ctx.cons 135 G_laws_szEntryS (fun _ => none))
theorem co_laws_szMonitor : CtxOk Try.prog X_laws_szMonitor := CtxOk.cons (CtxOk.cons (CtxOk.nil) ok_laws_szEntryS) ok_laws_szStringS
theorem cx_laws_szMonitor : ((∀ args hp, callX X_laws_szMonitor 66 args hp = callS G_laws_szStringS args hp) ∧ (trC (X_laws_szMonitor 66) = false)) ∧ ((∀ args hp, callX X_laws_szMonitor 135 args hp = callS G_laws_szEntryS args hp) ∧ (trC (X_laws_szMonitor 135) = false)) := ⟨⟨fun _ _ => rfl, rfl⟩, ⟨fun _ _ => rfl, rfl⟩⟩
noncomputable def S_laws_szMonitor : ByV := ⟨none, false, semF X_laws_szMonitor F_laws_szMonitor none false⟩
noncomputable def G_laws_szMonitor : CK := .byv S_laws_szMonitor
theorem sg_laws_szMonitor (args : List AV) : S_laws_szMonitor.sem args = semF X_laws_szMonitor F_laws_szMonitor none false args := rfl
theorem cl_laws_szMonitor (args : List AV) (hp : Hp) : callS G_laws_szMonitor args hp = byvS S_laws_szMonitor args hp := callS_byv rfl rfl args hp
theorem ok_laws_szMonitor : InlOk Try.prog 103 (callS G_laws_szMonitor) := byv_none co_laws_szMonitor Try.func103 r_laws_szMonitor rfl (fun _ _ h => h)
/- 52 laws_szMonitorS calls [laws_szMonitor]  -/
def B0_laws_szMonitorS : RC :=
  .seq (.seq (.reg [⟨some 12, none, .mv (.t 5)⟩, ⟨some 13, none, .mv (.t 0)⟩, ⟨some 14, none, .len false (.t 13)⟩, ⟨some 15, none, .bin .lss (.t 12) (.t 14)⟩]) (.cond (.t 15) (.skip) (.exit 0))) (.seq (.block 1 (.seq (.reg [⟨some 18, none, .mv (.t 0)⟩, ⟨some 19, none, .mv (.t 5)⟩, ⟨some 20, none, .ia 4 (.t 18) (.t 19)⟩, ⟨some 21, none, .ld 4 true (.t 20)⟩, ⟨some 22, none, .mv (.t 1)⟩, ⟨some 23, none, .call 103 [(.t 21), (.t 22)]⟩, ⟨some 1, none, .mv (.t 23)⟩]) (.seq (.reg [⟨some 24, none, .mv (.t 1)⟩, ⟨some 25, none, .bin .lss (.t 24) (.c (.int .i64 0))⟩]) (.cond (.t 25) (.seq (.reg [⟨some 4, none, .mv (.c (.int .i64 (-1)))⟩]) (.ret)) (.skip))))) (.reg [⟨some 16, none, .mv (.t 5)⟩, ⟨some 17, none, .bin .add (.t 16) (.c (.int .i64 1))⟩, ⟨some 5, none, .mv (.t 17)⟩]))
def F_laws_szMonitorS : RF := ⟨27, 2, [.t 4],
  .seq (.reg [⟨some 4, none, .mv (.c (.int .i64 0))⟩]) (.seq (.reg [⟨some 6, none, .mv (.t 1)⟩, ⟨some 7, none, .mv (.t 0)⟩, ⟨some 8, none, .len false (.t 7)⟩, ⟨some 9, none, .bin .sub (.t 6) (.t 8)⟩, ⟨some 1, none, .mv (.t 9)⟩]) (.seq (.seq (.reg [⟨some 10, none, .mv (.t 1)⟩, ⟨some 11, none, .bin .lss (.t 10) (.c (.int .i64 0))⟩]) (.cond (.t 11) (.seq (.reg [⟨some 4, none, .mv (.c (.int .i64 (-1)))⟩]) (.ret)) (.skip))) (.seq (.seq (.reg [⟨some 5, none, .mv (.c (.int .i64 0))⟩]) (.block 0 (.loop [0, 1, 5] [(1, [1]), (0, [4])] B0_laws_szMonitorS))) (.seq (.reg [⟨some 26, none, .mv (.t 1)⟩, ⟨some 4, none, .mv (.t 26)⟩]) (.ret)))))⟩
def K_laws_szMonitorS : Keeps := [([0, 1, 5], [(1, [1]), (0, [4])])]
theorem r_laws_szMonitorS : resolveF Try.prog Try.f52 K_laws_szMonitorS = some F_laws_szMonitorS := by kernel_rfl
noncomputable def X_laws_szMonitorS : Ctx := Ctx.cons 103 G_laws_szMonitor (fun _ => none)
theorem co_laws_szMonitorS : CtxOk Try.prog X_laws_szMonitorS := CtxOk.cons (CtxOk.nil) ok_laws_szMonitor
theorem cx_laws_szMonitorS : ((∀ args hp, callX X_laws_szMonitorS 103 args hp = callS G_laws_szMonitor args hp) ∧ (trC (X_laws_szMonitorS 103) = false)) := ⟨fun _ _ => rfl, rfl⟩
noncomputable def S_laws_szMonitorS : ByV := ⟨none, false, semF X_laws_szMonitorS F_laws_szMonitorS none false⟩
noncomputable def G_laws_szMonitorS : CK := .byv S_laws_szMonitorS
theorem sg_laws_szMonitorS (args : List AV) : S_laws_szMonitorS.sem args = semF X_laws_szMonitorS F_laws_szMonitorS none false args := rfl
theorem cl_laws_szMonitorS (args : List AV) (hp : Hp) : callS G_laws_szMonitorS args hp = byvS S_laws_szMonitorS args hp := callS_byv rfl rfl args hp
theorem ok_laws_szMonitorS : InlOk Try.prog 52 (callS G_laws_szMonitorS) := byv_none co_laws_szMonitorS Try.func52 r_laws_szMonitorS rfl (fun _ _ h => h)
/- 104 laws_szProcess calls [laws_szStringS]  -/
def F_laws_szProcess : RF := ⟨25, 2, [.t 4],
  .seq (.reg [⟨some 2, none, .box (.t 0)⟩, ⟨some 4, none, .mv (.c (.int .i64 0))⟩]) (.seq (.reg [⟨some 5, none, .mv (.t 1)⟩, ⟨some 6, none, .fa 0 (.t 2)⟩, ⟨some 7, none, .ld 1 false (.t 6)⟩, ⟨some 8, none, .len true (.t 7)⟩, ⟨some 9, none, .bin .sub (.t 5) (.t 8)⟩, ⟨some 1, none, .mv (.t 9)⟩]) (.seq (.seq (.reg [⟨some 10, none, .mv (.t 1)⟩, ⟨some 11, none, .bin .lss (.t 10) (.c (.int .i64 0))⟩]) (.cond (.t 11) (.seq (.reg [⟨some 4, none, .mv (.c (.int .i64 (-1)))⟩]) (.ret)) (.skip))) (.seq (.reg [⟨some 12, none, .fa 1 (.t 2)⟩, ⟨some 13, none, .ld 1 false (.t 12)⟩, ⟨some 14, none, .mv (.t 1)⟩, ⟨some 15, none, .call 66 [(.t 13), (.t 14)]⟩, ⟨some 1, none, .mv (.t 15)⟩]) (.seq (.seq (.reg [⟨some 16, none, .mv (.t 1)⟩, ⟨some 17, none, .bin .lss (.t 16) (.c (.int .i64 0))⟩]) (.cond (.t 17) (.seq (.reg [⟨some 4, none, .mv (.c (.int .i64 (-1)))⟩]) (.ret)) (.skip))) (.seq (.reg [⟨some 18, none, .fa 2 (.t 2)⟩, ⟨some 19, none, .ld 1 false (.t 18)⟩, ⟨some 20, none, .mv (.t 1)⟩, ⟨some 21, none, .call 66 [(.t 19), (.t 20)]⟩, ⟨some 1, none, .mv (.t 21)⟩]) (.seq (.seq (.reg [⟨some 22, none, .mv (.t 1)⟩, ⟨some 23, none, .bin .lss (.t 22) (.c (.int .i64 0))⟩]) (.cond (.t 23) (.seq (.reg [⟨some 4, none, .mv (.c (.int .i64 (-1)))⟩]) (.ret)) (.skip))) (.seq (.reg [⟨some 24, none, .mv (.t 1)⟩, ⟨some 4, none, .mv (.t 24)⟩]) (.ret))))))))⟩
def K_laws_szProcess : Keeps := []
theorem r_laws_szProcess : resolveF Try.prog Try.f104 K_laws_szProcess = some F_laws_szProcess := by kernel_rfl
noncomputable def X_laws_szProcess : Ctx := Ctx.cons 66 G_laws_szStringS (fun _ => none)
theorem co_laws_szProcess : CtxOk Try.prog X_laws_szProcess := CtxOk.cons (CtxOk.nil) ok_laws_szStringS
theorem cx_laws_szProcess : ((∀ args hp, callX X_laws_szProcess 66 args hp = callS G_laws_szStringS args hp) ∧ (trC (X_laws_szProcess 66) = false)) := ⟨fun _ _ => rfl, rfl⟩
noncomputable def S_laws_szProcess : ByV := ⟨none, false, semF X_laws_szProcess F_laws_szProcess none false⟩
noncomputable def G_laws_szProcess : CK := .byv S_laws_szProcess
theorem sg_laws_szProcess (args : List AV) : S_laws_szProcess.sem args = semF X_laws_szProcess F_laws_szProcess none false args := rfl
theorem cl_laws_szProcess (args : List AV) (hp : Hp) : callS G_laws_szProcess args hp = byvS S_laws_szProcess args hp := callS_byv rfl rfl args hp
theorem ok_laws_szProcess : InlOk Try.prog 104 (callS G_laws_szProcess) := byv_none co_laws_szProcess Try.func104 r_laws_szProcess rfl (fun _ _ h => h)
/- 53 laws_szProcessS calls [laws_szProcess]  -/
def B0_laws_szProcessS : RC :=
  .seq (.seq (.reg [⟨some 12, none, .mv (.t 5)⟩, ⟨some 13, none, .mv (.t 0)⟩, ⟨some 14, none, .len false (.t 13)⟩, ⟨some 15, none, .bin .lss (.t 12) (.t 14)⟩]) (.cond (.t 15) (.skip) (.exit 0))) (.seq (.block 1 (.seq (.reg [⟨some 18, none, .mv (.t 0)⟩, ⟨some 19, none, .mv (.t 5)⟩, ⟨some 20, none, .ia 4 (.t 18) (.t 19)⟩, ⟨some 21, none, .ld 4 true (.t 20)⟩, ⟨some 22, none, .mv (.t 1)⟩, ⟨some 23, none, .call 104 [(.t 21), (.t 22)]⟩, ⟨some 1, none, .mv (.t 23)⟩]) (.seq (.reg [⟨some 24, none, .mv (.t 1)⟩, ⟨some 25, none, .bin .lss (.t 24) (.c (.int .i64 0))⟩]) (.cond (.t 25) (.seq (.reg [⟨some 4, none, .mv (.c (.int .i64 (-1)))⟩]) (.ret)) (.skip))))) (.reg [⟨some 16, none, .mv (.t 5)⟩, ⟨some 17, none, .bin .add (.t 16) (.c (.int .i64 1))⟩, ⟨some 5, none, .mv (.t 17)⟩]))
def F_laws_szProcessS : RF := ⟨27, 2, [.t 4],
  .seq (.reg [⟨some 4, none, .mv (.c (.int .i64 0))⟩]) (.seq (.reg [⟨some 6, none, .mv (.t 1)⟩, ⟨some 7, none, .mv (.t 0)⟩, ⟨some 8, none, .len false (.t 7)⟩, ⟨some 9, none, .bin .sub (.t 6) (.t 8)⟩, ⟨some 1, none, .mv (.t 9)⟩]) (.seq (.seq (.reg [⟨some 10, none, .mv (.t 1)⟩, ⟨some 11, none, .bin .lss (.t 10) (.c (.int .i64 0))⟩]) (.cond (.t 11) (.seq (.reg [⟨some 4, none, .mv (.c (.int .i64 (-1)))⟩]) (.ret)) (.skip))) (.seq (.seq (.reg [⟨some 5, none, .mv (.c (.int .i64 0))⟩]) (.block 0 (.loop [0, 1, 5] [(1, [1]), (0, [4])] B0_laws_szProcessS))) (.seq (.reg [⟨some 26, none, .mv (.t 1)⟩, ⟨some 4, none, .mv (.t 26)⟩]) (.ret)))))⟩
def K_laws_szProcessS : Keeps := [([0, 1, 5], [(1, [1]), (0, [4])])]
theorem r_laws_szProcessS : resolveF Try.prog Try.f53 K_laws_szProcessS = some F_laws_szProcessS := by kernel_rfl
noncomputable def X_laws_szProcessS : Ctx := Ctx.cons 104 G_laws_szProcess (fun _ => none)
theorem co_laws_szProcessS : CtxOk Try.prog X_laws_szProcessS := CtxOk.cons (CtxOk.nil) ok_laws_szProcess
theorem cx_laws_szProcessS : ((∀ args hp, callX X_laws_szProcessS 104 args hp = callS G_laws_szProcess args hp) ∧ (trC (X_laws_szProcessS 104) = false)) := ⟨fun _ _ => rfl, rfl⟩
noncomputable def S_laws_szProcessS : ByV := ⟨none, false, semF X_laws_szProcessS F_laws_szProcessS none false⟩
noncomputable def G_laws_szProcessS : CK := .byv S_laws_szProcessS
theorem sg_laws_szProcessS (args : List AV) : S_laws_szProcessS.sem args = semF X_laws_szProcessS F_laws_szProcessS none false args := rfl
theorem cl_laws_szProcessS (args : List AV) (hp : Hp) : callS G_laws_szProcessS args hp = byvS S_laws_szProcessS args hp := callS_byv rfl rfl args hp
theorem ok_laws_szProcessS : InlOk Try.prog 53 (callS G_laws_szProcessS) := byv_none co_laws_szProcessS Try.func53 r_laws_szProcessS rfl (fun _ _ h => h)
/- 14 laws_szProgram calls [laws_szNodeS, laws_szMonitorS, laws_szProcessS]  -/
def F_laws_szProgram : RF := ⟨24, 2, [.t 4],
  .seq (.reg [⟨some 2, none, .box (.t 0)⟩, ⟨some 4, none, .mv (.c (.int .i64 0))⟩]) (.seq (.reg [⟨some 5, none, .fa 0 (.t 2)⟩, ⟨some 6, none, .ld 1 false (.t 5)⟩, ⟨some 7, none, .mv (.t 1)⟩, ⟨some 8, none, .call 51 [(.t 6), (.t 7)]⟩, ⟨some 1, none, .mv (.t 8)⟩]) (.seq (.seq (.reg [⟨some 9, none, .mv (.t 1)⟩, ⟨some 10, none, .bin .lss (.t 9) (.c (.int .i64 0))⟩]) (.cond (.t 10) (.seq (.reg [⟨some 4, none, .mv (.c (.int .i64 (-1)))⟩]) (.ret)) (.skip))) (.seq (.reg [⟨some 11, none, .fa 1 (.t 2)⟩, ⟨some 12, none, .ld 1 false (.t 11)⟩, ⟨some 13, none, .mv (.t 1)⟩, ⟨some 14, none, .call 52 [(.t 12), (.t 13)]⟩, ⟨some 1, none, .mv (.t 14)⟩]) (.seq (.seq (.reg [⟨some 15, none, .mv (.t 1)⟩, ⟨some 16, none, .bin .lss (.t 15) (.c (.int .i64 0))⟩]) (.cond (.t 16) (.seq (.reg [⟨some 4, none, .mv (.c (.int .i64 (-1)))⟩]) (.ret)) (.skip))) (.seq (.reg [⟨some 17, none, .fa 2 (.t 2)⟩, ⟨some 18, none, .ld 1 false (.t 17)⟩, ⟨some 19, none, .mv (.t 1)⟩, ⟨some 20, none, .call 53 [(.t 18), (.t 19)]⟩, ⟨some 1, none, .mv (.t 20)⟩]) (.seq (.seq (.reg [⟨some 21, none, .mv (.t 1)⟩, ⟨some 22, none, .bin .lss (.t 21) (.c (.int .i64 0))⟩]) (.cond (.t 22) (.seq (.reg [⟨some 4, none, .mv (.c (.int .i64 (-1)))⟩]) (.ret)) (.skip))) (.seq (.reg [⟨some 23, none, .mv (.t 1)⟩, ⟨some 4, none, .mv (.t 23)⟩]) (.ret))))))))⟩
def K_laws_szProgram : Keeps := []
theorem r_laws_szProgram : resolveF Try.prog Try.f14 K_laws_szProgram = some F_laws_szProgram := by kernel_rfl
noncomputable def X_laws_szProgram : Ctx := Ctx.cons 51 G_laws_szNodeS (Ctx.cons 52 G_laws_szMonitorS (Ctx.cons 53 G_laws_szProcessS (fun _ => none)))
theorem co_laws_szProgram : CtxOk Try.prog X_laws_szProgram := CtxOk.cons (CtxOk.cons (CtxOk.cons (CtxOk.nil) ok_laws_szProcessS) ok_laws_szMonitorS) ok_laws_szNodeS
theorem cx_laws_szProgram : ((∀ args hp, callX X_laws_szProgram 51 args hp = callS G_laws_szNodeS args hp) ∧ (trC (X_laws_szProgram 51) = false)) ∧ ((∀ args hp, callX X_laws_szProgram 52 args hp = callS G_laws_szMonitorS args hp) ∧ (trC (X_laws_szProgram 52) = false)) ∧ ((∀ args hp, callX X_laws_szProgram 53 args hp = callS G_laws_szProcessS args hp) ∧ (trC (X_laws_szProgram 53) = false)) := ⟨⟨fun _ _ => rfl, rfl⟩, ⟨fun _ _ => rfl, rfl⟩, ⟨fun _ _ => rfl, rfl⟩⟩
noncomputable def S_laws_szProgram : ByV := ⟨none, false, semF X_laws_szProgram F_laws_szProgram none false⟩
noncomputable def G_laws_szProgram : CK := .byv S_laws_szProgram
theorem sg_laws_szProgram (args : List AV) : S_laws_szProgram.sem args = semF X_laws_szProgram F_laws_szProgram none false args := rfl
theorem cl_laws_szProgram (args : List AV) (hp : Hp) : callS G_laws_szProgram args hp = byvS S_laws_szProgram args hp := callS_byv rfl rfl args hp
theorem ok_laws_szProgram : InlOk Try.prog 14 (callS G_laws_szProgram) := byv_none co_laws_szProgram Try.func14 r_laws_szProgram rfl (fun _ _ h => h)
/- 70 laws_toIntS calls []  -/
def B0_laws_toIntS : RC :=
  .seq (.seq (.reg [⟨some 8, none, .mv (.t 4)⟩, ⟨some 9, none, .mv (.t 0)⟩, ⟨some 10, none, .len false (.t 9)⟩, ⟨some 11, none, .bin .lss (.t 8) (.t 10)⟩]) (.cond (.t 11) (.skip) (.exit 0))) (.seq (.block 1 (.reg [⟨some 14, none, .mv (.t 3)⟩, ⟨some 15, none, .mv (.t 4)⟩, ⟨some 16, none, .mv (.t 0)⟩, ⟨some 17, none, .mv (.t 4)⟩, ⟨some 18, none, .ia 1 (.t 16) (.t 17)⟩, ⟨some 19, none, .ld 1 false (.t 18)⟩, ⟨some 20, none, .ia 1 (.t 14) (.t 15)⟩, ⟨none, none, .st 1 (.t 20) (.t 19)⟩])) (.reg [⟨some 12, none, .mv (.t 4)⟩, ⟨some 13, none, .bin .add (.t 12) (.c (.int .i64 1))⟩, ⟨some 4, none, .mv (.t 13)⟩]))
def F_laws_toIntS : RF := ⟨22, 1, [.t 2],
  .seq (.reg [⟨some 2, none, .mv (.c (.nil 1))⟩]) (.seq (.reg [⟨some 5, none, .mv (.t 0)⟩, ⟨some 6, none, .len false (.t 5)⟩, ⟨some 7, none, .mk 1 [(.int .i64 0)] 8 (.t 6) (.t 6)⟩, ⟨some 3, none, .mv (.t 7)⟩]) (.seq (.seq (.reg [⟨some 4, none, .mv (.c (.int .i64 0))⟩]) (.block 0 (.loop [0, 3, 4] [(1, [3])] B0_laws_toIntS))) (.seq (.reg [⟨some 21, none, .mv (.t 3)⟩, ⟨some 2, none, .mv (.t 21)⟩]) (.ret))))⟩
def K_laws_toIntS : Keeps := [([0, 3, 4], [(1, [3])])]
theorem r_laws_toIntS : resolveF Try.prog Try.f70 K_laws_toIntS = some F_laws_toIntS := by kernel_rfl
noncomputable def X_laws_toIntS : Ctx := fun _ => none
theorem co_laws_toIntS : CtxOk Try.prog X_laws_toIntS := CtxOk.nil
theorem cx_laws_toIntS : True := trivial
noncomputable def S_laws_toIntS : ByV := ⟨none, false, semF X_laws_toIntS F_laws_toIntS none false⟩
noncomputable def G_laws_toIntS : CK := .byv S_laws_toIntS
theorem sg_laws_toIntS (args : List AV) : S_laws_toIntS.sem args = semF X_laws_toIntS F_laws_toIntS none false args := rfl
theorem cl_laws_toIntS (args : List AV) (hp : Hp) : callS G_laws_toIntS args hp = byvS S_laws_toIntS args hp := callS_byv rfl rfl args hp
theorem ok_laws_toIntS : InlOk Try.prog 70 (callS G_laws_toIntS) := byv_none co_laws_toIntS Try.func70 r_laws_toIntS rfl (fun _ _ h => h)
/- 106 laws_toNode calls [laws_toIntS]  -/
def F_laws_toNode : RF := ⟨24, 1, [.cell 2 6 true],
  .seq (.reg [⟨some 1, none, .box (.t 0)⟩, ⟨some 2, none, .new [(.int .i64 0), (.int .i64 0), (.str ⟨#[]⟩), (.str ⟨#[]⟩), (.str ⟨#[]⟩), (.nil 1)]⟩]) (.seq (.reg [⟨some 3, none, .new [(.int .i64 0), (.int .i64 0), (.str ⟨#[]⟩), (.str ⟨#[]⟩), (.str ⟨#[]⟩), (.nil 1)]⟩]) (.seq (.reg [⟨some 4, none, .fa 0 (.t 1)⟩, ⟨some 5, none, .ld 1 false (.t 4)⟩, ⟨some 6, none, .fa 0 (.t 3)⟩, ⟨none, none, .st 1 (.t 6) (.t 5)⟩]) (.seq (.reg [⟨some 7, none, .fa 1 (.t 1)⟩, ⟨some 8, none, .ld 1 false (.t 7)⟩, ⟨some 9, none, .fa 1 (.t 3)⟩, ⟨none, none, .st 1 (.t 9) (.t 8)⟩]) (.seq (.reg [⟨some 10, none, .fa 2 (.t 1)⟩, ⟨some 11, none, .ld 1 false (.t 10)⟩, ⟨some 12, none, .fa 2 (.t 3)⟩, ⟨none, none, .st 1 (.t 12) (.t 11)⟩]) (.seq (.reg [⟨some 13, none, .fa 3 (.t 1)⟩, ⟨some 14, none, .ld 1 false (.t 13)⟩, ⟨some 15, none, .fa 3 (.t 3)⟩, ⟨none, none, .st 1 (.t 15) (.t 14)⟩]) (.seq (.reg [⟨some 16, none, .fa 4 (.t 1)⟩, ⟨some 17, none, .ld 1 false (.t 16)⟩, ⟨some 18, none, .fa 4 (.t 3)⟩, ⟨none, none, .st 1 (.t 18) (.t 17)⟩]) (.seq (.reg [⟨some 19, none, .fa 5 (.t 1)⟩, ⟨some 20, none, .ld 1 false (.t 19)⟩, ⟨some 21, none, .call 70 [(.t 20)]⟩, ⟨some 22, none, .fa 5 (.t 3)⟩, ⟨none, none, .st 1 (.t 22) (.t 21)⟩]) (.seq (.reg [⟨some 23, none, .ld 6 true (.t 3)⟩, ⟨none, none, .st 6 (.t 2) (.t 23)⟩]) (.ret)))))))))⟩
def K_laws_toNode : Keeps := []
theorem r_laws_toNode : resolveF Try.prog Try.f106 K_laws_toNode = some F_laws_toNode := by kernel_rfl
noncomputable def X_laws_toNode : Ctx := Ctx.cons 70 G_laws_toIntS (fun _ => none)
theorem co_laws_toNode : CtxOk Try.prog X_laws_toNode := CtxOk.cons (CtxOk.nil) ok_laws_toIntS
theorem cx_laws_toNode : ((∀ args hp, callX X_laws_toNode 70 args hp = callS G_laws_toIntS args hp) ∧ (trC (X_laws_toNode 70) = false)) := ⟨fun _ _ => rfl, rfl⟩
noncomputable def S_laws_toNode : ByV := ⟨none, false, semF X_laws_toNode F_laws_toNode none false⟩
noncomputable def G_laws_toNode : CK := .byv S_laws_toNode
theorem sg_laws_toNode (args : List AV) : S_laws_toNode.sem args = semF X_laws_toNode F_laws_toNode none false args := rfl
theorem cl_laws_toNode (args : List AV) (hp : Hp) : callS G_laws_toNode args hp = byvS S_laws_toNode args hp := callS_byv rfl rfl args hp
theorem ok_laws_toNode : InlOk Try.prog 106 (callS G_laws_toNode) := byv_none co_laws_toNode Try.func106 r_laws_toNode rfl (fun _ _ h => h)
/- 57 laws_toNodeS calls [laws_toNode]  -/
def B0_laws_toNodeS : RC :=
  .seq (.seq (.reg [⟨some 8, none, .mv (.t 4)⟩, ⟨some 9, none, .mv (.t 0)⟩, ⟨some 10, none, .len false (.t 9)⟩, ⟨some 11, none, .bin .lss (.t 8) (.t 10)⟩]) (.cond (.t 11) (.skip) (.exit 0))) (.seq (.block 1 (.reg [⟨some 14, none, .mv (.t 3)⟩, ⟨some 15, none, .mv (.t 4)⟩, ⟨some 16, none, .mv (.t 0)⟩, ⟨some 17, none, .mv (.t 4)⟩, ⟨some 18, none, .ia 6 (.t 16) (.t 17)⟩, ⟨some 19, none, .ld 6 true (.t 18)⟩, ⟨some 20, none, .call 106 [(.t 19)]⟩, ⟨some 21, none, .ia 6 (.t 14) (.t 15)⟩, ⟨none, none, .st 6 (.t 21) (.t 20)⟩])) (.reg [⟨some 12, none, .mv (.t 4)⟩, ⟨some 13, none, .bin .add (.t 12) (.c (.int .i64 1))⟩, ⟨some 4, none, .mv (.t 13)⟩]))
def F_laws_toNodeS : RF := ⟨23, 1, [.t 2],
  .seq (.reg [⟨some 2, none, .mv (.c (.nil 6))⟩]) (.seq (.reg [⟨some 5, none, .mv (.t 0)⟩, ⟨some 6, none, .len false (.t 5)⟩, ⟨some 7, none, .mk 6 [(.int .i64 0), (.int .i64 0), (.str ⟨#[]⟩), (.str ⟨#[]⟩), (.str ⟨#[]⟩), (.tree 1 [])] 88 (.t 6) (.t 6)⟩, ⟨some 3, none, .mv (.t 7)⟩]) (.seq (.seq (.reg [⟨some 4, none, .mv (.c (.int .i64 0))⟩]) (.block 0 (.loop [0, 3, 4] [(1, [3])] B0_laws_toNodeS))) (.seq (.reg [⟨some 22, none, .mv (.t 3)⟩, ⟨some 2, none, .mv (.t 22)⟩]) (.ret))))⟩
def K_laws_toNodeS : Keeps := [([0, 3, 4], [(1, [3])])]
theorem r_laws_toNodeS : resolveF Try.prog Try.f57 K_laws_toNodeS = some F_laws_toNodeS := by kernel_rfl
noncomputable def X_laws_toNodeS : Ctx := Ctx.cons 106 G_laws_toNode (fun _ => none)
theorem co_laws_toNodeS : CtxOk Try.prog X_laws_toNodeS := CtxOk.cons (CtxOk.nil) ok_laws_toNode
theorem cx_laws_toNodeS : ((∀ args hp, callX X_laws_toNodeS 106 args hp = callS G_laws_toNode args hp) ∧ (trC (X_laws_toNodeS 106) = false)) := ⟨fun _ _ => rfl, rfl⟩
noncomputable def S_laws_toNodeS : ByV := ⟨none, false, semF X_laws_toNodeS F_laws_toNodeS none false⟩
noncomputable def G_laws_toNodeS : CK := .byv S_laws_toNodeS
theorem sg_laws_toNodeS (args : List AV) : S_laws_toNodeS.sem args = semF X_laws_toNodeS F_laws_toNodeS none false args := rfl
theorem cl_laws_toNodeS (args : List AV) (hp : Hp) : callS G_laws_toNodeS args hp = byvS S_laws_toNodeS args hp := callS_byv rfl rfl args hp
theorem ok_laws_toNodeS : InlOk Try.prog 57 (callS G_laws_toNodeS) := byv_none co_laws_toNodeS Try.func57 r_laws_toNodeS rfl (fun _ _ h => h)
/- 69 laws_toStringS calls []  -/
def B0_laws_toStringS : RC :=
  .seq (.seq (.reg [⟨some 8, none, .mv (.t 4)⟩, ⟨some 9, none, .mv (.t 0)⟩, ⟨some 10, none, .len false (.t 9)⟩, ⟨some 11, none, .bin .lss (.t 8) (.t 10)⟩]) (.cond (.t 11) (.skip) (.exit 0))) (.seq (.block 1 (.reg [⟨some 14, none, .mv (.t 3)⟩, ⟨some 15, none, .mv (.t 4)⟩, ⟨some 16, none, .mv (.t 0)⟩, ⟨some 17, none, .mv (.t 4)⟩, ⟨some 18, none, .ia 1 (.t 16) (.t 17)⟩, ⟨some 19, none, .ld 1 false (.t 18)⟩, ⟨some 20, none, .ia 1 (.t 14) (.t 15)⟩, ⟨none, none, .st 1 (.t 20) (.t 19)⟩])) (.reg [⟨some 12, none, .mv (.t 4)⟩, ⟨some 13, none, .bin .add (.t 12) (.c (.int .i64 1))⟩, ⟨some 4, none, .mv (.t 13)⟩]))
def F_laws_toStringS : RF := ⟨22, 1, [.t 2],
  .seq (.reg [⟨some 2, none, .mv (.c (.nil 1))⟩]) (.seq (.reg [⟨some 5, none, .mv (.t 0)⟩, ⟨some 6, none, .len false (.t 5)⟩, ⟨some 7, none, .mk 1 [(.str ⟨#[]⟩)] 16 (.t 6) (.t 6)⟩, ⟨some 3, none, .mv (.t 7)⟩]) (.seq (.seq (.reg [⟨some 4, none, .mv (.c (.int .i64 0))⟩]) (.block 0 (.loop [0, 3, 4] [(1, [3])] B0_laws_toStringS))) (.seq (.reg [⟨some 21, none, .mv (.t 3)⟩, ⟨some 2, none, .mv (.t 21)⟩]) (.ret))))⟩
def K_laws_toStringS : Keeps := [([0, 3, 4], [(1, [3])])]
theorem r_laws_toStringS : resolveF Try.prog Try.f69 K_laws_toStringS = some F_laws_toStringS := by kernel_rfl
noncomputable def X_laws_toStringS : Ctx := fun _ => none
theorem co_laws_toStringS : CtxOk Try.prog X_laws_toStringS := CtxOk.nil
theorem cx_laws_toStringS : True := trivial
noncomputable def S_laws_toStringS : ByV := ⟨none, false, semF X_laws_toStringS F_laws_toStringS none false⟩
noncomputable def G_laws_toStringS : CK := .byv S_laws_toStringS
theorem sg_laws_toStringS (args : List AV) : S_laws_toStringS.sem args = semF X_laws_toStringS F_laws_toStringS none false args := rfl
theorem cl_laws_toStringS (args : List AV) (hp : Hp) : callS G_laws_toStringS args hp = byvS S_laws_toStringS args hp := callS_byv rfl rfl args hp
theorem ok_laws_toStringS : InlOk Try.prog 69 (callS G_laws_toStringS) := byv_none co_laws_toStringS Try.func69 r_laws_toStringS rfl (fun _ _ h => h)
/- 148 laws_toEntry calls []  -/
def F_laws_toEntry : RF := ⟨14, 1, [.cell 2 3 true],
  .seq (.reg [⟨some 1, none, .box (.t 0)⟩, ⟨some 2, none, .new [(.str ⟨#[]⟩), (.str ⟨#[]⟩), (.int .i64 0)]⟩]) (.seq (.reg [⟨some 3, none, .new [(.str ⟨#[]⟩), (.str ⟨#[]⟩), (.int .i64 0)]⟩]) (.seq (.reg [⟨some 4, none, .fa 0 (.t 1)⟩, ⟨some 5, none, .ld 1 false (.t 4)⟩, ⟨some 6, none, .fa 0 (.t 3)⟩, ⟨none, none, .st 1 (.t 6) (.t 5)⟩]) (.seq (.reg [⟨some 7, none, .fa 1 (.t 1)⟩, ⟨some 8, none, .ld 1 false (.t 7)⟩, ⟨some 9, none, .fa 1 (.t 3)⟩, ⟨none, none, .st 1 (.t 9) (.t 8)⟩]) (.seq (.reg [⟨some 10, none, .fa 2 (.t 1)⟩, ⟨some 11, none, .ld 1 false (.t 10)⟩, ⟨some 12, none, .fa 2 (.t 3)⟩, ⟨none, none, .st 1 (.t 12) (.t 11)⟩]) (.seq (.reg [⟨some 13, none, .ld 3 true (.t 3)⟩, ⟨none, none, .st 3 (.t 2) (.t 13)⟩]) (.ret))))))⟩
def K_laws_toEntry : Keeps := []
theorem r_laws_toEntry : resolveF Try.prog Try.f148 K_laws_toEntry = some F_laws_toEntry := by kernel_rfl
noncomputable def X_laws_toEntry : Ctx := fun _ => none
theorem co_laws_toEntry : CtxOk Try.prog X_laws_toEntry := CtxOk.nil
theorem cx_laws_toEntry : True := trivial
noncomputable def S_laws_toEntry : ByV := ⟨none, false, semF X_laws_toEntry F_laws_toEntry none false⟩
noncomputable def G_laws_toEntry : CK := .byv S_laws_toEntry
theorem sg_laws_toEntry (args : List AV) : S_laws_toEntry.sem args = semF X_laws_toEntry F_laws_toEntry none false args := rfl
theorem cl_laws_toEntry (args : List AV) (hp : Hp) : callS G_laws_toEntry args hp = byvS S_laws_toEntry args hp := callS_byv rfl rfl args hp
theorem ok_laws_toEntry : InlOk Try.prog 148 (callS G_laws_toEntry) := byv_none co_laws_toEntry Try.func148 r_laws_toEntry rfl (fun _ _ h => h)
/- 137 laws_toEntryS calls [laws_toEntry]  -/
def B0_laws_toEntryS : RC :=
  .seq (.seq (.reg [⟨some 8, none, .mv (.t 4)⟩, ⟨some 9, none, .mv (.t 0)⟩, ⟨some 10, none, .len false (.t 9)⟩, ⟨some 11, none, .bin .lss (.t 8) (.t 10)⟩]) (.cond (.t 11) (.skip) (.exit 0))) (.seq (.block 1 (.reg [⟨some 14, none, .mv (.t 3)⟩, ⟨some 15, none, .mv (.t 4)⟩, ⟨some 16, none, .mv (.t 0)⟩, ⟨some 17, none, .mv (.t 4)⟩, ⟨some 18, none, .ia 3 (.t 16) (.t 17)⟩, ⟨some 19, none, .ld 3 true (.t 18)⟩, ⟨some 20, none, .call 148 [(.t 19)]⟩, ⟨some 21, none, .ia 3 (.t 14) (.t 15)⟩, ⟨none, none, .st 3 (.t 21) (.t 20)⟩])) (.reg [⟨some 12, none, .mv (.t 4)⟩, ⟨some 13, none, .bin .add (.t 12) (.c (.int .i64 1))⟩, ⟨some 4, none, .mv (.t 13)⟩]))
def F_laws_toEntryS : RF := ⟨23, 1, [.t 2],
  .seq (.reg [⟨some 2, none, .mv (.c (.nil 3))⟩]) (.seq (.reg [⟨some 5, none, .mv (.t 0)⟩, ⟨some 6, none, .len false (.t 5)⟩, ⟨some 7, none, .mk 3 [(.str ⟨#[]⟩), (.str ⟨#[]⟩), (.int .i64 0)] 40 (.t 6) (.t 6)⟩, ⟨some 3, none, .mv (.t 7)⟩]) (.seq (.seq (.reg [⟨some 4, none, .mv (.c (.int .i64 0))⟩]) (.block 0 (.loop [0, 3, 4] [(1, [3])] B0_laws_toEntryS))) (.seq (.reg [⟨some 22, none, .mv (.t 3)⟩, ⟨some 2, none, .mv (.t 22)⟩]) (.ret))))⟩
def K_laws_toEntryS : Keeps := [([0, 3, 4], [(1, [3])])]
theorem r_laws_toEntryS : resolveF Try.prog Try.f137 K_laws_toEntryS = some F_laws_toEntryS := by kernel_rfl
noncomputable def X_laws_toEntryS : Ctx := Ctx.cons 148 G_laws_toEntry (fun _ => none)
theorem co_laws_toEntryS : CtxOk Try.prog X_laws_toEntryS := CtxOk.cons (CtxOk.nil) ok_laws_toEntry
theorem cx_laws_toEntryS : ((∀ args hp, callX X_laws_toEntryS 148 args hp = callS G_laws_toEntry args hp) ∧ (trC (X_laws_toEntryS 148) = false)) := ⟨fun _ _ => rfl, rfl⟩
noncomputable def S_laws_toEntryS : ByV := ⟨none, false, semF X_laws_toEntryS F_laws_toEntryS none false⟩
noncomputable def G_laws_toEntryS : CK := .byv S_laws_toEntryS
theorem sg_laws_toEntryS (args : List AV) : S_laws_toEntryS.sem args = semF X_laws_toEntryS F_laws_toEntryS none false args := rfl
theorem cl_laws_toEntryS (args : List AV) (hp : Hp) : callS G_laws_toEntryS args hp = byvS S_laws_toEntryS args hp := callS_byv rfl rfl args hp
theorem ok_laws_toEntryS : InlOk Try.prog 137 (callS G_laws_toEntryS) := byv_none co_laws_toEntryS Try.func137 r_laws_toEntryS rfl (fun _ _ h => h)
/- 107 laws_toMonitor calls [laws_toStringS, laws_toEntryS]  -/
def F_laws_toMonitor : RF := ⟨20, 1, [.cell 2 4 true],
  .seq (.reg [⟨some 1, none, .box (.t 0)⟩, ⟨some 2, none, .new [(.str ⟨#[]⟩), (.nil 1), (.nil 1), (.nil 3)]⟩]) (.seq (.reg [⟨some 3, none, .new [(.str ⟨#[]⟩), (.nil 1), (.nil 1), (.nil 3)]⟩]) (.seq (.reg [⟨some 4, none, .fa 0 (.t 1)⟩, ⟨some 5, none, .ld 1 false (.t 4)⟩, ⟨some 6, none, .fa 0 (.t 3)⟩, ⟨none, none, .st 1 (.t 6) (.t 5)⟩]) (.seq (.reg [⟨some 7, none, .fa 1 (.t 1)⟩, ⟨some 8, none, .ld 1 false (.t 7)⟩, ⟨some 9, none, .call 69 [(.t 8)]⟩, ⟨some 10, none, .fa 1 (.t 3)⟩, ⟨none, none, .st 1 (.t 10) (.t 9)⟩]) (.seq (.reg [⟨some 11, none, .fa 2 (.t 1)⟩, ⟨some 12, none, .ld 1 false (.t 11)⟩, ⟨some 13, none, .call 69 [(.t 12)]⟩, ⟨some 14, none, .fa 2 (.t 3)⟩, ⟨none, none, .st 1 (.t 14) (.t 13)⟩]) (.seq (.reg [⟨some 15, none, .fa 3 (.t 1)⟩, ⟨some 16, none, .ld 1 false (.t 15)⟩, ⟨some 17, none, .call 137 [(.t 16)]⟩, ⟨some 18, none, .fa 3 (.t 3)⟩, ⟨none, none, .st 1 (.t 18) (.t 17)⟩]) (.seq (.reg [⟨some 19, none, .ld 4 true (.t 3)⟩, ⟨none, none, .st 4 (.t 2) (.t 19)⟩]) (.ret)))))))⟩
def K_laws_toMonitor : Keeps := []
theorem r_laws_toMonitor : resolveF Try.prog Try.f107 K_laws_toMonitor = some F_laws_toMonitor := by kernel_rfl
noncomputable def X_laws_toMonitor : Ctx := Ctx.cons 69 G_laws_toStringS (Ctx.cons 137 G_laws_toEntryS (fun _ => none))
theorem co_laws_toMonitor : CtxOk Try.prog X_laws_toMonitor := CtxOk.cons (CtxOk.cons (CtxOk.nil) ok_laws_toEntryS) ok_laws_toStringS
theorem cx_laws_toMonitor : ((∀ args hp, callX X_laws_toMonitor 69 args hp = callS G_laws_toStringS args hp) ∧ (trC (X_laws_toMonitor 69) = false)) ∧ ((∀ args hp, callX X_laws_toMonitor 137 args hp = callS G_laws_toEntryS args hp) ∧ (trC (X_laws_toMonitor 137) = false)) := ⟨⟨fun _ _ => rfl, rfl⟩, ⟨fun _ _ => rfl, rfl⟩⟩
noncomputable def S_laws_toMonitor : ByV := ⟨none, false, semF X_laws_toMonitor F_laws_toMonitor none false⟩
noncomputable def G_laws_toMonitor : CK := .byv S_laws_toMonitor
theorem sg_laws_toMonitor (args : List AV) : S_laws_toMonitor.sem args = semF X_laws_toMonitor F_laws_toMonitor none false args := rfl
theorem cl_laws_toMonitor (args : List AV) (hp : Hp) : callS G_laws_toMonitor args hp = byvS S_laws_toMonitor args hp := callS_byv rfl rfl args hp
theorem ok_laws_toMonitor : InlOk Try.prog 107 (callS G_laws_toMonitor) := byv_none co_laws_toMonitor Try.func107 r_laws_toMonitor rfl (fun _ _ h => h)
/- 58 laws_toMonitorS calls [laws_toMonitor]  -/
def B0_laws_toMonitorS : RC :=
  .seq (.seq (.reg [⟨some 8, none, .mv (.t 4)⟩, ⟨some 9, none, .mv (.t 0)⟩, ⟨some 10, none, .len false (.t 9)⟩, ⟨some 11, none, .bin .lss (.t 8) (.t 10)⟩]) (.cond (.t 11) (.skip) (.exit 0))) (.seq (.block 1 (.reg [⟨some 14, none, .mv (.t 3)⟩, ⟨some 15, none, .mv (.t 4)⟩, ⟨some 16, none, .mv (.t 0)⟩, ⟨some 17, none, .mv (.t 4)⟩, ⟨some 18, none, .ia 4 (.t 16) (.t 17)⟩, ⟨some 19, none, .ld 4 true (.t 18)⟩, ⟨some 20, none, .call 107 [(.t 19)]⟩, ⟨some 21, none, .ia 4 (.t 14) (.t 15)⟩, ⟨none, none, .st 4 (.t 21) (.t 20)⟩])) (.reg [⟨some 12, none, .mv (.t 4)⟩, ⟨some 13, none, .bin .add (.t 12) (.c (.int .i64 1))⟩, ⟨some 4, none, .mv (.t 13)⟩]))
def F_laws_toMonitorS : RF := ⟨23, 1, [.t 2],
  .seq (.reg [⟨some 2, none, .mv (.c (.nil 4))⟩]) (.seq (.reg [⟨some 5, none, .mv (.t 0)⟩, ⟨some 6, none, .len false (.t 5)⟩, ⟨some 7, none, .mk 4 [(.str ⟨#[]⟩), (.tree 1 []), (.tree 1 []), (.tree 3 [])] 88 (.t 6) (.t 6)⟩, ⟨some 3, none, .mv (.t 7)⟩]) (.seq (.seq (.reg [⟨some 4, none, .mv (.c (.int .i64 0))⟩]) (.block 0 (.loop [0, 3, 4] [(1, [3])] B0_laws_toMonitorS))) (.seq (.reg [⟨some 22, none, .mv (.t 3)⟩, ⟨some 2, none, .mv (.t 22)⟩]) (.ret))))⟩
def K_laws_toMonitorS : Keeps := [([0, 3, 4], [(1, [3])])]
theorem r_laws_toMonitorS : resolveF Try.prog Try.f58 K_laws_toMonitorS = some F_laws_toMonitorS := by kernel_rfl
noncomputable def X_laws_toMonitorS : Ctx := Ctx.cons 107 G_laws_toMonitor (fun _ => none)
theorem co_laws_toMonitorS : CtxOk Try.prog X_laws_toMonitorS := CtxOk.cons (CtxOk.nil) ok_laws_toMonitor
theorem cx_laws_toMonitorS : ((∀ args hp, callX X_laws_toMonitorS 107 args hp = callS G_laws_toMonitor args hp) ∧ (trC (X_laws_toMonitorS 107) = false)) := ⟨fun _ _ => rfl, rfl⟩
noncomputable def S_laws_toMonitorS : ByV := ⟨none, false, semF X_laws_toMonitorS F_laws_toMonitorS none false⟩
noncomputable def G_laws_toMonitorS : CK := .byv S_laws_toMonitorS
theorem sg_laws_toMonitorS (args : List AV) : S_laws_toMonitorS.sem args = semF X_laws_toMonitorS F_laws_toMonitorS none false args := rfl
theorem cl_laws_toMonitorS (args : List AV) (hp : Hp) : callS G_laws_toMonitorS args hp = byvS S_laws_toMonitorS args hp := callS_byv rfl rfl args hp
theorem ok_laws_toMonitorS : InlOk Try.prog 58 (callS G_laws_toMonitorS) := byv_none co_laws_toMonitorS Try.func58 r_laws_toMonitorS rfl (fun _ _ h => h)
/- 108 laws_toProcess calls [laws_toStringS]  -/
def F_laws_toProcess : RF := ⟨19, 1, [.cell 2 4 true],
  .seq (.reg [⟨some 1, none, .box (.t 0)⟩, ⟨some 2, none, .new [(.str ⟨#[]⟩), (.nil 1), (.nil 1), (.int .i64 0)]⟩]) (.seq (.reg [⟨some 3, none, .new [(.str ⟨#[]⟩), (.nil 1), (.nil 1), (.int .i64 0)]⟩]) (.seq (.reg [⟨some 4, none, .fa 0 (.t 1)⟩, ⟨some 5, none, .ld 1 false (.t 4)⟩, ⟨some 6, none, .fa 0 (.t 3)⟩, ⟨none, none, .st 1 (.t 6) (.t 5)⟩]) (.seq (.reg [⟨some 7, none, .fa 1 (.t 1)⟩, ⟨some 8, none, .ld 1 false (.t 7)⟩, ⟨some 9, none, .call 69 [(.t 8)]⟩, ⟨some 10, none, .fa 1 (.t 3)⟩, ⟨none, none, .st 1 (.t 10) (.t 9)⟩]) (.seq (.reg [⟨some 11, none, .fa 2 (.t 1)⟩, ⟨some 12, none, .ld 1 false (.t 11)⟩, ⟨some 13, none, .call 69 [(.t 12)]⟩, ⟨some 14, none, .fa 2 (.t 3)⟩, ⟨none, none, .st 1 (.t 14) (.t 13)⟩]) (.seq (.reg [⟨some 15, none, .fa 3 (.t 1)⟩, ⟨some 16, none, .ld 1 false (.t 15)⟩, ⟨some 17, none, .fa 3 (.t 3)⟩, ⟨none, none, .st 1 (.t 17) (.t 16)⟩]) (.seq (.reg [⟨some 18, none, .ld 4 true (.t 3)⟩, ⟨none, none, .st 4 (.t 2) (.t 18)⟩]) (.ret)))))))⟩
def K_laws_toProcess : Keeps := []
theorem r_laws_toProcess : resolveF Try.prog Try.f108 K_laws_toProcess = some F_laws_toProcess := by kernel_rfl
noncomputable def X_laws_toProcess : Ctx := Ctx.cons 69 G_laws_toStringS (fun _ => none)
theorem co_laws_toProcess : CtxOk Try.prog X_laws_toProcess := CtxOk.cons (CtxOk.nil) ok_laws_toStringS
theorem cx_laws_toProcess : ((∀ args hp, callX X_laws_toProcess 69 args hp = callS G_laws_toStringS args hp) ∧ (trC (X_laws_toProcess 69) = false)) := ⟨fun _ _ => rfl, rfl⟩
noncomputable def S_laws_toProcess : ByV := ⟨none, false, semF X_laws_toProcess F_laws_toProcess none false⟩
noncomputable def G_laws_toProcess : CK := .byv S_laws_toProcess
theorem sg_laws_toProcess (args : List AV) : S_laws_toProcess.sem args = semF X_laws_toProcess F_laws_toProcess none false args := rfl
theorem cl_laws_toProcess (args : List AV) (hp : Hp) : callS G_laws_toProcess args hp = byvS S_laws_toProcess args hp := callS_byv rfl rfl args hp
theorem ok_laws_toProcess : InlOk Try.prog 108 (callS G_laws_toProcess) := byv_none co_laws_toProcess Try.func108 r_laws_toProcess rfl (fun _ _ h => h)
/- 59 laws_toProcessS calls [laws_toProcess]  -/
def B0_laws_toProcessS : RC :=
  .seq (.seq (.reg [⟨some 8, none, .mv (.t 4)⟩, ⟨some 9, none, .mv (.t 0)⟩, ⟨some 10, none, .len false (.t 9)⟩, ⟨some 11, none, .bin .lss (.t 8) (.t 10)⟩]) (.cond (.t 11) (.skip) (.exit 0))) (.seq (.block 1 (.reg [⟨some 14, none, .mv (.t 3)⟩, ⟨some 15, none, .mv (.t 4)⟩, ⟨some 16, none, .mv (.t 0)⟩, ⟨some 17, none, .mv (.t 4)⟩, ⟨some 18, none, .ia 4 (.t 16) (.t 17)⟩, ⟨some 19, none, .ld 4 true (.t 18)⟩, ⟨some 20, none, .call 108 [(.t 19)]⟩, ⟨some 21, none, .ia 4 (.t 14) (.t 15)⟩, ⟨none, none, .st 4 (.t 21) (.t 20)⟩])) (.reg [⟨some 12, none, .mv (.t 4)⟩, ⟨some 13, none, .bin .add (.t 12) (.c (.int .i64 1))⟩, ⟨some 4, none, .mv (.t 13)⟩]))
def F_laws_toProcessS : RF := ⟨23, 1, [.t 2],
  .seq (.reg [⟨some 2, none, .mv (.c (.nil 4))⟩]) (.seq (.reg [⟨some 5, none, .mv (.t 0)⟩, ⟨some 6, none, .len false (.t 5)⟩, ⟨some 7, none, .mk 4 [(.str ⟨#[]⟩), (.tree 1 []), (.tree 1 []), (.int .i64 0)] 72 (.t 6) (.t 6)⟩, ⟨some 3, none, .mv (.t 7)⟩]) (.seq (.seq (.reg [⟨some 4, none, .mv (.c (.int .i64 0))⟩]) (.block 0 (.loop [0, 3, 4] [(1, [3])] B0_laws_toProcessS))) (.seq (.reg [⟨some 22, none, .mv (.t 3)⟩, ⟨some 2, none, .mv (.t 22)⟩]) (.ret))))⟩
def K_laws_toProcessS : Keeps := [([0, 3, 4], [(1, [3])])]
theorem r_laws_toProcessS : resolveF Try.prog Try.f59 K_laws_toProcessS = some F_laws_toProcessS := by kernel_rfl
noncomputable def X_laws_toProcessS : Ctx := Ctx.cons 108 G_laws_toProcess (fun _ => none)
theorem co_laws_toProcessS : CtxOk Try.prog X_laws_toProcessS := CtxOk.cons (CtxOk.nil) ok_laws_toProcess
theorem cx_laws_toProcessS : ((∀ args hp, callX X_laws_toProcessS 108 args hp = callS G_laws_toProcess args hp) ∧ (trC (X_laws_toProcessS 108) = false)) := ⟨fun _ _ => rfl, rfl⟩
noncomputable def S_laws_toProcessS : ByV := ⟨none, false, semF X_laws_toProcessS F_laws_toProcessS none false⟩
noncomputable def G_laws_toProcessS : CK := .byv S_laws_toProcessS
theorem sg_laws_toProcessS (args : List AV) : S_laws_toProcessS.sem args = semF X_laws_toProcessS F_laws_toProcessS none false args := rfl
theorem cl_laws_toProcessS (args : List AV) (hp : Hp) : callS G_laws_toProcessS args hp = byvS S_laws_toProcessS args hp := callS_byv rfl rfl args hp
theorem ok_laws_toProcessS : InlOk Try.prog 59 (callS G_laws_toProcessS) := byv_none co_laws_toProcessS Try.func59 r_laws_toProcessS rfl (fun _ _ h => h)
/- 16 laws_toProgram calls [laws_toNodeS, laws_toMonitorS, laws_toProcessS]  -/
def F_laws_toProgram : RF := ⟨17, 1, [.cell 2 3 true],
  .seq (.reg [⟨some 1, none, .box (.t 0)⟩, ⟨some 2, none, .new [(.nil 6), (.nil 4), (.nil 4)]⟩]) (.seq (.reg [⟨some 3, none, .new [(.nil 6), (.nil 4), (.nil 4)]⟩]) (.seq (.reg [⟨some 4, none, .fa 0 (.t 1)⟩, ⟨some 5, none, .ld 1 false (.t 4)⟩, ⟨some 6, none, .call 57 [(.t 5)]⟩, ⟨some 7, none, .fa 0 (.t 3)⟩, ⟨none, none, .st 1 (.t 7) (.t 6)⟩]) (.seq (.reg [⟨some 8, none, .fa 1 (.t 1)⟩, ⟨some 9, none, .ld 1 false (.t 8)⟩, ⟨some 10, none, .call 58 [(.t 9)]⟩, ⟨some 11, none, .fa 1 (.t 3)⟩, ⟨none, none, .st 1 (.t 11) (.t 10)⟩]) (.seq (.reg [⟨some 12, none, .fa 2 (.t 1)⟩, ⟨some 13, none, .ld 1 false (.t 12)⟩, ⟨some 14, none, .call 59 [(.t 13)]⟩, ⟨some 15, none, .fa 2 (.t 3)⟩, ⟨none, none, .st 1 (.t 15) (.t 14)⟩]) (.seq (.reg [⟨some 16, none, .ld 3 true (.t 3)⟩, ⟨none, none, .st 3 (.t 2) (.t 16)⟩]) (.ret))))))⟩
def K_laws_toProgram : Keeps := []
theorem r_laws_toProgram : resolveF Try.prog Try.f16 K_laws_toProgram = some F_laws_toProgram := by kernel_rfl
noncomputable def X_laws_toProgram : Ctx := Ctx.cons 57 G_laws_toNodeS (Ctx.cons 58 G_laws_toMonitorS (Ctx.cons 59 G_laws_toProcessS (fun _ => none)))
theorem co_laws_toProgram : CtxOk Try.prog X_laws_toProgram := CtxOk.cons (CtxOk.cons (CtxOk.cons (CtxOk.nil) ok_laws_toProcessS) ok_laws_toMonitorS) ok_laws_toNodeS
theorem cx_laws_toProgram : ((∀ args hp, callX X_laws_toProgram 57 args hp = callS G_laws_toNodeS args hp) ∧ (trC (X_laws_toProgram 57) = false)) ∧ ((∀ args hp, callX X_laws_toProgram 58 args hp = callS G_laws_toMonitorS args hp) ∧ (trC (X_laws_toProgram 58) = false)) ∧ ((∀ args hp, callX X_laws_toProgram 59 args hp = callS G_laws_toProcessS args hp) ∧ (trC (X_laws_toProgram 59) = false)) := ⟨⟨fun _ _ => rfl, rfl⟩, ⟨fun _ _ => rfl, rfl⟩, ⟨fun _ _ => rfl, rfl⟩⟩
noncomputable def S_laws_toProgram : ByV := ⟨none, false, semF X_laws_toProgram F_laws_toProgram none false⟩
noncomputable def G_laws_toProgram : CK := .byv S_laws_toProgram
theorem sg_laws_toProgram (args : List AV) : S_laws_toProgram.sem args = semF X_laws_toProgram F_laws_toProgram none false args := rfl
theorem cl_laws_toProgram (args : List AV) (hp : Hp) : callS G_laws_toProgram args hp = byvS S_laws_toProgram args hp := callS_byv rfl rfl args hp
theorem ok_laws_toProgram : InlOk Try.prog 16 (callS G_laws_toProgram) := byv_none co_laws_toProgram Try.func16 r_laws_toProgram rfl (fun _ _ h => h)
/- 49 spec_l01In calls []  -/
def F_spec_l01In : RF := ⟨15, 3, [.t 6],
  .seq (.reg [⟨some 6, none, .mv (.c (.bool false))⟩]) (.seq (.reg [⟨some 7, none, .mv (.t 0)⟩, ⟨some 8, none, .mv (.t 1)⟩, ⟨some 9, none, .bin .geq (.t 7) (.t 8)⟩, ⟨some 10, none, .mv (.t 9)⟩, ⟨some 11, some (10, true), .mv (.t 0)⟩, ⟨some 12, some (10, true), .mv (.t 2)⟩, ⟨some 13, some (10, true), .bin .leq (.t 11) (.t 12)⟩, ⟨some 14, none, .pick (.t 10) (.t 13) (.c (.bool false))⟩, ⟨some 6, none, .mv (.t 14)⟩]) (.ret))⟩
def K_spec_l01In : Keeps := []
theorem r_spec_l01In : resolveF Try.prog Try.f49 K_spec_l01In = some F_spec_l01In := by kernel_rfl
noncomputable def X_spec_l01In : Ctx := fun _ => none
theorem co_spec_l01In : CtxOk Try.prog X_spec_l01In := CtxOk.nil
theorem cx_spec_l01In : True := trivial
noncomputable def S_spec_l01In : ByV := ⟨none, false, semF X_spec_l01In F_spec_l01In none false⟩
noncomputable def G_spec_l01In : CK := .byv S_spec_l01In
theorem sg_spec_l01In (args : List AV) : S_spec_l01In.sem args = semF X_spec_l01In F_spec_l01In none false args := rfl
theorem cl_spec_l01In (args : List AV) (hp : Hp) : callS G_spec_l01In args hp = byvS S_spec_l01In args hp := callS_byv rfl rfl args hp
theorem ok_spec_l01In : InlOk Try.prog 49 (callS G_spec_l01In) := byv_none co_spec_l01In Try.func49 r_spec_l01In rfl (fun _ _ h => h)
/- 55 spec_l05Value calls [spec_l01In]  -/
def F_spec_l05Value : RF := ⟨5, 1, [.t 2],
  .seq (.reg [⟨some 2, none, .mv (.c (.bool false))⟩]) (.seq (.reg [⟨some 3, none, .mv (.t 0)⟩, ⟨some 4, none, .call 49 [(.t 3), (.c (.int .i64 1)), (.c (.int .i64 5))]⟩, ⟨some 2, none, .mv (.t 4)⟩]) (.ret))⟩
def K_spec_l05Value : Keeps := []
theorem r_spec_l05Value : resolveF Try.prog Try.f55 K_spec_l05Value = some F_spec_l05Value := by kernel_rfl
noncomputable def X_spec_l05Value : Ctx := Ctx.cons 49 G_spec_l01In (fun _ => none)
theorem co_spec_l05Value : CtxOk Try.prog X_spec_l05Value := CtxOk.cons (CtxOk.nil) ok_spec_l01In
theorem cx_spec_l05Value : ((∀ args hp, callX X_spec_l05Value 49 args hp = callS G_spec_l01In args hp) ∧ (trC (X_spec_l05Value 49) = false)) := ⟨fun _ _ => rfl, rfl⟩
noncomputable def S_spec_l05Value : ByV := ⟨none, false, semF X_spec_l05Value F_spec_l05Value none false⟩
noncomputable def G_spec_l05Value : CK := .byv S_spec_l05Value
theorem sg_spec_l05Value (args : List AV) : S_spec_l05Value.sem args = semF X_spec_l05Value F_spec_l05Value none false args := rfl
theorem cl_spec_l05Value (args : List AV) (hp : Hp) : callS G_spec_l05Value args hp = byvS S_spec_l05Value args hp := callS_byv rfl rfl args hp
theorem ok_spec_l05Value : InlOk Try.prog 55 (callS G_spec_l05Value) := byv_none co_spec_l05Value Try.func55 r_spec_l05Value rfl (fun _ _ h => h)
/- 145 spec_l05Statement calls [spec_l01In]  -/
def F_spec_l05Statement : RF := ⟨5, 1, [.t 2],
  .seq (.reg [⟨some 2, none, .mv (.c (.bool false))⟩]) (.seq (.reg [⟨some 3, none, .mv (.t 0)⟩, ⟨some 4, none, .call 49 [(.t 3), (.c (.int .i64 11)), (.c (.int .i64 19))]⟩, ⟨some 2, none, .mv (.t 4)⟩]) (.ret))⟩
def K_spec_l05Statement : Keeps := []
theorem r_spec_l05Statement : resolveF Try.prog Try.f145 K_spec_l05Statement = some F_spec_l05Statement := by kernel_rfl
noncomputable def X_spec_l05Statement : Ctx := Ctx.cons 49 G_spec_l01In (fun _ => none)
theorem co_spec_l05Statement : CtxOk Try.prog X_spec_l05Statement := CtxOk.cons (CtxOk.nil) ok_spec_l01In
theorem cx_spec_l05Statement : ((∀ args hp, callX X_spec_l05Statement 49 args hp = callS G_spec_l01In args hp) ∧ (trC (X_spec_l05Statement 49) = false)) := ⟨fun _ _ => rfl, rfl⟩
noncomputable def S_spec_l05Statement : ByV := ⟨none, false, semF X_spec_l05Statement F_spec_l05Statement none false⟩
noncomputable def G_spec_l05Statement : CK := .byv S_spec_l05Statement
theorem sg_spec_l05Statement (args : List AV) : S_spec_l05Statement.sem args = semF X_spec_l05Statement F_spec_l05Statement none false args := rfl
theorem cl_spec_l05Statement (args : List AV) (hp : Hp) : callS G_spec_l05Statement args hp = byvS S_spec_l05Statement args hp := callS_byv rfl rfl args hp
theorem ok_spec_l05Statement : InlOk Try.prog 145 (callS G_spec_l05Statement) := byv_none co_spec_l05Statement Try.func145 r_spec_l05Statement rfl (fun _ _ h => h)
/- 156 spec_l05Kid calls [spec_l01In]  -/
def F_spec_l05Kid : RF := ⟨28, 3, [.t 6],
  .seq (.reg [⟨some 3, none, .box (.t 0)⟩, ⟨some 6, none, .mv (.c (.int .i64 0))⟩]) (.seq (.reg [⟨some 8, none, .fa 0 (.t 3)⟩, ⟨some 9, none, .ld 1 false (.t 8)⟩, ⟨some 10, none, .mv (.t 1)⟩, ⟨some 11, none, .ia 6 (.t 9) (.t 10)⟩, ⟨some 12, none, .fa 5 (.t 11)⟩, ⟨some 13, none, .ld 1 false (.t 12)⟩, ⟨some 14, none, .mv (.t 2)⟩, ⟨some 15, none, .ia 1 (.t 13) (.t 14)⟩, ⟨some 16, none, .ld 1 false (.t 15)⟩, ⟨some 7, none, .mv (.t 16)⟩]) (.seq (.seq (.reg [⟨some 17, none, .mv (.t 7)⟩, ⟨some 18, none, .mv (.t 1)⟩, ⟨some 19, none, .bin .sub (.t 18) (.c (.int .i64 1))⟩, ⟨some 20, none, .call 49 [(.t 17), (.c (.int .i64 0)), (.t 19)]⟩, ⟨some 21, none, .un .not (.t 20)⟩]) (.cond (.t 21) (.seq (.reg [⟨some 6, none, .mv (.c (.int .i64 0))⟩]) (.ret)) (.skip))) (.seq (.reg [⟨some 22, none, .fa 0 (.t 3)⟩, ⟨some 23, none, .ld 1 false (.t 22)⟩, ⟨some 24, none, .mv (.t 7)⟩, ⟨some 25, none, .ia 6 (.t 23) (.t 24)⟩, ⟨some 26, none, .fa 0 (.t 25)⟩, ⟨some 27, none, .ld 1 false (.t 26)⟩, ⟨some 6, none, .mv (.t 27)⟩]) (.ret))))⟩
def K_spec_l05Kid : Keeps := []
theorem r_spec_l05Kid : resolveF Try.prog Try.f156 K_spec_l05Kid = some F_spec_l05Kid := by kernel_rfl
noncomputable def X_spec_l05Kid : Ctx := Ctx.cons 49 G_spec_l01In (fun _ => none)
theorem co_spec_l05Kid : CtxOk Try.prog X_spec_l05Kid := CtxOk.cons (CtxOk.nil) ok_spec_l01In
theorem cx_spec_l05Kid : ((∀ args hp, callX X_spec_l05Kid 49 args hp = callS G_spec_l01In args hp) ∧ (trC (X_spec_l05Kid 49) = false)) := ⟨fun _ _ => rfl, rfl⟩
noncomputable def S_spec_l05Kid : ByV := ⟨none, false, semF X_spec_l05Kid F_spec_l05Kid none false⟩
noncomputable def G_spec_l05Kid : CK := .byv S_spec_l05Kid
theorem sg_spec_l05Kid (args : List AV) : S_spec_l05Kid.sem args = semF X_spec_l05Kid F_spec_l05Kid none false args := rfl
theorem cl_spec_l05Kid (args : List AV) (hp : Hp) : callS G_spec_l05Kid args hp = byvS S_spec_l05Kid args hp := callS_byv rfl rfl args hp
theorem ok_spec_l05Kid : InlOk Try.prog 156 (callS G_spec_l05Kid) := byv_none co_spec_l05Kid Try.func156 r_spec_l05Kid rfl (fun _ _ h => h)
/- 154 spec_l05Values calls [spec_l05Kid, spec_l05Value]  -/
def B0_spec_l05Values : RC :=
  .seq (.seq (.reg [⟨some 8, none, .mv (.t 7)⟩, ⟨some 9, none, .mv (.t 2)⟩, ⟨some 10, none, .bin .lss (.t 8) (.t 9)⟩]) (.cond (.t 10) (.skip) (.exit 0))) (.seq (.block 1 (.seq (.reg [⟨some 13, none, .ld 3 true (.t 3)⟩, ⟨some 14, none, .mv (.t 1)⟩, ⟨some 15, none, .mv (.t 7)⟩, ⟨some 16, none, .call 156 [(.t 13), (.t 14), (.t 15)]⟩, ⟨some 17, none, .call 55 [(.t 16)]⟩, ⟨some 18, none, .un .not (.t 17)⟩]) (.cond (.t 18) (.seq (.reg [⟨some 6, none, .mv (.c (.bool false))⟩]) (.ret)) (.skip)))) (.reg [⟨some 11, none, .mv (.t 7)⟩, ⟨some 12, none, .bin .add (.t 11) (.c (.int .i64 1))⟩, ⟨some 7, none, .mv (.t 12)⟩]))
def F_spec_l05Values : RF := ⟨19, 3, [.t 6],
  .seq (.reg [⟨some 3, none, .box (.t 0)⟩, ⟨some 6, none, .mv (.c (.bool false))⟩]) (.seq (.seq (.reg [⟨some 7, none, .mv (.c (.int .i64 0))⟩]) (.block 0 (.loop [1, 2, 3, 7] [(1, []), (0, [6])] B0_spec_l05Values))) (.seq (.reg [⟨some 6, none, .mv (.c (.bool true))⟩]) (.ret)))⟩
def K_spec_l05Values : Keeps := [([1, 2, 3, 7], [(1, []), (0, [6])])]
theorem r_spec_l05Values : resolveF Try.prog Try.f154 K_spec_l05Values = some F_spec_l05Values := by kernel_rfl
noncomputable def X_spec_l05Values : Ctx := Ctx.cons 156 G_spec_l05Kid (Ctx.cons 55 G_spec_l05Value (fun _ => none))
theorem co_spec_l05Values : CtxOk Try.prog X_spec_l05Values := CtxOk.cons (CtxOk.cons (CtxOk.nil) ok_spec_l05Value) ok_spec_l05Kid
theorem cx_spec_l05Values : ((∀ args hp, callX X_spec_l05Values 156 args hp = callS G_spec_l05Kid args hp) ∧ (trC (X_spec_l05Values 156) = false)) ∧ ((∀ args hp, callX X_spec_l05Values 55 args hp = callS G_spec_l05Value args hp) ∧ (trC (X_spec_l05Values 55) = false)) := ⟨⟨fun _ _ => rfl, rfl⟩, ⟨fun _ _ => rfl, rfl⟩⟩
noncomputable def S_spec_l05Values : ByV := ⟨none, false, semF X_spec_l05Values F_spec_l05Values none false⟩
noncomputable def G_spec_l05Values : CK := .byv S_spec_l05Values
theorem sg_spec_l05Values (args : List AV) : S_spec_l05Values.sem args = semF X_spec_l05Values F_spec_l05Values none false args := rfl
theorem cl_spec_l05Values (args : List AV) (hp : Hp) : callS G_spec_l05Values args hp = byvS S_spec_l05Values args hp := callS_byv rfl rfl args hp
theorem ok_spec_l05Values : InlOk Try.prog 154 (callS G_spec_l05Values) := byv_none co_spec_l05Values Try.func154 r_spec_l05Values rfl (fun _ _ h => h)
/- 155 spec_l05Blocks calls [spec_l05Kid]  -/
def B0_spec_l05Blocks : RC :=
  .seq (.seq (.reg [⟨some 9, none, .mv (.t 7)⟩, ⟨some 10, none, .fa 0 (.t 3)⟩, ⟨some 11, none, .ld 1 false (.t 10)⟩, ⟨some 12, none, .mv (.t 1)⟩, ⟨some 13, none, .ia 6 (.t 11) (.t 12)⟩, ⟨some 14, none, .fa 5 (.t 13)⟩, ⟨some 15, none, .ld 1 false (.t 14)⟩, ⟨some 16, none, .len false (.t 15)⟩, ⟨some 17, none, .bin .lss (.t 9) (.t 16)⟩]) (.cond (.t 17) (.skip) (.exit 0))) (.seq (.block 1 (.seq (.reg [⟨some 20, none, .ld 3 true (.t 3)⟩, ⟨some 21, none, .mv (.t 1)⟩, ⟨some 22, none, .mv (.t 7)⟩, ⟨some 23, none, .call 156 [(.t 20), (.t 21), (.t 22)]⟩, ⟨some 24, none, .bin .neq (.t 23) (.c (.int .i64 20))⟩]) (.cond (.t 24) (.seq (.reg [⟨some 6, none, .mv (.c (.bool false))⟩]) (.ret)) (.skip)))) (.reg [⟨some 18, none, .mv (.t 7)⟩, ⟨some 19, none, .bin .add (.t 18) (.c (.int .i64 1))⟩, ⟨some 7, none, .mv (.t 19)⟩]))
def F_spec_l05Blocks : RF := ⟨25, 3, [.t 6],
  .seq (.reg [⟨some 3, none, .box (.t 0)⟩, ⟨some 6, none, .mv (.c (.bool false))⟩]) (.seq (.seq (.reg [⟨some 8, none, .mv (.t 2)⟩, ⟨some 7, none, .mv (.t 8)⟩]) (.block 0 (.loop [1, 3, 7] [(1, []), (0, [6])] B0_spec_l05Blocks))) (.seq (.reg [⟨some 6, none, .mv (.c (.bool true))⟩]) (.ret)))⟩
def K_spec_l05Blocks : Keeps := [([1, 3, 7], [(1, []), (0, [6])])]
theorem r_spec_l05Blocks : resolveF Try.prog Try.f155 K_spec_l05Blocks = some F_spec_l05Blocks := by kernel_rfl
noncomputable def X_spec_l05Blocks : Ctx := Ctx.cons 156 G_spec_l05Kid (fun _ => none)
theorem co_spec_l05Blocks : CtxOk Try.prog X_spec_l05Blocks := CtxOk.cons (CtxOk.nil) ok_spec_l05Kid
theorem cx_spec_l05Blocks : ((∀ args hp, callX X_spec_l05Blocks 156 args hp = callS G_spec_l05Kid args hp) ∧ (trC (X_spec_l05Blocks 156) = false)) := ⟨fun _ _ => rfl, rfl⟩
noncomputable def S_spec_l05Blocks : ByV := ⟨none, false, semF X_spec_l05Blocks F_spec_l05Blocks none false⟩
noncomputable def G_spec_l05Blocks : CK := .byv S_spec_l05Blocks
theorem sg_spec_l05Blocks (args : List AV) : S_spec_l05Blocks.sem args = semF X_spec_l05Blocks F_spec_l05Blocks none false args := rfl
theorem cl_spec_l05Blocks (args : List AV) (hp : Hp) : callS G_spec_l05Blocks args hp = byvS S_spec_l05Blocks args hp := callS_byv rfl rfl args hp
theorem ok_spec_l05Blocks : InlOk Try.prog 155 (callS G_spec_l05Blocks) := byv_none co_spec_l05Blocks Try.func155 r_spec_l05Blocks rfl (fun _ _ h => h)
/- 146 spec_l05Kids calls [spec_l05Values, spec_l05Blocks, spec_l05Kid, spec_l05Statement, spec_l01In]  -/
def B0_spec_l05Kids : RC :=
  .seq (.seq (.reg [⟨some 83, none, .mv (.t 6)⟩, ⟨some 84, none, .mv (.t 5)⟩, ⟨some 85, none, .bin .lss (.t 83) (.t 84)⟩]) (.cond (.t 85) (.skip) (.exit 1))) (.seq (.block 2 (.seq (.reg [⟨some 88, none, .ld 3 true (.t 2)⟩, ⟨some 89, none, .mv (.t 1)⟩, ⟨some 90, none, .mv (.t 6)⟩, ⟨some 91, none, .call 156 [(.t 88), (.t 89), (.t 90)]⟩, ⟨some 92, none, .call 145 [(.t 91)]⟩, ⟨some 93, none, .un .not (.t 92)⟩]) (.cond (.t 93) (.seq (.reg [⟨some 4, none, .mv (.c (.bool false))⟩]) (.ret)) (.skip)))) (.reg [⟨some 86, none, .mv (.t 6)⟩, ⟨some 87, none, .bin .add (.t 86) (.c (.int .i64 1))⟩, ⟨some 6, none, .mv (.t 87)⟩]))
def F_spec_l05Kids : RF := ⟨96, 2, [.t 4],
  .seq (.reg [⟨some 2, none, .box (.t 0)⟩, ⟨some 4, none, .mv (.c (.bool false))⟩]) (.seq (.reg [⟨some 7, none, .fa 0 (.t 2)⟩, ⟨some 8, none, .ld 1 false (.t 7)⟩, ⟨some 9, none, .mv (.t 1)⟩, ⟨some 10, none, .ia 6 (.t 8) (.t 9)⟩, ⟨some 11, none, .fa 5 (.t 10)⟩, ⟨some 12, none, .ld 1 false (.t 11)⟩, ⟨some 13, none, .len false (.t 12)⟩, ⟨some 5, none, .mv (.t 13)⟩]) (.seq (.seq (.reg [⟨some 14, none, .fa 0 (.t 2)⟩, ⟨some 15, none, .ld 1 false (.t 14)⟩, ⟨some 16, none, .mv (.t 1)⟩, ⟨some 17, none, .ia 6 (.t 15) (.t 16)⟩, ⟨some 18, none, .fa 0 (.t 17)⟩, ⟨some 19, none, .ld 1 false (.t 18)⟩]) (.block 0 (.seq (.seq (.reg [⟨some 21, none, .bin .eql (.t 19) (.c (.int .i64 1))⟩, ⟨some 20, none, .mv (.t 21)⟩]) (.cond (.t 20) (.skip) (.seq (.reg [⟨some 22, none, .bin .eql (.t 19) (.c (.int .i64 2))⟩, ⟨some 20, none, .mv (.t 22)⟩]) (.cond (.t 20) (.skip) (.seq (.reg [⟨some 23, none, .bin .eql (.t 19) (.c (.int .i64 16))⟩, ⟨some 20, none, .mv (.t 23)⟩]) (.cond (.t 20) (.skip) (.seq (.reg [⟨some 24, none, .bin .eql (.t 19) (.c (.int .i64 17))⟩, ⟨some 20, none, .mv (.t 24)⟩]) (.cond (.t 20) (.skip) (.seq (.reg [⟨some 25, none, .bin .eql (.t 19) (.c (.int .i64 18))⟩, ⟨some 20, none, .mv (.t 25)⟩]) (.cond (.t 20) (.skip) (.reg [⟨some 26, none, .bin .eql (.t 19) (.c (.int .i64 19))⟩, ⟨some 20, none, .mv (.t 26)⟩]))))))))))) (.cond (.t 20) (.seq (.reg [⟨some 27, none, .mv (.t 5)⟩, ⟨some 28, none, .bin .eql (.t 27) (.c (.int .i64 0))⟩, ⟨some 4, none, .mv (.t 28)⟩]) (.ret)) (.seq (.reg [⟨some 30, none, .bin .eql (.t 19) (.c (.int .i64 3))⟩, ⟨some 29, none, .mv (.t 30)⟩]) (.cond (.t 29) (.seq (.reg [⟨some 31, none, .mv (.t 5)⟩, ⟨some 32, none, .bin .eql (.t 31) (.c (.int .i64 2))⟩, ⟨some 33, none, .mv (.t 32)⟩, ⟨some 34, some (33, true), .ld 3 true (.t 2)⟩, ⟨some 35, some (33, true), .mv (.t 1)⟩, ⟨some 36, some (33, true), .call 154 [(.t 34), (.t 35), (.c (.int .i64 2))]⟩, ⟨some 37, none, .pick (.t 33) (.t 36) (.c (.bool false))⟩, ⟨some 4, none, .mv (.t 37)⟩]) (.ret)) (.seq (.seq (.reg [⟨some 39, none, .bin .eql (.t 19) (.c (.int .i64 4))⟩, ⟨some 38, none, .mv (.t 39)⟩]) (.cond (.t 38) (.skip) (.seq (.reg [⟨some 40, none, .bin .eql (.t 19) (.c (.int .i64 5))⟩, ⟨some 38, none, .mv (.t 40)⟩]) (.cond (.t 38) (.skip) (.seq (.reg [⟨some 41, none, .bin .eql (.t 19) (.c (.int .i64 11))⟩, ⟨some 38, none, .mv (.t 41)⟩]) (.cond (.t 38) (.skip) (.seq (.reg [⟨some 42, none, .bin .eql (.t 19) (.c (.int .i64 14))⟩, ⟨some 38, none, .mv (.t 42)⟩]) (.cond (.t 38) (.skip) (.reg [⟨some 43, none, .bin .eql (.t 19) (.c (.int .i64 15))⟩, ⟨some 38, none, .mv (.t 43)⟩]))))))))) (.cond (.t 38) (.seq (.reg [⟨some 44, none, .mv (.t 5)⟩, ⟨some 45, none, .bin .eql (.t 44) (.c (.int .i64 1))⟩, ⟨some 46, none, .mv (.t 45)⟩, ⟨some 47, some (46, true), .ld 3 true (.t 2)⟩, ⟨some 48, some (46, true), .mv (.t 1)⟩, ⟨some 49, some (46, true), .call 154 [(.t 47), (.t 48), (.c (.int .i64 1))]⟩, ⟨some 50, none, .pick (.t 46) (.t 49) (.c (.bool false))⟩, ⟨some 4, none, .mv (.t 50)⟩]) (.ret)) (.seq (.reg [⟨some 52, none, .bin .eql (.t 19) (.c (.int .i64 12))⟩, ⟨some 51, none, .mv (.t 52)⟩]) (.cond (.t 51) (.seq (.reg [⟨some 53, none, .mv (.t 5)⟩, ⟨some 54, none, .bin .eql (.t 53) (.c (.int .i64 2))⟩, ⟨some 55, none, .mv (.t 54)⟩, ⟨some 56, some (55, false), .mv (.t 5)⟩, ⟨some 57, some (55, false), .bin .eql (.t 56) (.c (.int .i64 3))⟩, ⟨some 58, none, .pick (.t 55) (.c (.bool true)) (.t 57)⟩, ⟨some 59, none, .mv (.t 58)⟩, ⟨some 60, some (59, true), .ld 3 true (.t 2)⟩, ⟨some 61, some (59, true), .mv (.t 1)⟩, ⟨some 62, some (59, true), .call 154 [(.t 60), (.t 61), (.c (.int .i64 1))]⟩, ⟨some 63, none, .pick (.t 59) (.t 62) (.c (.bool false))⟩, ⟨some 64, none, .mv (.t 63)⟩, ⟨some 65, some (64, true), .ld 3 true (.t 2)⟩, ⟨some 66, some (64, true), .mv (.t 1)⟩, ⟨some 67, some (64, true), .call 155 [(.t 65), (.t 66), (.c (.int .i64 1))]⟩, ⟨some 68, none, .pick (.t 64) (.t 67) (.c (.bool false))⟩, ⟨some 4, none, .mv (.t 68)⟩]) (.ret)) (.seq (.reg [⟨some 70, none, .bin .eql (.t 19) (.c (.int .i64 13))⟩, ⟨some 69, none, .mv (.t 70)⟩]) (.cond (.t 69) (.seq (.reg [⟨some 71, none, .mv (.t 5)⟩, ⟨some 72, none, .bin .eql (.t 71) (.c (.int .i64 2))⟩, ⟨some 73, none, .mv (.t 72)⟩, ⟨some 74, some (73, true), .ld 3 true (.t 2)⟩, ⟨some 75, some (73, true), .mv (.t 1)⟩, ⟨some 76, some (73, true), .call 154 [(.t 74), (.t 75), (.c (.int .i64 1))]⟩, ⟨some 77, none, .pick (.t 73) (.t 76) (.c (.bool false))⟩, ⟨some 78, none, .mv (.t 77)⟩, ⟨some 79, some (78, true), .ld 3 true (.t 2)⟩, ⟨some 80, some (78, true), .mv (.t 1)⟩, ⟨some 81, some (78, true), .call 155 [(.t 79), (.t 80), (.c (.int .i64 1))]⟩, ⟨some 82, none, .pick (.t 78) (.t 81) (.c (.bool false))⟩, ⟨some 4, none, .mv (.t 82)⟩]) (.ret)) (.skip))))))))))))) (.seq (.seq (.reg [⟨some 6, none, .mv (.c (.int .i64 0))⟩]) (.block 1 (.loop [1, 2, 5, 6] [(2, [5]), (0, [4])] B0_spec_l05Kids))) (.seq (.reg [⟨some 94, none, .mv (.t 5)⟩, ⟨some 95, none, .call 49 [(.t 94), (.c (.int .i64 1)), (.c (.int .i64 12))]⟩, ⟨some 4, none, .mv (.t 95)⟩]) (.ret)))))⟩
def K_spec_l05Kids : Keeps := [([1, 2, 5, 6], [(2, [5]), (0, [4])])]
theorem r_spec_l05Kids : resolveF Try.prog Try.f146 K_spec_l05Kids = some F_spec_l05Kids := by kernel_rfl
noncomputable def X_spec_l05Kids : Ctx := Ctx.cons 154 G_spec_l05Values (Ctx.cons 155 G_spec_l05Blocks (Ctx.cons 156 G_spec_l05Kid (Ctx.cons 145 G_spec_l05Statement (Ctx.cons 49 G_spec_l01In (fun _ => none)))))
theorem co_spec_l05Kids : CtxOk Try.prog X_spec_l05Kids := CtxOk.cons (CtxOk.cons (CtxOk.cons (CtxOk.cons (CtxOk.cons (CtxOk.nil) ok_spec_l01In) ok_spec_l05Statement) ok_spec_l05Kid) ok_spec_l05Blocks) ok_spec_l05Values
theorem cx_spec_l05Kids : ((∀ args hp, callX X_spec_l05Kids 154 args hp = callS G_spec_l05Values args hp) ∧ (trC (X_spec_l05Kids 154) = false)) ∧ ((∀ args hp, callX X_spec_l05Kids 155 args hp = callS G_spec_l05Blocks args hp) ∧ (trC (X_spec_l05Kids 155) = false)) ∧ ((∀ args hp, callX X_spec_l05Kids 156 args hp = callS G_spec_l05Kid args hp) ∧ (trC (X_spec_l05Kids 156) = false)) ∧ ((∀ args hp, callX X_spec_l05Kids 145 args hp = callS G_spec_l05Statement args hp) ∧ (trC (X_spec_l05Kids 145) = false)) ∧ ((∀ args hp, callX X_spec_l05Kids 49 args hp = callS G_spec_l01In args hp) ∧ (trC (X_spec_l05Kids 49) = false)) := ⟨⟨fun _ _ => rfl, rfl⟩, ⟨fun _ _ => rfl, rfl⟩, ⟨fun _ _ => rfl, rfl⟩, ⟨fun _ _ => rfl, rfl⟩, ⟨fun _ _ => rfl, rfl⟩⟩
noncomputable def S_spec_l05Kids : ByV := ⟨none, false, semF X_spec_l05Kids F_spec_l05Kids none false⟩
noncomputable def G_spec_l05Kids : CK := .byv S_spec_l05Kids
theorem sg_spec_l05Kids (args : List AV) : S_spec_l05Kids.sem args = semF X_spec_l05Kids F_spec_l05Kids none false args := rfl
theorem cl_spec_l05Kids (args : List AV) (hp : Hp) : callS G_spec_l05Kids args hp = byvS S_spec_l05Kids args hp := callS_byv rfl rfl args hp
theorem ok_spec_l05Kids : InlOk Try.prog 146 (callS G_spec_l05Kids) := byv_none co_spec_l05Kids Try.func146 r_spec_l05Kids rfl (fun _ _ h => h)
/- 162 spec_l04Keys calls []  -/
def F_spec_l04Keys : RF := ⟨2, 0, [.t 0],
  .seq (.reg [⟨some 0, none, .mv (.c (.nil 1))⟩]) (.seq (.reg [⟨some 1, none, .bsl 1 [(.c (.str ⟨#[109, 111, 110, 105, 116, 111, 114]⟩)), (.c (.str ⟨#[118, 97, 114]⟩)), (.c (.str ⟨#[113, 117, 101, 117, 101]⟩)), (.c (.str ⟨#[101, 110, 116, 114, 121]⟩)), (.c (.str ⟨#[112, 114, 111, 99, 101, 115, 115]⟩)), (.c (.str ⟨#[117, 115, 101, 115]⟩)), (.c (.str ⟨#[98, 101, 103, 105, 110]⟩)), (.c (.str ⟨#[101, 110, 100]⟩)), (.c (.str ⟨#[105, 102]⟩)), (.c (.str ⟨#[116, 104, 101, 110]⟩)), (.c (.str ⟨#[101, 108, 115, 101]⟩)), (.c (.str ⟨#[119, 104, 105, 108, 101]⟩)), (.c (.str ⟨#[100, 111]⟩)), (.c (.str ⟨#[99, 97, 108, 108]⟩)), (.c (.str ⟨#[116, 111]⟩)), (.c (.str ⟨#[112, 114, 105, 110, 116]⟩)), (.c (.str ⟨#[114, 101, 97, 100]⟩)), (.c (.str ⟨#[100, 101, 108, 97, 121]⟩)), (.c (.str ⟨#[99, 111, 110, 116, 105, 110, 117, 101]⟩)), (.c (.str ⟨#[115, 107, 105, 112]⟩)), (.c (.str ⟨#[97, 110, 100]⟩)), (.c (.str ⟨#[111, 114]⟩)), (.c (.str ⟨#[110, 111, 116]⟩))]⟩, ⟨some 0, none, .mv (.t 1)⟩]) (.ret))⟩
def K_spec_l04Keys : Keeps := []
theorem r_spec_l04Keys : resolveF Try.prog Try.f162 K_spec_l04Keys = some F_spec_l04Keys := by kernel_rfl
noncomputable def X_spec_l04Keys : Ctx := fun _ => none
theorem co_spec_l04Keys : CtxOk Try.prog X_spec_l04Keys := CtxOk.nil
theorem cx_spec_l04Keys : True := trivial
noncomputable def S_spec_l04Keys : ByV := ⟨none, false, semF X_spec_l04Keys F_spec_l04Keys none false⟩
noncomputable def G_spec_l04Keys : CK := .byv S_spec_l04Keys
theorem sg_spec_l04Keys (args : List AV) : S_spec_l04Keys.sem args = semF X_spec_l04Keys F_spec_l04Keys none false args := rfl
theorem cl_spec_l04Keys (args : List AV) (hp : Hp) : callS G_spec_l04Keys args hp = byvS S_spec_l04Keys args hp := callS_byv rfl rfl args hp
theorem ok_spec_l04Keys : InlOk Try.prog 162 (callS G_spec_l04Keys) := byv_none co_spec_l04Keys Try.func162 r_spec_l04Keys rfl (fun _ _ h => h)
/- 157 spec_KeyWord calls [spec_l04Keys]  -/
def B0_spec_KeyWord : RC :=
  .seq (.seq (.reg [⟨some 6, none, .mv (.t 4)⟩, ⟨some 7, none, .mv (.t 3)⟩, ⟨some 8, none, .len false (.t 7)⟩, ⟨some 9, none, .bin .lss (.t 6) (.t 8)⟩]) (.cond (.t 9) (.skip) (.exit 0))) (.seq (.block 1 (.seq (.reg [⟨some 12, none, .mv (.t 3)⟩, ⟨some 13, none, .mv (.t 4)⟩, ⟨some 14, none, .ia 1 (.t 12) (.t 13)⟩, ⟨some 15, none, .ld 1 false (.t 14)⟩, ⟨some 16, none, .mv (.t 0)⟩, ⟨some 17, none, .bin .eql (.t 15) (.t 16)⟩]) (.cond (.t 17) (.seq (.reg [⟨some 2, none, .mv (.c (.bool true))⟩]) (.ret)) (.skip)))) (.reg [⟨some 10, none, .mv (.t 4)⟩, ⟨some 11, none, .bin .add (.t 10) (.c (.int .i64 1))⟩, ⟨some 4, none, .mv (.t 11)⟩]))
def F_spec_KeyWord : RF := ⟨18, 1, [.t 2],
  .seq (.reg [⟨some 2, none, .mv (.c (.bool false))⟩]) (.seq (.reg [⟨some 5, none, .call 162 []⟩, ⟨some 3, none, .mv (.t 5)⟩]) (.seq (.seq (.reg [⟨some 4, none, .mv (.c (.int .i64 0))⟩]) (.block 0 (.loop [0, 3, 4] [(1, []), (0, [2])] B0_spec_KeyWord))) (.seq (.reg [⟨some 2, none, .mv (.c (.bool false))⟩]) (.ret))))⟩
def K_spec_KeyWord : Keeps := [([0, 3, 4], [(1, []), (0, [2])])]
theorem r_spec_KeyWord : resolveF Try.prog Try.f157 K_spec_KeyWord = some F_spec_KeyWord := by kernel_rfl
noncomputable def X_spec_KeyWord : Ctx := Ctx.cons 162 G_spec_l04Keys (fun _ => none)
theorem co_spec_KeyWord : CtxOk Try.prog X_spec_KeyWord := CtxOk.cons (CtxOk.nil) ok_spec_l04Keys
theorem cx_spec_KeyWord : ((∀ args hp, callX X_spec_KeyWord 162 args hp = callS G_spec_l04Keys args hp) ∧ (trC (X_spec_KeyWord 162) = false)) := ⟨fun _ _ => rfl, rfl⟩
noncomputable def S_spec_KeyWord : ByV := ⟨none, false, semF X_spec_KeyWord F_spec_KeyWord none false⟩
noncomputable def G_spec_KeyWord : CK := .byv S_spec_KeyWord
theorem sg_spec_KeyWord (args : List AV) : S_spec_KeyWord.sem args = semF X_spec_KeyWord F_spec_KeyWord none false args := rfl
theorem cl_spec_KeyWord (args : List AV) (hp : Hp) : callS G_spec_KeyWord args hp = byvS S_spec_KeyWord args hp := callS_byv rfl rfl args hp
theorem ok_spec_KeyWord : InlOk Try.prog 157 (callS G_spec_KeyWord) := byv_none co_spec_KeyWord Try.func157 r_spec_KeyWord rfl (fun _ _ h => h)
/- 147 spec_NameOk calls [spec_l01In, spec_KeyWord]  -/
def B0_spec_NameOk : RC :=
  .seq (.seq (.reg [⟨some 4, none, .mv (.t 3)⟩, ⟨some 5, none, .mv (.t 0)⟩, ⟨some 6, none, .len true (.t 5)⟩, ⟨some 7, none, .bin .lss (.t 4) (.t 6)⟩]) (.cond (.t 7) (.skip) (.exit 0))) (.seq (.block 1 (.seq (.reg [⟨some 10, none, .mv (.t 0)⟩, ⟨some 11, none, .mv (.t 3)⟩, ⟨some 12, none, .ix (.t 10) (.t 11)⟩, ⟨some 13, none, .bin .lss (.t 12) (.c (.int .u8 97))⟩, ⟨some 14, none, .mv (.t 13)⟩, ⟨some 15, some (14, false), .mv (.t 0)⟩, ⟨some 16, some (14, false), .mv (.t 3)⟩, ⟨some 17, some (14, false), .ix (.t 15) (.t 16)⟩, ⟨some 18, some (14, false), .bin .gtr (.t 17) (.c (.int .u8 122))⟩, ⟨some 19, none, .pick (.t 14) (.c (.bool true)) (.t 18)⟩]) (.cond (.t 19) (.seq (.reg [⟨some 2, none, .mv (.c (.bool false))⟩]) (.ret)) (.skip)))) (.reg [⟨some 8, none, .mv (.t 3)⟩, ⟨some 9, none, .bin .add (.t 8) (.c (.int .i64 1))⟩, ⟨some 3, none, .mv (.t 9)⟩]))
def F_spec_NameOk : RF := ⟨28, 1, [.t 2],
  .seq (.reg [⟨some 2, none, .mv (.c (.bool false))⟩]) (.seq (.seq (.reg [⟨some 3, none, .mv (.c (.int .i64 0))⟩]) (.block 0 (.loop [0, 3] [(1, [0]), (0, [2])] B0_spec_NameOk))) (.seq (.reg [⟨some 20, none, .mv (.t 0)⟩, ⟨some 21, none, .len true (.t 20)⟩, ⟨some 22, none, .call 49 [(.t 21), (.c (.int .i64 1)), (.c (.int .i64 8))]⟩, ⟨some 23, none, .mv (.t 22)⟩, ⟨some 24, some (23, true), .mv (.t 0)⟩, ⟨some 25, some (23, true), .call 157 [(.t 24)]⟩, ⟨some 26, some (23, true), .un .not (.t 25)⟩, ⟨some 27, none, .pick (.t 23) (.t 26) (.c (.bool false))⟩, ⟨some 2, none, .mv (.t 27)⟩]) (.ret)))⟩
def K_spec_NameOk : Keeps := [([0, 3], [(1, [0]), (0, [2])])]
theorem r_spec_NameOk : resolveF Try.prog Try.f147 K_spec_NameOk = some F_spec_NameOk := by kernel_rfl
noncomputable def X_spec_NameOk : Ctx := Ctx.cons 49 G_spec_l01In (Ctx.cons 157 G_spec_KeyWord (fun _ => none))
theorem co_spec_NameOk : CtxOk Try.prog X_spec_NameOk := CtxOk.cons (CtxOk.cons (CtxOk.nil) ok_spec_KeyWord) ok_spec_l01In
theorem cx_spec_NameOk : ((∀ args hp, callX X_spec_NameOk 49 args hp = callS G_spec_l01In args hp) ∧ (trC (X_spec_NameOk 49) = false)) ∧ ((∀ args hp, callX X_spec_NameOk 157 args hp = callS G_spec_KeyWord args hp) ∧ (trC (X_spec_NameOk 157) = false)) := ⟨⟨fun _ _ => rfl, rfl⟩, ⟨fun _ _ => rfl, rfl⟩⟩
noncomputable def S_spec_NameOk : ByV := ⟨none, false, semF X_spec_NameOk F_spec_NameOk none false⟩
noncomputable def G_spec_NameOk : CK := .byv S_spec_NameOk
theorem sg_spec_NameOk (args : List AV) : S_spec_NameOk.sem args = semF X_spec_NameOk F_spec_NameOk none false args := rfl
theorem cl_spec_NameOk (args : List AV) (hp : Hp) : callS G_spec_NameOk args hp = byvS S_spec_NameOk args hp := callS_byv rfl rfl args hp
theorem ok_spec_NameOk : InlOk Try.prog 147 (callS G_spec_NameOk) := byv_none co_spec_NameOk Try.func147 r_spec_NameOk rfl (fun _ _ h => h)
/- 136 spec_NodeOk calls [spec_l01In, spec_l05Value, spec_l05Statement, spec_l05Kids, spec_NameOk]  -/
def B1_spec_NodeOk : RC :=
  .seq (.seq (.reg [⟨some 28, none, .mv (.t 7)⟩, ⟨some 29, none, .mv (.t 6)⟩, ⟨some 30, none, .bin .lss (.t 28) (.t 29)⟩]) (.cond (.t 30) (.skip) (.exit 2))) (.seq (.block 3 (.seq (.regd [(0, ⟨some 33, none, .fa 5 (.t 5)⟩), (1, ⟨some 34, none, .ld 1 false (.t 33)⟩), (0, ⟨some 35, none, .mv (.t 6)⟩), (1, ⟨some 36, none, .ia 1 (.t 34) (.t 35)⟩), (1, ⟨some 37, none, .ld 1 false (.t 36)⟩), (0, ⟨some 38, none, .fa 5 (.t 5)⟩), (1, ⟨some 39, none, .ld 1 false (.t 38)⟩), (0, ⟨some 40, none, .mv (.t 7)⟩), (1, ⟨some 41, none, .ia 1 (.t 39) (.t 40)⟩), (1, ⟨some 42, none, .ld 1 false (.t 41)⟩), (0, ⟨some 43, none, .bin .eql (.t 37) (.t 42)⟩)] []) (.cond (.t 43) (.seq (.reg [⟨some 4, none, .mv (.c (.bool false))⟩]) (.ret)) (.skip)))) (.reg [⟨some 31, none, .mv (.t 7)⟩, ⟨some 32, none, .bin .add (.t 31) (.c (.int .i64 1))⟩, ⟨some 7, none, .mv (.t 32)⟩]))
def B0_spec_NodeOk : RC :=
  .seq (.seq (.reg [⟨some 21, none, .mv (.t 6)⟩, ⟨some 22, none, .fa 5 (.t 5)⟩, ⟨some 23, none, .ld 1 false (.t 22)⟩, ⟨some 24, none, .len false (.t 23)⟩, ⟨some 25, none, .bin .lss (.t 21) (.t 24)⟩]) (.cond (.t 25) (.skip) (.exit 0))) (.seq (.block 1 (.seq (.reg [⟨some 7, none, .mv (.c (.int .i64 0))⟩]) (.block 2 (.loop [1, 2, 5, 6, 7] [(3, [1, 2, 5, 6]), (0, [4])] B1_spec_NodeOk)))) (.reg [⟨some 26, none, .mv (.t 6)⟩, ⟨some 27, none, .bin .add (.t 26) (.c (.int .i64 1))⟩, ⟨some 6, none, .mv (.t 27)⟩]))
def F_spec_NodeOk : RF := ⟨150, 2, [.t 4],
  .seq (.reg [⟨some 2, none, .box (.t 0)⟩, ⟨some 4, none, .mv (.c (.bool false))⟩]) (.seq (.seq (.reg [⟨some 9, none, .mv (.t 1)⟩, ⟨some 10, none, .fa 0 (.t 2)⟩, ⟨some 11, none, .ld 1 false (.t 10)⟩, ⟨some 12, none, .len false (.t 11)⟩, ⟨some 13, none, .bin .sub (.t 12) (.c (.int .i64 1))⟩, ⟨some 14, none, .call 49 [(.t 9), (.c (.int .i64 0)), (.t 13)]⟩, ⟨some 15, none, .un .not (.t 14)⟩]) (.cond (.t 15) (.seq (.reg [⟨some 4, none, .mv (.c (.bool false))⟩]) (.ret)) (.skip))) (.seq (.reg [⟨some 16, none, .fa 0 (.t 2)⟩, ⟨some 17, none, .ld 1 false (.t 16)⟩, ⟨some 18, none, .mv (.t 1)⟩, ⟨some 19, none, .ia 6 (.t 17) (.t 18)⟩, ⟨some 20, none, .ld 6 true (.t 19)⟩, ⟨some 5, none, .new [(.int .i64 0), (.int .i64 0), (.str ⟨#[]⟩), (.str ⟨#[]⟩), (.str ⟨#[]⟩), (.nil 1)]⟩, ⟨none, none, .st 6 (.t 5) (.t 20)⟩]) (.seq (.seq (.reg [⟨some 6, none, .mv (.c (.int .i64 0))⟩]) (.block 0 (.loop [1, 2, 5, 6] [(1, [1, 2, 5]), (0, [4])] B0_spec_NodeOk))) (.seq (.seq (.reg [⟨some 44, none, .fa 0 (.t 5)⟩, ⟨some 45, none, .ld 1 false (.t 44)⟩, ⟨some 46, none, .call 55 [(.t 45)]⟩, ⟨some 47, none, .un .not (.t 46)⟩, ⟨some 48, none, .mv (.t 47)⟩, ⟨some 49, some (48, true), .fa 0 (.t 5)⟩, ⟨some 50, some (48, true), .ld 1 false (.t 49)⟩, ⟨some 51, some (48, true), .call 145 [(.t 50)]⟩, ⟨some 52, some (48, true), .un .not (.t 51)⟩, ⟨some 53, none, .pick (.t 48) (.t 52) (.c (.bool false))⟩, ⟨some 54, none, .mv (.t 53)⟩, ⟨some 55, some (54, true), .fa 0 (.t 5)⟩, ⟨some 56, some (54, true), .ld 1 false (.t 55)⟩, ⟨some 57, some (54, true), .bin .neq (.t 56) (.c (.int .i64 20))⟩, ⟨some 58, none, .pick (.t 54) (.t 57) (.c (.bool false))⟩, ⟨some 59, none, .mv (.t 58)⟩, ⟨some 60, some (59, false), .ld 3 true (.t 2)⟩, ⟨some 61, some (59, false), .mv (.t 1)⟩, ⟨some 62, some (59, false), .call 146 [(.t 60), (.t 61)]⟩, ⟨some 63, some (59, false), .un .not (.t 62)⟩, ⟨some 64, none, .pick (.t 59) (.c (.bool true)) (.t 63)⟩]) (.cond (.t 64) (.seq (.reg [⟨some 4, none, .mv (.c (.bool false))⟩]) (.ret)) (.skip))) (.seq (.reg [⟨some 65, none, .fa 0 (.t 5)⟩, ⟨some 66, none, .ld 1 false (.t 65)⟩, ⟨some 67, none, .bin .eql (.t 66) (.c (.int .i64 2))⟩, ⟨some 68, none, .mv (.t 67)⟩, ⟨some 69, some (68, false), .fa 0 (.t 5)⟩, ⟨some 70, some (68, false), .ld 1 false (.t 69)⟩, ⟨some 71, some (68, false), .bin .eql (.t 70) (.c (.int .i64 11))⟩, ⟨some 72, none, .pick (.t 68) (.c (.bool true)) (.t 71)⟩, ⟨some 73, none, .mv (.t 72)⟩, ⟨some 74, some (73, false), .fa 0 (.t 5)⟩, ⟨some 75, some (73, false), .ld 1 false (.t 74)⟩, ⟨some 76, some (73, false), .bin .eql (.t 75) (.c (.int .i64 16))⟩, ⟨some 77, none, .pick (.t 73) (.c (.bool true)) (.t 76)⟩, ⟨some 78, none, .mv (.t 77)⟩, ⟨some 79, some (78, false), .fa 0 (.t 5)⟩, ⟨some 80, some (78, false), .ld 1 false (.t 79)⟩, ⟨some 81, some (78, false), .bin .eql (.t 80) (.c (.int .i64 17))⟩, ⟨some 82, none, .pick (.t 78) (.c (.bool true)) (.t 81)⟩, ⟨some 83, none, .mv (.t 82)⟩, ⟨some 84, some (83, false), .fa 0 (.t 5)⟩, ⟨some 85, some (83, false), .ld 1 false (.t 84)⟩, ⟨some 86, some (83, false), .bin .eql (.t 85) (.c (.int .i64 18))⟩, ⟨some 87, none, .pick (.t 83) (.c (.bool true)) (.t 86)⟩, ⟨some 88, none, .mv (.t 87)⟩, ⟨some 89, some (88, false), .fa 0 (.t 5)⟩, ⟨some 90, some (88, false), .ld 1 false (.t 89)⟩, ⟨some 91, some (88, false), .bin .eql (.t 90) (.c (.int .i64 14))⟩, ⟨some 92, none, .pick (.t 88) (.c (.bool true)) (.t 91)⟩, ⟨some 8, none, .mv (.t 92)⟩]) (.seq (.seq (.reg [⟨some 93, none, .mv (.t 8)⟩, ⟨some 94, none, .mv (.t 93)⟩, ⟨some 95, some (94, true), .fa 2 (.t 5)⟩, ⟨some 96, some (94, true), .ld 1 false (.t 95)⟩, ⟨some 97, some (94, true), .call 147 [(.t 96)]⟩, ⟨some 98, some (94, true), .un .not (.t 97)⟩, ⟨some 99, none, .pick (.t 94) (.t 98) (.c (.bool false))⟩, ⟨some 100, none, .mv (.t 99)⟩, ⟨some 101, some (100, false), .mv (.t 8)⟩, ⟨some 102, some (100, false), .un .not (.t 101)⟩, ⟨some 103, some (100, false), .mv (.t 102)⟩, ⟨some 104, some (103, true), .fa 2 (.t 5)⟩, ⟨some 105, some (103, true), .ld 1 false (.t 104)⟩, ⟨some 106, some (103, true), .bin .neq (.t 105) (.c (.str ⟨#[]⟩))⟩, ⟨some 107, some (100, false), .pick (.t 103) (.t 106) (.c (.bool false))⟩, ⟨some 108, none, .pick (.t 100) (.c (.bool true)) (.t 107)⟩]) (.cond (.t 108) (.seq (.reg [⟨some 4, none, .mv (.c (.bool false))⟩]) (.ret)) (.skip))) (.seq (.seq (.reg [⟨some 109, none, .fa 0 (.t 5)⟩, ⟨some 110, none, .ld 1 false (.t 109)⟩, ⟨some 111, none, .bin .eql (.t 110) (.c (.int .i64 14))⟩]) (.cond (.t 111) (.seq (.reg [⟨some 112, none, .fa 3 (.t 5)⟩, ⟨some 113, none, .ld 1 false (.t 112)⟩, ⟨some 114, none, .call 147 [(.t 113)]⟩, ⟨some 115, none, .un .not (.t 114)⟩, ⟨some 116, none, .mv (.t 115)⟩, ⟨some 117, some (116, false), .fa 4 (.t 5)⟩, ⟨some 118, some (116, false), .ld 1 false (.t 117)⟩, ⟨some 119, some (116, false), .bin .neq (.t 118) (.c (.str ⟨#[]⟩))⟩, ⟨some 120, some (116, false), .mv (.t 119)⟩, ⟨some 121, some (120, true), .fa 4 (.t 5)⟩, ⟨some 122, some (120, true), .ld 1 false (.t 121)⟩, ⟨some 123, some (120, true), .call 147 [(.t 122)]⟩, ⟨some 124, some (120, true), .un .not (.t 123)⟩, ⟨some 125, some (116, false), .pick (.t 120) (.t 124) (.c (.bool false))⟩, ⟨some 126, none, .pick (.t 116) (.c (.bool true)) (.t 125)⟩]) (.cond (.t 126) (.seq (.reg [⟨some 4, none, .mv (.c (.bool false))⟩]) (.ret)) (.skip))) (.seq (.reg [⟨some 127, none, .fa 3 (.t 5)⟩, ⟨some 128, none, .ld 1 false (.t 127)⟩, ⟨some 129, none, .bin .neq (.t 128) (.c (.str ⟨#[]⟩))⟩, ⟨some 130, none, .mv (.t 129)⟩, ⟨some 131, some (130, false), .fa 4 (.t 5)⟩, ⟨some 132, some (130, false), .ld 1 false (.t 131)⟩, ⟨some 133, some (130, false), .bin .neq (.t 132) (.c (.str ⟨#[]⟩))⟩, ⟨some 134, none, .pick (.t 130) (.c (.bool true)) (.t 133)⟩]) (.cond (.t 134) (.seq (.reg [⟨some 4, none, .mv (.c (.bool false))⟩]) (.ret)) (.skip))))) (.seq (.seq (.reg [⟨some 135, none, .fa 0 (.t 5)⟩, ⟨some 136, none, .ld 1 false (.t 135)⟩]) (.block 4 (.seq (.reg [⟨some 138, none, .bin .eql (.t 136) (.c (.int .i64 1))⟩, ⟨some 137, none, .mv (.t 138)⟩]) (.cond (.t 137) (.seq (.reg [⟨some 139, none, .fa 1 (.t 5)⟩, ⟨some 140, none, .ld 1 false (.t 139)⟩, ⟨some 141, none, .call 49 [(.t 140), (.c (.int .i64 0)), (.c (.int .i64 1000000))]⟩, ⟨some 4, none, .mv (.t 141)⟩]) (.ret)) (.seq (.reg [⟨some 143, none, .bin .eql (.t 136) (.c (.int .i64 3))⟩, ⟨some 142, none, .mv (.t 143)⟩]) (.cond (.t 142) (.seq (.reg [⟨some 144, none, .fa 1 (.t 5)⟩, ⟨some 145, none, .ld 1 false (.t 144)⟩, ⟨some 146, none, .call 49 [(.t 145), (.c (.int .i64 1)), (.c (.int .i64 9))]⟩, ⟨some 4, none, .mv (.t 146)⟩]) (.ret)) (.skip))))))) (.seq (.reg [⟨some 147, none, .fa 1 (.t 5)⟩, ⟨some 148, none, .ld 1 false (.t 147)⟩, ⟨some 149, none, .bin .eql (.t 148) (.c (.int .i64 0))⟩, ⟨some 4, none, .mv (.t 149)⟩]) (.ret))))))))))⟩
def K_spec_NodeOk : Keeps := [([1, 2, 5, 6], [(1, [1, 2, 5]), (0, [4])]), ([1, 2, 5, 6, 7], [(3, [1, 2, 5, 6]), (0, [4])])]
theorem r_spec_NodeOk : resolveF Try.prog Try.f136 K_spec_NodeOk = some F_spec_NodeOk := by kernel_rfl
noncomputable def X_spec_NodeOk : Ctx := Ctx.cons 49 G_spec_l01In (Ctx.cons 55 G_spec_l05Value (Ctx.cons 145 G_spec_l05Statement (Ctx.cons 146 G_spec_l05Kids (Ctx.cons 147 G_spec_NameOk (fun _ => none)))))
theorem co_spec_NodeOk : CtxOk Try.prog X_spec_NodeOk := CtxOk.cons (CtxOk.cons (CtxOk.cons (CtxOk.cons (CtxOk.cons (CtxOk.nil) ok_spec_NameOk) ok_spec_l05Kids) ok_spec_l05Statement) ok_spec_l05Value) ok_spec_l01In
theorem cx_spec_NodeOk : ((∀ args hp, callX X_spec_NodeOk 49 args hp = callS G_spec_l01In args hp) ∧ (trC (X_spec_NodeOk 49) = false)) ∧ ((∀ args hp, callX X_spec_NodeOk 55 args hp = callS G_spec_l05Value args hp) ∧ (trC (X_spec_NodeOk 55) = false)) ∧ ((∀ args hp, callX X_spec_NodeOk 145 args hp = callS G_spec_l05Statement args hp) ∧ (trC (X_spec_NodeOk 145) = false)) ∧ ((∀ args hp, callX X_spec_NodeOk 146 args hp = callS G_spec_l05Kids args hp) ∧ (trC (X_spec_NodeOk 146) = false)) ∧ ((∀ args hp, callX X_spec_NodeOk 147 args hp = callS G_spec_NameOk args hp) ∧ (trC (X_spec_NodeOk 147) = false)) := ⟨⟨fun _ _ => rfl, rfl⟩, ⟨fun _ _ => rfl, rfl⟩, ⟨fun _ _ => rfl, rfl⟩, ⟨fun _ _ => rfl, rfl⟩, ⟨fun _ _ => rfl, rfl⟩⟩
noncomputable def S_spec_NodeOk : ByV := ⟨none, false, semF X_spec_NodeOk F_spec_NodeOk none false⟩
noncomputable def G_spec_NodeOk : CK := .byv S_spec_NodeOk
theorem sg_spec_NodeOk (args : List AV) : S_spec_NodeOk.sem args = semF X_spec_NodeOk F_spec_NodeOk none false args := rfl
theorem cl_spec_NodeOk (args : List AV) (hp : Hp) : callS G_spec_NodeOk args hp = byvS S_spec_NodeOk args hp := callS_byv rfl rfl args hp
theorem ok_spec_NodeOk : InlOk Try.prog 136 (callS G_spec_NodeOk) := byv_none co_spec_NodeOk Try.func136 r_spec_NodeOk rfl (fun _ _ h => h)
/- 105 spec_l05Deeps calls [spec_NodeOk]  -/
def B1_spec_l05Deeps : RC :=
  .seq (.seq (.reg [⟨some 18, none, .mv (.t 6)⟩, ⟨some 19, none, .fa 0 (.t 1)⟩, ⟨some 20, none, .ld 1 false (.t 19)⟩, ⟨some 21, none, .mv (.t 4)⟩, ⟨some 22, none, .ia 6 (.t 20) (.t 21)⟩, ⟨some 23, none, .fa 5 (.t 22)⟩, ⟨some 24, none, .ld 1 false (.t 23)⟩, ⟨some 25, none, .len false (.t 24)⟩, ⟨some 26, none, .bin .lss (.t 18) (.t 25)⟩]) (.cond (.t 26) (.skip) (.exit 2))) (.seq (.block 3 (.seq (.reg [⟨some 29, none, .mv (.t 3)⟩, ⟨some 30, none, .fa 0 (.t 1)⟩, ⟨some 31, none, .ld 1 false (.t 30)⟩, ⟨some 32, none, .mv (.t 4)⟩, ⟨some 33, none, .ia 6 (.t 31) (.t 32)⟩, ⟨some 34, none, .fa 5 (.t 33)⟩, ⟨some 35, none, .ld 1 false (.t 34)⟩, ⟨some 36, none, .mv (.t 6)⟩, ⟨some 37, none, .ia 1 (.t 35) (.t 36)⟩, ⟨some 38, none, .ld 1 false (.t 37)⟩, ⟨some 39, none, .ia 1 (.t 29) (.t 38)⟩, ⟨some 40, none, .ld 1 false (.t 39)⟩, ⟨some 41, none, .bin .add (.t 40) (.c (.int .i64 1))⟩, ⟨some 42, none, .mv (.t 5)⟩, ⟨some 43, none, .bin .gtr (.t 41) (.t 42)⟩]) (.cond (.t 43) (.reg [⟨some 44, none, .mv (.t 3)⟩, ⟨some 45, none, .fa 0 (.t 1)⟩, ⟨some 46, none, .ld 1 false (.t 45)⟩, ⟨some 47, none, .mv (.t 4)⟩, ⟨some 48, none, .ia 6 (.t 46) (.t 47)⟩, ⟨some 49, none, .fa 5 (.t 48)⟩, ⟨some 50, none, .ld 1 false (.t 49)⟩, ⟨some 51, none, .mv (.t 6)⟩, ⟨some 52, none, .ia 1 (.t 50) (.t 51)⟩, ⟨some 53, none, .ld 1 false (.t 52)⟩, ⟨some 54, none, .ia 1 (.t 44) (.t 53)⟩, ⟨some 55, none, .ld 1 false (.t 54)⟩, ⟨some 56, none, .bin .add (.t 55) (.c (.int .i64 1))⟩, ⟨some 5, none, .mv (.t 56)⟩]) (.skip)))) (.reg [⟨some 27, none, .mv (.t 6)⟩, ⟨some 28, none, .bin .add (.t 27) (.c (.int .i64 1))⟩, ⟨some 6, none, .mv (.t 28)⟩]))
def B0_spec_l05Deeps : RC :=
  .seq (.seq (.reg [⟨some 8, none, .mv (.t 4)⟩, ⟨some 9, none, .fa 0 (.t 1)⟩, ⟨some 10, none, .ld 1 false (.t 9)⟩, ⟨some 11, none, .len false (.t 10)⟩, ⟨some 12, none, .bin .lss (.t 8) (.t 11)⟩]) (.cond (.t 12) (.skip) (.exit 0))) (.seq (.block 1 (.seq (.reg [⟨some 5, none, .mv (.c (.int .i64 0))⟩]) (.seq (.seq (.reg [⟨some 15, none, .ld 3 true (.t 1)⟩, ⟨some 16, none, .mv (.t 4)⟩, ⟨some 17, none, .call 136 [(.t 15), (.t 16)]⟩]) (.cond (.t 17) (.seq (.reg [⟨some 5, none, .mv (.c (.int .i64 1))⟩]) (.seq (.reg [⟨some 6, none, .mv (.c (.int .i64 0))⟩]) (.block 2 (.loop [1, 3, 4, 5, 6] [(3, [1, 3, 4, 5])] B1_spec_l05Deeps)))) (.skip))) (.seq (.seq (.reg [⟨some 57, none, .mv (.t 5)⟩, ⟨some 58, none, .bin .gtr (.t 57) (.c (.int .i64 10))⟩, ⟨some 59, none, .mv (.t 58)⟩, ⟨some 60, some (59, false), .mv (.t 4)⟩, ⟨some 61, some (59, false), .bin .gtr (.t 60) (.c (.int .i64 0))⟩, ⟨some 62, some (59, false), .mv (.t 61)⟩, ⟨some 63, some (62, true), .mv (.t 3)⟩, ⟨some 64, some (62, true), .mv (.t 4)⟩, ⟨some 65, some (62, true), .bin .sub (.t 64) (.c (.int .i64 1))⟩, ⟨some 66, some (62, true), .ia 1 (.t 63) (.t 65)⟩, ⟨some 67, some (62, true), .ld 1 false (.t 66)⟩, ⟨some 68, some (62, true), .bin .eql (.t 67) (.c (.int .i64 0))⟩, ⟨some 69, some (59, false), .pick (.t 62) (.t 68) (.c (.bool false))⟩, ⟨some 70, none, .pick (.t 59) (.c (.bool true)) (.t 69)⟩]) (.cond (.t 70) (.reg [⟨some 5, none, .mv (.c (.int .i64 0))⟩]) (.skip))) (.reg [⟨some 71, none, .mv (.t 3)⟩, ⟨some 72, none, .mv (.t 5)⟩, ⟨some 73, none, .bsl 1 [(.t 72)]⟩, ⟨some 74, none, .app true 1 8 (.t 71) (.t 73)⟩, ⟨some 3, none, .mv (.t 74)⟩]))))) (.reg [⟨some 13, none, .mv (.t 4)⟩, ⟨some 14, none, .bin .add (.t 13) (.c (.int .i64 1))⟩, ⟨some 4, none, .mv (.t 14)⟩]))
def F_spec_l05Deeps : RF := ⟨76, 1, [.t 2],
  .seq (.reg [⟨some 1, none, .box (.t 0)⟩, ⟨some 2, none, .mv (.c (.nil 1))⟩]) (.seq (.reg [⟨some 7, none, .bsl 1 []⟩, ⟨some 3, none, .mv (.t 7)⟩]) (.seq (.seq (.reg [⟨some 4, none, .mv (.c (.int .i64 0))⟩]) (.block 0 (.loop [1, 3, 4] [(1, [3])] B0_spec_l05Deeps))) (.seq (.reg [⟨some 75, none, .mv (.t 3)⟩, ⟨some 2, none, .mv (.t 75)⟩]) (.ret))))⟩
def K_spec_l05Deeps : Keeps := [([1, 3, 4], [(1, [3])]), ([1, 3, 4, 5, 6], [(3, [1, 3, 4, 5])])]
theorem r_spec_l05Deeps : resolveF Try.prog Try.f105 K_spec_l05Deeps = some F_spec_l05Deeps := by kernel_rfl
noncomputable def X_spec_l05Deeps : Ctx := Ctx.cons 136 G_spec_NodeOk (fun _ => none)
theorem co_spec_l05Deeps : CtxOk Try.prog X_spec_l05Deeps := CtxOk.cons (CtxOk.nil) ok_spec_NodeOk
theorem cx_spec_l05Deeps : ((∀ args hp, callX X_spec_l05Deeps 136 args hp = callS G_spec_NodeOk args hp) ∧ (trC (X_spec_l05Deeps 136) = false)) := ⟨fun _ _ => rfl, rfl⟩
noncomputable def S_spec_l05Deeps : ByV := ⟨none, false, semF X_spec_l05Deeps F_spec_l05Deeps none false⟩
noncomputable def G_spec_l05Deeps : CK := .byv S_spec_l05Deeps
theorem sg_spec_l05Deeps (args : List AV) : S_spec_l05Deeps.sem args = semF X_spec_l05Deeps F_spec_l05Deeps none false args := rfl
theorem cl_spec_l05Deeps (args : List AV) (hp : Hp) : callS G_spec_l05Deeps args hp = byvS S_spec_l05Deeps args hp := callS_byv rfl rfl args hp
theorem ok_spec_l05Deeps : InlOk Try.prog 105 (callS G_spec_l05Deeps) := byv_none co_spec_l05Deeps Try.func105 r_spec_l05Deeps rfl (fun _ _ h => h)
/- 54 spec_DeepOf calls [spec_l01In, spec_l05Deeps]  -/
def F_spec_DeepOf : RF := ⟨17, 2, [.t 4],
  .seq (.reg [⟨some 2, none, .box (.t 0)⟩, ⟨some 4, none, .mv (.c (.int .i64 0))⟩]) (.seq (.seq (.reg [⟨some 5, none, .mv (.t 1)⟩, ⟨some 6, none, .fa 0 (.t 2)⟩, ⟨some 7, none, .ld 1 false (.t 6)⟩, ⟨some 8, none, .len false (.t 7)⟩, ⟨some 9, none, .bin .sub (.t 8) (.c (.int .i64 1))⟩, ⟨some 10, none, .call 49 [(.t 5), (.c (.int .i64 0)), (.t 9)]⟩, ⟨some 11, none, .un .not (.t 10)⟩]) (.cond (.t 11) (.seq (.reg [⟨some 4, none, .mv (.c (.int .i64 0))⟩]) (.ret)) (.skip))) (.seq (.reg [⟨some 12, none, .ld 3 true (.t 2)⟩, ⟨some 13, none, .call 105 [(.t 12)]⟩, ⟨some 14, none, .mv (.t 1)⟩, ⟨some 15, none, .ia 1 (.t 13) (.t 14)⟩, ⟨some 16, none, .ld 1 false (.t 15)⟩, ⟨some 4, none, .mv (.t 16)⟩]) (.ret)))⟩
def K_spec_DeepOf : Keeps := []
theorem r_spec_DeepOf : resolveF Try.prog Try.f54 K_spec_DeepOf = some F_spec_DeepOf := by kernel_rfl
noncomputable def X_spec_DeepOf : Ctx := Ctx.cons 49 G_spec_l01In (Ctx.cons 105 G_spec_l05Deeps (fun _ => none))
theorem co_spec_DeepOf : CtxOk Try.prog X_spec_DeepOf := CtxOk.cons (CtxOk.cons (CtxOk.nil) ok_spec_l05Deeps) ok_spec_l01In
theorem cx_spec_DeepOf : ((∀ args hp, callX X_spec_DeepOf 49 args hp = callS G_spec_l01In args hp) ∧ (trC (X_spec_DeepOf 49) = false)) ∧ ((∀ args hp, callX X_spec_DeepOf 105 args hp = callS G_spec_l05Deeps args hp) ∧ (trC (X_spec_DeepOf 105) = false)) := ⟨⟨fun _ _ => rfl, rfl⟩, ⟨fun _ _ => rfl, rfl⟩⟩
noncomputable def S_spec_DeepOf : ByV := ⟨none, false, semF X_spec_DeepOf F_spec_DeepOf none false⟩
noncomputable def G_spec_DeepOf : CK := .byv S_spec_DeepOf
theorem sg_spec_DeepOf (args : List AV) : S_spec_DeepOf.sem args = semF X_spec_DeepOf F_spec_DeepOf none false args := rfl
theorem cl_spec_DeepOf (args : List AV) (hp : Hp) : callS G_spec_DeepOf args hp = byvS S_spec_DeepOf args hp := callS_byv rfl rfl args hp
theorem ok_spec_DeepOf : InlOk Try.prog 54 (callS G_spec_DeepOf) := byv_none co_spec_DeepOf Try.func54 r_spec_DeepOf rfl (fun _ _ h => h)
/- 56 spec_l17Regs calls [spec_l17Regs]  RECURSIVE -/
def F_spec_l17Regs : RF := ⟨44, 2, [.t 4],
  .seq (.reg [⟨some 2, none, .box (.t 0)⟩, ⟨some 4, none, .mv (.c (.int .i64 0))⟩]) (.seq (.reg [⟨some 8, none, .fa 0 (.t 2)⟩, ⟨some 9, none, .ld 1 false (.t 8)⟩, ⟨some 10, none, .mv (.t 1)⟩, ⟨some 11, none, .ia 6 (.t 9) (.t 10)⟩, ⟨some 12, none, .ld 6 true (.t 11)⟩, ⟨some 5, none, .new [(.int .i64 0), (.int .i64 0), (.str ⟨#[]⟩), (.str ⟨#[]⟩), (.str ⟨#[]⟩), (.nil 1)]⟩, ⟨none, none, .st 6 (.t 5) (.t 12)⟩]) (.seq (.seq (.reg [⟨some 13, none, .fa 0 (.t 5)⟩, ⟨some 14, none, .ld 1 false (.t 13)⟩]) (.block 0 (.seq (.seq (.reg [⟨some 16, none, .bin .eql (.t 14) (.c (.int .i64 1))⟩, ⟨some 15, none, .mv (.t 16)⟩]) (.cond (.t 15) (.skip) (.reg [⟨some 17, none, .bin .eql (.t 14) (.c (.int .i64 2))⟩, ⟨some 15, none, .mv (.t 17)⟩]))) (.cond (.t 15) (.seq (.reg [⟨some 4, none, .mv (.c (.int .i64 1))⟩]) (.ret)) (.seq (.reg [⟨some 19, none, .bin .eql (.t 14) (.c (.int .i64 3))⟩, ⟨some 18, none, .mv (.t 19)⟩]) (.cond (.t 18) (.seq (.regd [(1, ⟨some 20, none, .ld 3 true (.t 2)⟩), (0, ⟨some 21, none, .fa 5 (.t 5)⟩), (1, ⟨some 22, none, .ld 1 false (.t 21)⟩), (1, ⟨some 23, none, .ia 1 (.t 22) (.c (.int .i64 0))⟩), (1, ⟨some 24, none, .ld 1 false (.t 23)⟩), (1, ⟨some 25, none, .call 56 [(.t 20), (.t 24)]⟩), (0, ⟨some 6, none, .mv (.t 25)⟩)] []) (.seq (.regd [(1, ⟨some 26, none, .ld 3 true (.t 2)⟩), (0, ⟨some 27, none, .fa 5 (.t 5)⟩), (1, ⟨some 28, none, .ld 1 false (.t 27)⟩), (1, ⟨some 29, none, .ia 1 (.t 28) (.c (.int .i64 1))⟩), (1, ⟨some 30, none, .ld 1 false (.t 29)⟩), (1, ⟨some 31, none, .call 56 [(.t 26), (.t 30)]⟩), (0, ⟨some 32, none, .bin .add (.t 31) (.c (.int .i64 1))⟩), (0, ⟨some 7, none, .mv (.t 32)⟩)] []) (.seq (.seq (.reg [⟨some 33, none, .mv (.t 6)⟩, ⟨some 34, none, .mv (.t 7)⟩, ⟨some 35, none, .bin .gtr (.t 33) (.t 34)⟩]) (.cond (.t 35) (.seq (.reg [⟨some 36, none, .mv (.t 6)⟩, ⟨some 4, none, .mv (.t 36)⟩]) (.ret)) (.skip))) (.seq (.reg [⟨some 37, none, .mv (.t 7)⟩, ⟨some 4, none, .mv (.t 37)⟩]) (.ret))))) (.skip))))))) (.seq (.regd [(1, ⟨some 38, none, .ld 3 true (.t 2)⟩), (0, ⟨some 39, none, .fa 5 (.t 5)⟩), (1, ⟨some 40, none, .ld 1 false (.t 39)⟩), (1, ⟨some 41, none, .ia 1 (.t 40) (.c (.int .i64 0))⟩), (1, ⟨some 42, none, .ld 1 false (.t 41)⟩), (1, ⟨some 43, none, .call 56 [(.t 38), (.t 42)]⟩), (0, ⟨some 4, none, .mv (.t 43)⟩)] []) (.ret))))⟩
def K_spec_l17Regs : Keeps := []
theorem r_spec_l17Regs : resolveF Try.prog Try.f56 K_spec_l17Regs = some F_spec_l17Regs := by kernel_rfl
noncomputable def X_spec_l17Regs (z : Ctx) : Ctx := z
theorem co_spec_l17Regs {z : Ctx} (h : CtxOk Try.prog z) : CtxOk Try.prog (X_spec_l17Regs z) := h
noncomputable def Z_spec_l17Regs : Nat → Ctx
  | 0 => fun _ => none
  | n + 1 => Ctx.cons 56 (.byv ⟨none, false, semF (X_spec_l17Regs (Z_spec_l17Regs n)) F_spec_l17Regs none false⟩) (fun _ => none)
theorem zo_Z_spec_l17Regs : ∀ n, CtxOk Try.prog (Z_spec_l17Regs n)
  | 0 => CtxOk.nil
  | n + 1 => CtxOk.cons (CtxOk.nil) (byv_none (co_spec_l17Regs (zo_Z_spec_l17Regs n)) Try.func56 r_spec_l17Regs rfl (fun _ _ h => h))
noncomputable def V_spec_l17Regs (n : Nat) : ByV := ⟨none, false, semF (X_spec_l17Regs (Z_spec_l17Regs n)) F_spec_l17Regs none false⟩
noncomputable def W_spec_l17Regs (n : Nat) : CK := .byv (V_spec_l17Regs n)
theorem sd_spec_l17Regs (n : Nat) (args : List AV) : (V_spec_l17Regs n).sem args = semF (X_spec_l17Regs (Z_spec_l17Regs n)) F_spec_l17Regs none false args := rfl
theorem cw_spec_l17Regs (n : Nat) (args : List AV) (hp : Hp) : callS (W_spec_l17Regs n) args hp = byvS (V_spec_l17Regs n) args hp := callS_byv rfl rfl args hp
noncomputable def S_spec_l17Regs : ByV := ⟨none, false, lim fun n => (V_spec_l17Regs n).sem⟩
noncomputable def G_spec_l17Regs : CK := .byv S_spec_l17Regs
theorem sl_spec_l17Regs (args : List AV) : S_spec_l17Regs.sem args = lim (fun n => (V_spec_l17Regs n).sem) args := rfl
theorem cl_spec_l17Regs (args : List AV) (hp : Hp) : callS G_spec_l17Regs args hp = byvS S_spec_l17Regs args hp := callS_byv rfl rfl args hp
theorem ok_spec_l17Regs : InlOk Try.prog 56 (callS G_spec_l17Regs) := byv_lim fun n => byv_none (co_spec_l17Regs (zo_Z_spec_l17Regs n)) Try.func56 r_spec_l17Regs rfl (fun _ _ h => h)
theorem cx_spec_l17Regs (n : Nat) : ((∀ args hp, callX (X_spec_l17Regs (Z_spec_l17Regs (n + 1))) 56 args hp = callS (W_spec_l17Regs n) args hp) ∧ (trC ((X_spec_l17Regs (Z_spec_l17Regs (n + 1))) 56) = false)) := ⟨fun _ _ => rfl, rfl⟩
/- 15 spec_RegsOf calls [spec_DeepOf, spec_l05Value, spec_l17Regs]  -/
def F_spec_RegsOf : RF := ⟨22, 2, [.t 4],
  .seq (.reg [⟨some 2, none, .box (.t 0)⟩, ⟨some 4, none, .mv (.c (.int .i64 0))⟩]) (.seq (.seq (.reg [⟨some 5, none, .ld 3 true (.t 2)⟩, ⟨some 6, none, .mv (.t 1)⟩, ⟨some 7, none, .call 54 [(.t 5), (.t 6)]⟩, ⟨some 8, none, .bin .eql (.t 7) (.c (.int .i64 0))⟩, ⟨some 9, none, .mv (.t 8)⟩, ⟨some 10, some (9, false), .fa 0 (.t 2)⟩, ⟨some 11, some (9, false), .ld 1 false (.t 10)⟩, ⟨some 12, some (9, false), .mv (.t 1)⟩, ⟨some 13, some (9, false), .ia 6 (.t 11) (.t 12)⟩, ⟨some 14, some (9, false), .fa 0 (.t 13)⟩, ⟨some 15, some (9, false), .ld 1 false (.t 14)⟩, ⟨some 16, some (9, false), .call 55 [(.t 15)]⟩, ⟨some 17, some (9, false), .un .not (.t 16)⟩, ⟨some 18, none, .pick (.t 9) (.c (.bool true)) (.t 17)⟩]) (.cond (.t 18) (.seq (.reg [⟨some 4, none, .mv (.c (.int .i64 0))⟩]) (.ret)) (.skip))) (.seq (.reg [⟨some 19, none, .ld 3 true (.t 2)⟩, ⟨some 20, none, .mv (.t 1)⟩, ⟨some 21, none, .call 56 [(.t 19), (.t 20)]⟩, ⟨some 4, none, .mv (.t 21)⟩]) (.ret)))⟩
def K_spec_RegsOf : Keeps := []
theorem r_spec_RegsOf : resolveF Try.prog Try.f15 K_spec_RegsOf = some F_spec_RegsOf := by kernel_rfl
noncomputable def X_spec_RegsOf : Ctx := Ctx.cons 54 G_spec_DeepOf (Ctx.cons 55 G_spec_l05Value (Ctx.cons 56 G_spec_l17Regs (fun _ => none)))
theorem co_spec_RegsOf : CtxOk Try.prog X_spec_RegsOf := CtxOk.cons (CtxOk.cons (CtxOk.cons (CtxOk.nil) ok_spec_l17Regs) ok_spec_l05Value) ok_spec_DeepOf
theorem cx_spec_RegsOf : ((∀ args hp, callX X_spec_RegsOf 54 args hp = callS G_spec_DeepOf args hp) ∧ (trC (X_spec_RegsOf 54) = false)) ∧ ((∀ args hp, callX X_spec_RegsOf 55 args hp = callS G_spec_l05Value args hp) ∧ (trC (X_spec_RegsOf 55) = false)) ∧ ((∀ args hp, callX X_spec_RegsOf 56 args hp = callS G_spec_l17Regs args hp) ∧ (trC (X_spec_RegsOf 56) = false)) := ⟨⟨fun _ _ => rfl, rfl⟩, ⟨fun _ _ => rfl, rfl⟩, ⟨fun _ _ => rfl, rfl⟩⟩
noncomputable def S_spec_RegsOf : ByV := ⟨none, false, semF X_spec_RegsOf F_spec_RegsOf none false⟩
noncomputable def G_spec_RegsOf : CK := .byv S_spec_RegsOf
theorem sg_spec_RegsOf (args : List AV) : S_spec_RegsOf.sem args = semF X_spec_RegsOf F_spec_RegsOf none false args := rfl
theorem cl_spec_RegsOf (args : List AV) (hp : Hp) : callS G_spec_RegsOf args hp = byvS S_spec_RegsOf args hp := callS_byv rfl rfl args hp
theorem ok_spec_RegsOf : InlOk Try.prog 15 (callS G_spec_RegsOf) := byv_none co_spec_RegsOf Try.func15 r_spec_RegsOf rfl (fun _ _ h => h)
/- 94 impl_within calls []  -/
def F_impl_within : RF := ⟨15, 3, [.t 6],
  .seq (.reg [⟨some 6, none, .mv (.c (.bool false))⟩]) (.seq (.reg [⟨some 7, none, .mv (.t 0)⟩, ⟨some 8, none, .mv (.t 1)⟩, ⟨some 9, none, .bin .geq (.t 7) (.t 8)⟩, ⟨some 10, none, .mv (.t 9)⟩, ⟨some 11, some (10, true), .mv (.t 0)⟩, ⟨some 12, some (10, true), .mv (.t 2)⟩, ⟨some 13, some (10, true), .bin .leq (.t 11) (.t 12)⟩, ⟨some 14, none, .pick (.t 10) (.t 13) (.c (.bool false))⟩, ⟨some 6, none, .mv (.t 14)⟩]) (.ret))⟩
def K_impl_within : Keeps := []
theorem r_impl_within : resolveF Try.prog Try.f94 K_impl_within = some F_impl_within := by kernel_rfl
noncomputable def X_impl_within : Ctx := fun _ => none
theorem co_impl_within : CtxOk Try.prog X_impl_within := CtxOk.nil
theorem cx_impl_within : True := trivial
noncomputable def S_impl_within : ByV := ⟨none, false, semF X_impl_within F_impl_within none false⟩
noncomputable def G_impl_within : CK := .byv S_impl_within
theorem sg_impl_within (args : List AV) : S_impl_within.sem args = semF X_impl_within F_impl_within none false args := rfl
theorem cl_impl_within (args : List AV) (hp : Hp) : callS G_impl_within args hp = byvS S_impl_within args hp := callS_byv rfl rfl args hp
theorem ok_impl_within : InlOk Try.prog 94 (callS G_impl_within) := byv_none co_impl_within Try.func94 r_impl_within rfl (fun _ _ h => h)
/- 109 impl_isNode calls [impl_within]  -/
def F_impl_isNode : RF := ⟨11, 2, [.t 4],
  .seq (.reg [⟨some 2, none, .box (.t 0)⟩, ⟨some 4, none, .mv (.c (.bool false))⟩]) (.seq (.reg [⟨some 5, none, .mv (.t 1)⟩, ⟨some 6, none, .fa 0 (.t 2)⟩, ⟨some 7, none, .ld 1 false (.t 6)⟩, ⟨some 8, none, .len false (.t 7)⟩, ⟨some 9, none, .bin .sub (.t 8) (.c (.int .i64 1))⟩, ⟨some 10, none, .call 94 [(.t 5), (.c (.int .i64 0)), (.t 9)]⟩, ⟨some 4, none, .mv (.t 10)⟩]) (.ret))⟩
def K_impl_isNode : Keeps := []
theorem r_impl_isNode : resolveF Try.prog Try.f109 K_impl_isNode = some F_impl_isNode := by kernel_rfl
noncomputable def X_impl_isNode : Ctx := Ctx.cons 94 G_impl_within (fun _ => none)
theorem co_impl_isNode : CtxOk Try.prog X_impl_isNode := CtxOk.cons (CtxOk.nil) ok_impl_within
theorem cx_impl_isNode : ((∀ args hp, callX X_impl_isNode 94 args hp = callS G_impl_within args hp) ∧ (trC (X_impl_isNode 94) = false)) := ⟨fun _ _ => rfl, rfl⟩
noncomputable def S_impl_isNode : ByV := ⟨none, false, semF X_impl_isNode F_impl_isNode none false⟩
noncomputable def G_impl_isNode : CK := .byv S_impl_isNode
theorem sg_impl_isNode (args : List AV) : S_impl_isNode.sem args = semF X_impl_isNode F_impl_isNode none false args := rfl
theorem cl_impl_isNode (args : List AV) (hp : Hp) : callS G_impl_isNode args hp = byvS S_impl_isNode args hp := callS_byv rfl rfl args hp
theorem ok_impl_isNode : InlOk Try.prog 109 (callS G_impl_isNode) := byv_none co_impl_isNode Try.func109 r_impl_isNode rfl (fun _ _ h => h)
/- 60 impl_isValue calls [impl_isNode, impl_within]  -/
def F_impl_isValue : RF := ⟨17, 2, [.t 4],
  .seq (.reg [⟨some 2, none, .box (.t 0)⟩, ⟨some 4, none, .mv (.c (.bool false))⟩]) (.seq (.reg [⟨some 5, none, .ld 3 true (.t 2)⟩, ⟨some 6, none, .mv (.t 1)⟩, ⟨some 7, none, .call 109 [(.t 5), (.t 6)]⟩, ⟨some 8, none, .mv (.t 7)⟩, ⟨some 9, some (8, true), .fa 0 (.t 2)⟩, ⟨some 10, some (8, true), .ld 1 false (.t 9)⟩, ⟨some 11, some (8, true), .mv (.t 1)⟩, ⟨some 12, some (8, true), .ia 6 (.t 10) (.t 11)⟩, ⟨some 13, some (8, true), .fa 0 (.t 12)⟩, ⟨some 14, some (8, true), .ld 1 false (.t 13)⟩, ⟨some 15, some (8, true), .call 94 [(.t 14), (.c (.int .i64 1)), (.c (.int .i64 5))]⟩, ⟨some 16, none, .pick (.t 8) (.t 15) (.c (.bool false))⟩, ⟨some 4, none, .mv (.t 16)⟩]) (.ret))⟩
def K_impl_isValue : Keeps := []
theorem r_impl_isValue : resolveF Try.prog Try.f60 K_impl_isValue = some F_impl_isValue := by kernel_rfl
noncomputable def X_impl_isValue : Ctx := Ctx.cons 109 G_impl_isNode (Ctx.cons 94 G_impl_within (fun _ => none))
theorem co_impl_isValue : CtxOk Try.prog X_impl_isValue := CtxOk.cons (CtxOk.cons (CtxOk.nil) ok_impl_within) ok_impl_isNode
theorem cx_impl_isValue : ((∀ args hp, callX X_impl_isValue 109 args hp = callS G_impl_isNode args hp) ∧ (trC (X_impl_isValue 109) = false)) ∧ ((∀ args hp, callX X_impl_isValue 94 args hp = callS G_impl_within args hp) ∧ (trC (X_impl_isValue 94) = false)) := ⟨⟨fun _ _ => rfl, rfl⟩, ⟨fun _ _ => rfl, rfl⟩⟩
noncomputable def S_impl_isValue : ByV := ⟨none, false, semF X_impl_isValue F_impl_isValue none false⟩
noncomputable def G_impl_isValue : CK := .byv S_impl_isValue
theorem sg_impl_isValue (args : List AV) : S_impl_isValue.sem args = semF X_impl_isValue F_impl_isValue none false args := rfl
theorem cl_impl_isValue (args : List AV) (hp : Hp) : callS G_impl_isValue args hp = byvS S_impl_isValue args hp := callS_byv rfl rfl args hp
theorem ok_impl_isValue : InlOk Try.prog 60 (callS G_impl_isValue) := byv_none co_impl_isValue Try.func60 r_impl_isValue rfl (fun _ _ h => h)
/- 158 slices_Index_int_int calls []  -/
def B0_slices_Index_int_int : RC :=
  .seq (.reg [⟨some 9, none, .bin .lss (.t 8) (.t 7)⟩]) (.seq (.cond (.t 9) (.skip) (.exit 0)) (.seq (.block 1 (.seq (.reg [⟨some 10, none, .mv (.t 8)⟩, ⟨some 5, none, .mv (.t 10)⟩]) (.seq (.reg [⟨some 11, none, .mv (.t 1)⟩, ⟨some 12, none, .mv (.t 0)⟩, ⟨some 13, none, .mv (.t 5)⟩, ⟨some 14, none, .ia 1 (.t 12) (.t 13)⟩, ⟨some 15, none, .ld 1 false (.t 14)⟩, ⟨some 16, none, .bin .eql (.t 11) (.t 15)⟩]) (.cond (.t 16) (.seq (.reg [⟨some 17, none, .mv (.t 5)⟩, ⟨some 4, none, .mv (.t 17)⟩]) (.ret)) (.skip))))) (.reg [⟨some 18, none, .bin .add (.t 8) (.c (.int .i64 1))⟩, ⟨some 8, none, .mv (.t 18)⟩])))
def F_slices_Index_int_int : RF := ⟨19, 2, [.t 4],
  .seq (.reg [⟨some 4, none, .mv (.c (.int .i64 0))⟩]) (.seq (.seq (.reg [⟨some 6, none, .mv (.t 0)⟩, ⟨some 7, none, .len false (.t 6)⟩, ⟨some 8, none, .mv (.c (.int .i64 0))⟩]) (.block 0 (.loop [0, 1, 7, 8] [(1, []), (0, [4])] B0_slices_Index_int_int))) (.seq (.reg [⟨some 4, none, .mv (.c (.int .i64 (-1)))⟩]) (.ret)))⟩
def K_slices_Index_int_int : Keeps := [([0, 1, 7, 8], [(1, []), (0, [4])])]
theorem r_slices_Index_int_int : resolveF Try.prog Try.f158 K_slices_Index_int_int = some F_slices_Index_int_int := by kernel_rfl
noncomputable def X_slices_Index_int_int : Ctx := fun _ => none
theorem co_slices_Index_int_int : CtxOk Try.prog X_slices_Index_int_int := CtxOk.nil
theorem cx_slices_Index_int_int : True := trivial
noncomputable def S_slices_Index_int_int : ByV := ⟨none, false, semF X_slices_Index_int_int F_slices_Index_int_int none false⟩
noncomputable def G_slices_Index_int_int : CK := .byv S_slices_Index_int_int
theorem sg_slices_Index_int_int (args : List AV) : S_slices_Index_int_int.sem args = semF X_slices_Index_int_int F_slices_Index_int_int none false args := rfl
theorem cl_slices_Index_int_int (args : List AV) (hp : Hp) : callS G_slices_Index_int_int args hp = byvS S_slices_Index_int_int args hp := callS_byv rfl rfl args hp
theorem ok_slices_Index_int_int : InlOk Try.prog 158 (callS G_slices_Index_int_int) := byv_none co_slices_Index_int_int Try.func158 r_slices_Index_int_int rfl (fun _ _ h => h)
/- 149 slices_Contains_int_int calls [slices_Index_int_int]  -/
def F_slices_Contains_int_int : RF := ⟨9, 2, [.t 4],
  .seq (.reg [⟨some 4, none, .mv (.c (.bool false))⟩]) (.seq (.reg [⟨some 5, none, .mv (.t 0)⟩, ⟨some 6, none, .mv (.t 1)⟩, ⟨some 7, none, .call 158 [(.t 5), (.t 6)]⟩, ⟨some 8, none, .bin .geq (.t 7) (.c (.int .i64 0))⟩, ⟨some 4, none, .mv (.t 8)⟩]) (.ret))⟩
def K_slices_Contains_int_int : Keeps := []
theorem r_slices_Contains_int_int : resolveF Try.prog Try.f149 K_slices_Contains_int_int = some F_slices_Contains_int_int := by kernel_rfl
noncomputable def X_slices_Contains_int_int : Ctx := Ctx.cons 158 G_slices_Index_int_int (fun _ => none)
theorem co_slices_Contains_int_int : CtxOk Try.prog X_slices_Contains_int_int := CtxOk.cons (CtxOk.nil) ok_slices_Index_int_int
theorem cx_slices_Contains_int_int : ((∀ args hp, callX X_slices_Contains_int_int 158 args hp = callS G_slices_Index_int_int args hp) ∧ (trC (X_slices_Contains_int_int 158) = false)) := ⟨fun _ _ => rfl, rfl⟩
noncomputable def S_slices_Contains_int_int : ByV := ⟨none, false, semF X_slices_Contains_int_int F_slices_Contains_int_int none false⟩
noncomputable def G_slices_Contains_int_int : CK := .byv S_slices_Contains_int_int
theorem sg_slices_Contains_int_int (args : List AV) : S_slices_Contains_int_int.sem args = semF X_slices_Contains_int_int F_slices_Contains_int_int none false args := rfl
theorem cl_slices_Contains_int_int (args : List AV) (hp : Hp) : callS G_slices_Contains_int_int args hp = byvS S_slices_Contains_int_int args hp := callS_byv rfl rfl args hp
theorem ok_slices_Contains_int_int : InlOk Try.prog 149 (callS G_slices_Contains_int_int) := byv_none co_slices_Contains_int_int Try.func149 r_slices_Contains_int_int rfl (fun _ _ h => h)
/- 159 impl_isStatement calls [impl_isNode, impl_within]  -/
def F_impl_isStatement : RF := ⟨17, 2, [.t 4],
  .seq (.reg [⟨some 2, none, .box (.t 0)⟩, ⟨some 4, none, .mv (.c (.bool false))⟩]) (.seq (.reg [⟨some 5, none, .ld 3 true (.t 2)⟩, ⟨some 6, none, .mv (.t 1)⟩, ⟨some 7, none, .call 109 [(.t 5), (.t 6)]⟩, ⟨some 8, none, .mv (.t 7)⟩, ⟨some 9, some (8, true), .fa 0 (.t 2)⟩, ⟨some 10, some (8, true), .ld 1 false (.t 9)⟩, ⟨some 11, some (8, true), .mv (.t 1)⟩, ⟨some 12, some (8, true), .ia 6 (.t 10) (.t 11)⟩, ⟨some 13, some (8, true), .fa 0 (.t 12)⟩, ⟨some 14, some (8, true), .ld 1 false (.t 13)⟩, ⟨some 15, some (8, true), .call 94 [(.t 14), (.c (.int .i64 11)), (.c (.int .i64 19))]⟩, ⟨some 16, none, .pick (.t 8) (.t 15) (.c (.bool false))⟩, ⟨some 4, none, .mv (.t 16)⟩]) (.ret))⟩
def K_impl_isStatement : Keeps := []
theorem r_impl_isStatement : resolveF Try.prog Try.f159 K_impl_isStatement = some F_impl_isStatement := by kernel_rfl
noncomputable def X_impl_isStatement : Ctx := Ctx.cons 109 G_impl_isNode (Ctx.cons 94 G_impl_within (fun _ => none))
theorem co_impl_isStatement : CtxOk Try.prog X_impl_isStatement := CtxOk.cons (CtxOk.cons (CtxOk.nil) ok_impl_within) ok_impl_isNode
theorem cx_impl_isStatement : ((∀ args hp, callX X_impl_isStatement 109 args hp = callS G_impl_isNode args hp) ∧ (trC (X_impl_isStatement 109) = false)) ∧ ((∀ args hp, callX X_impl_isStatement 94 args hp = callS G_impl_within args hp) ∧ (trC (X_impl_isStatement 94) = false)) := ⟨⟨fun _ _ => rfl, rfl⟩, ⟨fun _ _ => rfl, rfl⟩⟩
noncomputable def S_impl_isStatement : ByV := ⟨none, false, semF X_impl_isStatement F_impl_isStatement none false⟩
noncomputable def G_impl_isStatement : CK := .byv S_impl_isStatement
theorem sg_impl_isStatement (args : List AV) : S_impl_isStatement.sem args = semF X_impl_isStatement F_impl_isStatement none false args := rfl
theorem cl_impl_isStatement (args : List AV) (hp : Hp) : callS G_impl_isStatement args hp = byvS S_impl_isStatement args hp := callS_byv rfl rfl args hp
theorem ok_impl_isStatement : InlOk Try.prog 159 (callS G_impl_isStatement) := byv_none co_impl_isStatement Try.func159 r_impl_isStatement rfl (fun _ _ h => h)
/- 160 impl_isBlock calls [impl_isNode]  -/
def F_impl_isBlock : RF := ⟨17, 2, [.t 4],
  .seq (.reg [⟨some 2, none, .box (.t 0)⟩, ⟨some 4, none, .mv (.c (.bool false))⟩]) (.seq (.reg [⟨some 5, none, .ld 3 true (.t 2)⟩, ⟨some 6, none, .mv (.t 1)⟩, ⟨some 7, none, .call 109 [(.t 5), (.t 6)]⟩, ⟨some 8, none, .mv (.t 7)⟩, ⟨some 9, some (8, true), .fa 0 (.t 2)⟩, ⟨some 10, some (8, true), .ld 1 false (.t 9)⟩, ⟨some 11, some (8, true), .mv (.t 1)⟩, ⟨some 12, some (8, true), .ia 6 (.t 10) (.t 11)⟩, ⟨some 13, some (8, true), .fa 0 (.t 12)⟩, ⟨some 14, some (8, true), .ld 1 false (.t 13)⟩, ⟨some 15, some (8, true), .bin .eql (.t 14) (.c (.int .i64 20))⟩, ⟨some 16, none, .pick (.t 8) (.t 15) (.c (.bool false))⟩, ⟨some 4, none, .mv (.t 16)⟩]) (.ret))⟩
def K_impl_isBlock : Keeps := []
theorem r_impl_isBlock : resolveF Try.prog Try.f160 K_impl_isBlock = some F_impl_isBlock := by kernel_rfl
noncomputable def X_impl_isBlock : Ctx := Ctx.cons 109 G_impl_isNode (fun _ => none)
theorem co_impl_isBlock : CtxOk Try.prog X_impl_isBlock := CtxOk.cons (CtxOk.nil) ok_impl_isNode
theorem cx_impl_isBlock : ((∀ args hp, callX X_impl_isBlock 109 args hp = callS G_impl_isNode args hp) ∧ (trC (X_impl_isBlock 109) = false)) := ⟨fun _ _ => rfl, rfl⟩
noncomputable def S_impl_isBlock : ByV := ⟨none, false, semF X_impl_isBlock F_impl_isBlock none false⟩
noncomputable def G_impl_isBlock : CK := .byv S_impl_isBlock
theorem sg_impl_isBlock (args : List AV) : S_impl_isBlock.sem args = semF X_impl_isBlock F_impl_isBlock none false args := rfl
theorem cl_impl_isBlock (args : List AV) (hp : Hp) : callS G_impl_isBlock args hp = byvS S_impl_isBlock args hp := callS_byv rfl rfl args hp
theorem ok_impl_isBlock : InlOk Try.prog 160 (callS G_impl_isBlock) := byv_none co_impl_isBlock Try.func160 r_impl_isBlock rfl (fun _ _ h => h)
/- 150 impl_kidsOk calls [impl_within, impl_isStatement, impl_isValue, impl_isBlock]  -/
def B0_impl_kidsOk : RC :=
  .seq (.reg [⟨some 38, none, .bin .lss (.t 37) (.t 36)⟩]) (.seq (.cond (.t 38) (.skip) (.exit 1)) (.seq (.block 2 (.seq (.reg [⟨some 39, none, .ia 1 (.t 35) (.t 37)⟩, ⟨some 40, none, .ld 1 false (.t 39)⟩, ⟨some 8, none, .mv (.t 40)⟩]) (.seq (.reg [⟨some 41, none, .ld 3 true (.t 2)⟩, ⟨some 42, none, .mv (.t 8)⟩, ⟨some 43, none, .call 159 [(.t 41), (.t 42)]⟩, ⟨some 44, none, .un .not (.t 43)⟩]) (.cond (.t 44) (.seq (.reg [⟨some 4, none, .mv (.c (.bool false))⟩]) (.ret)) (.skip))))) (.reg [⟨some 45, none, .bin .add (.t 37) (.c (.int .i64 1))⟩, ⟨some 37, none, .mv (.t 45)⟩])))
def B1_impl_kidsOk : RC :=
  .seq (.reg [⟨some 61, none, .bin .lss (.t 60) (.t 59)⟩]) (.seq (.cond (.t 61) (.skip) (.exit 3)) (.seq (.block 4 (.seq (.reg [⟨some 62, none, .mv (.t 60)⟩, ⟨some 63, none, .ia 1 (.t 58) (.t 60)⟩, ⟨some 64, none, .ld 1 false (.t 63)⟩, ⟨some 9, none, .mv (.t 62)⟩, ⟨some 10, none, .mv (.t 64)⟩]) (.seq (.reg [⟨some 65, none, .mv (.t 9)⟩, ⟨some 66, none, .mv (.t 5)⟩, ⟨some 67, none, .bin .lss (.t 65) (.t 66)⟩, ⟨some 68, none, .mv (.t 67)⟩, ⟨some 69, some (68, true), .ld 3 true (.t 2)⟩, ⟨some 70, some (68, true), .mv (.t 10)⟩, ⟨some 71, some (68, true), .call 60 [(.t 69), (.t 70)]⟩, ⟨some 72, some (68, true), .un .not (.t 71)⟩, ⟨some 73, none, .pick (.t 68) (.t 72) (.c (.bool false))⟩, ⟨some 74, none, .mv (.t 73)⟩, ⟨some 75, some (74, false), .mv (.t 9)⟩, ⟨some 76, some (74, false), .mv (.t 5)⟩, ⟨some 77, some (74, false), .bin .geq (.t 75) (.t 76)⟩, ⟨some 78, some (74, false), .mv (.t 77)⟩, ⟨some 79, some (78, true), .ld 3 true (.t 2)⟩, ⟨some 80, some (78, true), .mv (.t 10)⟩, ⟨some 81, some (78, true), .call 160 [(.t 79), (.t 80)]⟩, ⟨some 82, some (78, true), .un .not (.t 81)⟩, ⟨some 83, some (74, false), .pick (.t 78) (.t 82) (.c (.bool false))⟩, ⟨some 84, none, .pick (.t 74) (.c (.bool true)) (.t 83)⟩]) (.cond (.t 84) (.seq (.reg [⟨some 4, none, .mv (.c (.bool false))⟩]) (.ret)) (.skip))))) (.reg [⟨some 85, none, .bin .add (.t 60) (.c (.int .i64 1))⟩, ⟨some 60, none, .mv (.t 85)⟩])))
def F_impl_kidsOk : RF := ⟨86, 2, [.t 4],
  .seq (.reg [⟨some 2, none, .box (.t 0)⟩, ⟨some 3, none, .box (.t 1)⟩, ⟨some 4, none, .mv (.c (.bool false))⟩]) (.seq (.reg [⟨some 5, none, .mv (.c (.int .i64 0))⟩, ⟨some 6, none, .mv (.c (.int .i64 0))⟩]) (.seq (.seq (.reg [⟨some 11, none, .fa 0 (.t 3)⟩, ⟨some 12, none, .ld 1 false (.t 11)⟩]) (.block 0 (.seq (.reg [⟨some 14, none, .bin .eql (.t 12) (.c (.int .i64 3))⟩, ⟨some 13, none, .mv (.t 14)⟩]) (.cond (.t 13) (.reg [⟨some 5, none, .mv (.c (.int .i64 2))⟩]) (.seq (.seq (.reg [⟨some 16, none, .bin .eql (.t 12) (.c (.int .i64 4))⟩, ⟨some 15, none, .mv (.t 16)⟩]) (.cond (.t 15) (.skip) (.seq (.reg [⟨some 17, none, .bin .eql (.t 12) (.c (.int .i64 5))⟩, ⟨some 15, none, .mv (.t 17)⟩]) (.cond (.t 15) (.skip) (.seq (.reg [⟨some 18, none, .bin .eql (.t 12) (.c (.int .i64 11))⟩, ⟨some 15, none, .mv (.t 18)⟩]) (.cond (.t 15) (.skip) (.seq (.reg [⟨some 19, none, .bin .eql (.t 12) (.c (.int .i64 14))⟩, ⟨some 15, none, .mv (.t 19)⟩]) (.cond (.t 15) (.skip) (.reg [⟨some 20, none, .bin .eql (.t 12) (.c (.int .i64 15))⟩, ⟨some 15, none, .mv (.t 20)⟩]))))))))) (.cond (.t 15) (.reg [⟨some 5, none, .mv (.c (.int .i64 1))⟩]) (.seq (.reg [⟨some 22, none, .bin .eql (.t 12) (.c (.int .i64 12))⟩, ⟨some 21, none, .mv (.t 22)⟩]) (.cond (.t 21) (.seq (.regd [(0, ⟨some 23, none, .fa 5 (.t 3)⟩), (1, ⟨some 24, none, .ld 1 false (.t 23)⟩), (0, ⟨some 25, none, .len false (.t 24)⟩), (0, ⟨some 26, none, .bin .sub (.t 25) (.c (.int .i64 1))⟩), (0, ⟨some 5, none, .mv (.c (.int .i64 1))⟩), (0, ⟨some 6, none, .mv (.t 26)⟩)] []) (.seq (.reg [⟨some 27, none, .mv (.t 6)⟩, ⟨some 28, none, .call 94 [(.t 27), (.c (.int .i64 1)), (.c (.int .i64 2))]⟩, ⟨some 29, none, .un .not (.t 28)⟩]) (.cond (.t 29) (.seq (.reg [⟨some 4, none, .mv (.c (.bool false))⟩]) (.ret)) (.skip)))) (.seq (.reg [⟨some 31, none, .bin .eql (.t 12) (.c (.int .i64 13))⟩, ⟨some 30, none, .mv (.t 31)⟩]) (.cond (.t 30) (.reg [⟨some 5, none, .mv (.c (.int .i64 1))⟩, ⟨some 6, none, .mv (.c (.int .i64 1))⟩]) (.seq (.reg [⟨some 33, none, .bin .eql (.t 12) (.c (.int .i64 20))⟩, ⟨some 32, none, .mv (.t 33)⟩]) (.cond (.t 32) (.seq (.seq (.reg [⟨some 34, none, .fa 5 (.t 3)⟩, ⟨some 35, none, .ld 1 false (.t 34)⟩, ⟨some 36, none, .len false (.t 35)⟩, ⟨some 37, none, .mv (.c (.int .i64 0))⟩]) (.block 1 (.loop [2, 3, 35, 36, 37] [(2, [3]), (0, [4])] B0_impl_kidsOk))) (.seq (.reg [⟨some 46, none, .fa 5 (.t 3)⟩, ⟨some 47, none, .ld 1 false (.t 46)⟩, ⟨some 48, none, .len false (.t 47)⟩, ⟨some 49, none, .call 94 [(.t 48), (.c (.int .i64 1)), (.c (.int .i64 12))]⟩, ⟨some 4, none, .mv (.t 49)⟩]) (.ret))) (.skip))))))))))))) (.seq (.seq (.reg [⟨some 50, none, .fa 5 (.t 3)⟩, ⟨some 51, none, .ld 1 false (.t 50)⟩, ⟨some 52, none, .len false (.t 51)⟩, ⟨some 53, none, .mv (.t 5)⟩, ⟨some 54, none, .mv (.t 6)⟩, ⟨some 55, none, .bin .add (.t 53) (.t 54)⟩, ⟨some 56, none, .bin .neq (.t 52) (.t 55)⟩]) (.cond (.t 56) (.seq (.reg [⟨some 4, none, .mv (.c (.bool false))⟩]) (.ret)) (.skip))) (.seq (.seq (.reg [⟨some 57, none, .fa 5 (.t 3)⟩, ⟨some 58, none, .ld 1 false (.t 57)⟩, ⟨some 59, none, .len false (.t 58)⟩, ⟨some 60, none, .mv (.c (.int .i64 0))⟩]) (.block 3 (.loop [2, 5, 58, 59, 60] [(4, []), (0, [4])] B1_impl_kidsOk))) (.seq (.reg [⟨some 4, none, .mv (.c (.bool true))⟩]) (.ret))))))⟩
def K_impl_kidsOk : Keeps := [([2, 3, 35, 36, 37], [(2, [3]), (0, [4])]), ([2, 5, 58, 59, 60], [(4, []), (0, [4])])]
theorem r_impl_kidsOk : resolveF Try.prog Try.f150 K_impl_kidsOk = some F_impl_kidsOk := by kernel_rfl
noncomputable def X_impl_kidsOk : Ctx := Ctx.cons 94 G_impl_within (Ctx.cons 159 G_impl_isStatement (Ctx.cons 60 G_impl_isValue (Ctx.cons 160 G_impl_isBlock (fun _ => none))))
theorem co_impl_kidsOk : CtxOk Try.prog X_impl_kidsOk := CtxOk.cons (CtxOk.cons (CtxOk.cons (CtxOk.cons (CtxOk.nil) ok_impl_isBlock) ok_impl_isValue) ok_impl_isStatement) ok_impl_within
theorem cx_impl_kidsOk : ((∀ args hp, callX X_impl_kidsOk 94 args hp = callS G_impl_within args hp) ∧ (trC (X_impl_kidsOk 94) = false)) ∧ ((∀ args hp, callX X_impl_kidsOk 159 args hp = callS G_impl_isStatement args hp) ∧ (trC (X_impl_kidsOk 159) = false)) ∧ ((∀ args hp, callX X_impl_kidsOk 60 args hp = callS G_impl_isValue args hp) ∧ (trC (X_impl_kidsOk 60) = false)) ∧ ((∀ args hp, callX X_impl_kidsOk 160 args hp = callS G_impl_isBlock args hp) ∧ (trC (X_impl_kidsOk 160) = false)) := ⟨⟨fun _ _ => rfl, rfl⟩, ⟨fun _ _ => rfl, rfl⟩, ⟨fun _ _ => rfl, rfl⟩, ⟨fun _ _ => rfl, rfl⟩⟩
noncomputable def S_impl_kidsOk : ByV := ⟨none, false, semF X_impl_kidsOk F_impl_kidsOk none false⟩
noncomputable def G_impl_kidsOk : CK := .byv S_impl_kidsOk
theorem sg_impl_kidsOk (args : List AV) : S_impl_kidsOk.sem args = semF X_impl_kidsOk F_impl_kidsOk none false args := rfl
theorem cl_impl_kidsOk (args : List AV) (hp : Hp) : callS G_impl_kidsOk args hp = byvS S_impl_kidsOk args hp := callS_byv rfl rfl args hp
theorem ok_impl_kidsOk : InlOk Try.prog 150 (callS G_impl_kidsOk) := byv_none co_impl_kidsOk Try.func150 r_impl_kidsOk rfl (fun _ _ h => h)
/- 164 impl_letter calls []  -/
def F_impl_letter : RF := ⟨9, 1, [.t 2],
  .seq (.reg [⟨some 2, none, .mv (.c (.bool false))⟩]) (.seq (.reg [⟨some 3, none, .mv (.t 0)⟩, ⟨some 4, none, .bin .geq (.t 3) (.c (.int .u8 97))⟩, ⟨some 5, none, .mv (.t 4)⟩, ⟨some 6, some (5, true), .mv (.t 0)⟩, ⟨some 7, some (5, true), .bin .leq (.t 6) (.c (.int .u8 122))⟩, ⟨some 8, none, .pick (.t 5) (.t 7) (.c (.bool false))⟩, ⟨some 2, none, .mv (.t 8)⟩]) (.ret))⟩
def K_impl_letter : Keeps := []
theorem r_impl_letter : resolveF Try.prog Try.f164 K_impl_letter = some F_impl_letter := by kernel_rfl
noncomputable def X_impl_letter : Ctx := fun _ => none
theorem co_impl_letter : CtxOk Try.prog X_impl_letter := CtxOk.nil
theorem cx_impl_letter : True := trivial
noncomputable def S_impl_letter : ByV := ⟨none, false, semF X_impl_letter F_impl_letter none false⟩
noncomputable def G_impl_letter : CK := .byv S_impl_letter
theorem sg_impl_letter (args : List AV) : S_impl_letter.sem args = semF X_impl_letter F_impl_letter none false args := rfl
theorem cl_impl_letter (args : List AV) (hp : Hp) : callS G_impl_letter args hp = byvS S_impl_letter args hp := callS_byv rfl rfl args hp
theorem ok_impl_letter : InlOk Try.prog 164 (callS G_impl_letter) := byv_none co_impl_letter Try.func164 r_impl_letter rfl (fun _ _ h => h)
/- 163 impl_run calls [impl_letter]  -/
def B0_impl_run : RC :=
  .seq (.seq (.reg [⟨some 7, none, .mv (.t 1)⟩, ⟨some 8, none, .mv (.t 0)⟩, ⟨some 9, none, .len true (.t 8)⟩, ⟨some 10, none, .bin .lss (.t 7) (.t 9)⟩, ⟨some 11, none, .mv (.t 10)⟩, ⟨some 12, some (11, true), .mv (.t 2)⟩, ⟨some 13, some (11, true), .mv (.t 0)⟩, ⟨some 14, some (11, true), .mv (.t 1)⟩, ⟨some 15, some (11, true), .ix (.t 13) (.t 14)⟩, ⟨some 16, some (11, true), .callv (.t 12) [(.t 15)]⟩, ⟨some 17, none, .pick (.t 11) (.t 16) (.c (.bool false))⟩]) (.cond (.t 17) (.skip) (.exit 0))) (.block 1 (.reg [⟨some 18, none, .mv (.t 1)⟩, ⟨some 19, none, .bin .add (.t 18) (.c (.int .i64 1))⟩, ⟨some 1, none, .mv (.t 19)⟩]))
def F_impl_run : RF := ⟨21, 3, [.t 6],
  .seq (.reg [⟨some 6, none, .mv (.c (.int .i64 0))⟩]) (.seq (.block 0 (.loop [0, 1, 2] [(1, [1])] B0_impl_run)) (.seq (.reg [⟨some 20, none, .mv (.t 1)⟩, ⟨some 6, none, .mv (.t 20)⟩]) (.ret)))⟩
def K_impl_run : Keeps := [([0, 1, 2], [(1, [1])])]
theorem r_impl_run : resolveF Try.prog Try.f163 K_impl_run = some F_impl_run := by kernel_rfl
noncomputable def X_impl_run : Ctx := Ctx.cons 164 G_impl_letter (fun _ => none)
theorem co_impl_run : CtxOk Try.prog X_impl_run := CtxOk.cons (CtxOk.nil) ok_impl_letter
theorem cx_impl_run : ((∀ args hp, callX X_impl_run 164 args hp = callS G_impl_letter args hp) ∧ (trC (X_impl_run 164) = false)) := ⟨fun _ _ => rfl, rfl⟩
noncomputable def S_impl_run : ByV := ⟨none, false, semF X_impl_run F_impl_run none false⟩
noncomputable def G_impl_run : CK := .byv S_impl_run
theorem sg_impl_run (args : List AV) : S_impl_run.sem args = semF X_impl_run F_impl_run none false args := rfl
theorem cl_impl_run (args : List AV) (hp : Hp) : callS G_impl_run args hp = byvS S_impl_run args hp := callS_byv rfl rfl args hp
theorem ok_impl_run : InlOk Try.prog 163 (callS G_impl_run) := byv_none co_impl_run Try.func163 r_impl_run rfl (fun _ _ h => h)
/- 116 slices_Index_string_string calls []  -/
def B0_slices_Index_string_string : RC :=
  .seq (.reg [⟨some 9, none, .bin .lss (.t 8) (.t 7)⟩]) (.seq (.cond (.t 9) (.skip) (.exit 0)) (.seq (.block 1 (.seq (.reg [⟨some 10, none, .mv (.t 8)⟩, ⟨some 5, none, .mv (.t 10)⟩]) (.seq (.reg [⟨some 11, none, .mv (.t 1)⟩, ⟨some 12, none, .mv (.t 0)⟩, ⟨some 13, none, .mv (.t 5)⟩, ⟨some 14, none, .ia 1 (.t 12) (.t 13)⟩, ⟨some 15, none, .ld 1 false (.t 14)⟩, ⟨some 16, none, .bin .eql (.t 11) (.t 15)⟩]) (.cond (.t 16) (.seq (.reg [⟨some 17, none, .mv (.t 5)⟩, ⟨some 4, none, .mv (.t 17)⟩]) (.ret)) (.skip))))) (.reg [⟨some 18, none, .bin .add (.t 8) (.c (.int .i64 1))⟩, ⟨some 8, none, .mv (.t 18)⟩])))
def F_slices_Index_string_string : RF := ⟨19, 2, [.t 4],
  .seq (.reg [⟨some 4, none, .mv (.c (.int .i64 0))⟩]) (.seq (.seq (.reg [⟨some 6, none, .mv (.t 0)⟩, ⟨some 7, none, .len false (.t 6)⟩, ⟨some 8, none, .mv (.c (.int .i64 0))⟩]) (.block 0 (.loop [0, 1, 7, 8] [(1, []), (0, [4])] B0_slices_Index_string_string))) (.seq (.reg [⟨some 4, none, .mv (.c (.int .i64 (-1)))⟩]) (.ret)))⟩
def K_slices_Index_string_string : Keeps := [([0, 1, 7, 8], [(1, []), (0, [4])])]
theorem r_slices_Index_string_string : resolveF Try.prog Try.f116 K_slices_Index_string_string = some F_slices_Index_string_string := by kernel_rfl
noncomputable def X_slices_Index_string_string : Ctx := fun _ => none
theorem co_slices_Index_string_string : CtxOk Try.prog X_slices_Index_string_string := CtxOk.nil
theorem cx_slices_Index_string_string : True := trivial
noncomputable def S_slices_Index_string_string : ByV := ⟨none, false, semF X_slices_Index_string_string F_slices_Index_string_string none false⟩
noncomputable def G_slices_Index_string_string : CK := .byv S_slices_Index_string_string
theorem sg_slices_Index_string_string (args : List AV) : S_slices_Index_string_string.sem args = semF X_slices_Index_string_string F_slices_Index_string_string none false args := rfl
theorem cl_slices_Index_string_string (args : List AV) (hp : Hp) : callS G_slices_Index_string_string args hp = byvS S_slices_Index_string_string args hp := callS_byv rfl rfl args hp
theorem ok_slices_Index_string_string : InlOk Try.prog 116 (callS G_slices_Index_string_string) := byv_none co_slices_Index_string_string Try.func116 r_slices_Index_string_string rfl (fun _ _ h => h)
/- 166 slices_Contains_string_string calls [slices_Index_string_string]  -/
def F_slices_Contains_string_string : RF := ⟨9, 2, [.t 4],
  .seq (.reg [⟨some 4, none, .mv (.c (.bool false))⟩]) (.seq (.reg [⟨some 5, none, .mv (.t 0)⟩, ⟨some 6, none, .mv (.t 1)⟩, ⟨some 7, none, .call 116 [(.t 5), (.t 6)]⟩, ⟨some 8, none, .bin .geq (.t 7) (.c (.int .i64 0))⟩, ⟨some 4, none, .mv (.t 8)⟩]) (.ret))⟩
def K_slices_Contains_string_string : Keeps := []
theorem r_slices_Contains_string_string : resolveF Try.prog Try.f166 K_slices_Contains_string_string = some F_slices_Contains_string_string := by kernel_rfl
noncomputable def X_slices_Contains_string_string : Ctx := Ctx.cons 116 G_slices_Index_string_string (fun _ => none)
theorem co_slices_Contains_string_string : CtxOk Try.prog X_slices_Contains_string_string := CtxOk.cons (CtxOk.nil) ok_slices_Index_string_string
theorem cx_slices_Contains_string_string : ((∀ args hp, callX X_slices_Contains_string_string 116 args hp = callS G_slices_Index_string_string args hp) ∧ (trC (X_slices_Contains_string_string 116) = false)) := ⟨fun _ _ => rfl, rfl⟩
noncomputable def S_slices_Contains_string_string : ByV := ⟨none, false, semF X_slices_Contains_string_string F_slices_Contains_string_string none false⟩
noncomputable def G_slices_Contains_string_string : CK := .byv S_slices_Contains_string_string
theorem sg_slices_Contains_string_string (args : List AV) : S_slices_Contains_string_string.sem args = semF X_slices_Contains_string_string F_slices_Contains_string_string none false args := rfl
theorem cl_slices_Contains_string_string (args : List AV) (hp : Hp) : callS G_slices_Contains_string_string args hp = byvS S_slices_Contains_string_string args hp := callS_byv rfl rfl args hp
theorem ok_slices_Contains_string_string : InlOk Try.prog 166 (callS G_slices_Contains_string_string) := byv_none co_slices_Contains_string_string Try.func166 r_slices_Contains_string_string rfl (fun _ _ h => h)
/- 165 impl_KeyWord calls [slices_Contains_string_string]  -/
def F_impl_KeyWord : RF := ⟨8, 1, [.t 2],
  .seq (.reg [⟨some 2, none, .mv (.c (.bool false))⟩]) (.seq (.reg [⟨some 4, none, .bsl 1 [(.c (.str ⟨#[109, 111, 110, 105, 116, 111, 114]⟩)), (.c (.str ⟨#[118, 97, 114]⟩)), (.c (.str ⟨#[113, 117, 101, 117, 101]⟩)), (.c (.str ⟨#[101, 110, 116, 114, 121]⟩)), (.c (.str ⟨#[112, 114, 111, 99, 101, 115, 115]⟩)), (.c (.str ⟨#[117, 115, 101, 115]⟩)), (.c (.str ⟨#[98, 101, 103, 105, 110]⟩)), (.c (.str ⟨#[101, 110, 100]⟩)), (.c (.str ⟨#[105, 102]⟩)), (.c (.str ⟨#[116, 104, 101, 110]⟩)), (.c (.str ⟨#[101, 108, 115, 101]⟩)), (.c (.str ⟨#[119, 104, 105, 108, 101]⟩)), (.c (.str ⟨#[100, 111]⟩)), (.c (.str ⟨#[99, 97, 108, 108]⟩)), (.c (.str ⟨#[116, 111]⟩)), (.c (.str ⟨#[112, 114, 105, 110, 116]⟩)), (.c (.str ⟨#[114, 101, 97, 100]⟩)), (.c (.str ⟨#[100, 101, 108, 97, 121]⟩)), (.c (.str ⟨#[99, 111, 110, 116, 105, 110, 117, 101]⟩)), (.c (.str ⟨#[115, 107, 105, 112]⟩)), (.c (.str ⟨#[97, 110, 100]⟩)), (.c (.str ⟨#[111, 114]⟩)), (.c (.str ⟨#[110, 111, 116]⟩))]⟩, ⟨some 3, none, .mv (.t 4)⟩]) (.seq (.reg [⟨some 5, none, .mv (.t 3)⟩, ⟨some 6, none, .mv (.t 0)⟩, ⟨some 7, none, .call 166 [(.t 5), (.t 6)]⟩, ⟨some 2, none, .mv (.t 7)⟩]) (.ret)))⟩
def K_impl_KeyWord : Keeps := []
theorem r_impl_KeyWord : resolveF Try.prog Try.f165 K_impl_KeyWord = some F_impl_KeyWord := by kernel_rfl
noncomputable def X_impl_KeyWord : Ctx := Ctx.cons 166 G_slices_Contains_string_string (fun _ => none)
theorem co_impl_KeyWord : CtxOk Try.prog X_impl_KeyWord := CtxOk.cons (CtxOk.nil) ok_slices_Contains_string_string
theorem cx_impl_KeyWord : ((∀ args hp, callX X_impl_KeyWord 166 args hp = callS G_slices_Contains_string_string args hp) ∧ (trC (X_impl_KeyWord 166) = false)) := ⟨fun _ _ => rfl, rfl⟩
noncomputable def S_impl_KeyWord : ByV := ⟨none, false, semF X_impl_KeyWord F_impl_KeyWord none false⟩
noncomputable def G_impl_KeyWord : CK := .byv S_impl_KeyWord
theorem sg_impl_KeyWord (args : List AV) : S_impl_KeyWord.sem args = semF X_impl_KeyWord F_impl_KeyWord none false args := rfl
theorem cl_impl_KeyWord (args : List AV) (hp : Hp) : callS G_impl_KeyWord args hp = byvS S_impl_KeyWord args hp := callS_byv rfl rfl args hp
theorem ok_impl_KeyWord : InlOk Try.prog 165 (callS G_impl_KeyWord) := byv_none co_impl_KeyWord Try.func165 r_impl_KeyWord rfl (fun _ _ h => h)
/- 161 impl_NameOk calls [impl_within, impl_run, impl_KeyWord]  -/
def F_impl_NameOk : RF := ⟨18, 1, [.t 2],
  .seq (.reg [⟨some 2, none, .mv (.c (.bool false))⟩]) (.seq (.reg [⟨some 3, none, .mv (.t 0)⟩, ⟨some 4, none, .len true (.t 3)⟩, ⟨some 5, none, .call 94 [(.t 4), (.c (.int .i64 1)), (.c (.int .i64 8))]⟩, ⟨some 6, none, .mv (.t 5)⟩, ⟨some 7, some (6, true), .mv (.t 0)⟩, ⟨some 8, some (6, true), .call 163 [(.t 7), (.c (.int .i64 0)), (.fn 164)]⟩, ⟨some 9, some (6, true), .mv (.t 0)⟩, ⟨some 10, some (6, true), .len true (.t 9)⟩, ⟨some 11, some (6, true), .bin .eql (.t 8) (.t 10)⟩, ⟨some 12, none, .pick (.t 6) (.t 11) (.c (.bool false))⟩, ⟨some 13, none, .mv (.t 12)⟩, ⟨some 14, some (13, true), .mv (.t 0)⟩, ⟨some 15, some (13, true), .call 165 [(.t 14)]⟩, ⟨some 16, some (13, true), .un .not (.t 15)⟩, ⟨some 17, none, .pick (.t 13) (.t 16) (.c (.bool false))⟩, ⟨some 2, none, .mv (.t 17)⟩]) (.ret))⟩
def K_impl_NameOk : Keeps := []
theorem r_impl_NameOk : resolveF Try.prog Try.f161 K_impl_NameOk = some F_impl_NameOk := by kernel_rfl
noncomputable def X_impl_NameOk : Ctx := Ctx.cons 94 G_impl_within (Ctx.cons 163 G_impl_run (Ctx.cons 165 G_impl_KeyWord (fun _ => none)))
theorem co_impl_NameOk : CtxOk Try.prog X_impl_NameOk := CtxOk.cons (CtxOk.cons (CtxOk.cons (CtxOk.nil) ok_impl_KeyWord) ok_impl_run) ok_impl_within
theorem cx_impl_NameOk : ((∀ args hp, callX X_impl_NameOk 94 args hp = callS G_impl_within args hp) ∧ (trC (X_impl_NameOk 94) = false)) ∧ ((∀ args hp, callX X_impl_NameOk 163 args hp = callS G_impl_run args hp) ∧ (trC (X_impl_NameOk 163) = false)) ∧ ((∀ args hp, callX X_impl_NameOk 165 args hp = callS G_impl_KeyWord args hp) ∧ (trC (X_impl_NameOk 165) = false)) := ⟨⟨fun _ _ => rfl, rfl⟩, ⟨fun _ _ => rfl, rfl⟩, ⟨fun _ _ => rfl, rfl⟩⟩
noncomputable def S_impl_NameOk : ByV := ⟨none, false, semF X_impl_NameOk F_impl_NameOk none false⟩
noncomputable def G_impl_NameOk : CK := .byv S_impl_NameOk
theorem sg_impl_NameOk (args : List AV) : S_impl_NameOk.sem args = semF X_impl_NameOk F_impl_NameOk none false args := rfl
theorem cl_impl_NameOk (args : List AV) (hp : Hp) : callS G_impl_NameOk args hp = byvS S_impl_NameOk args hp := callS_byv rfl rfl args hp
theorem ok_impl_NameOk : InlOk Try.prog 161 (callS G_impl_NameOk) := byv_none co_impl_NameOk Try.func161 r_impl_NameOk rfl (fun _ _ h => h)
/- 151 impl_namesOk calls [impl_NameOk, impl_within]  -/
def F_impl_namesOk : RF := ⟨77, 1, [.t 2],
  .seq (.reg [⟨some 1, none, .box (.t 0)⟩, ⟨some 2, none, .mv (.c (.bool false))⟩]) (.seq (.regd [(0, ⟨some 7, none, .fa 4 (.t 1)⟩), (1, ⟨some 8, none, .ld 1 false (.t 7)⟩), (0, ⟨some 9, none, .bin .eql (.t 8) (.c (.str ⟨#[]⟩))⟩), (0, ⟨some 3, none, .mv (.c (.bool false))⟩), (0, ⟨some 4, none, .mv (.c (.bool false))⟩), (0, ⟨some 5, none, .mv (.t 9)⟩)] []) (.seq (.reg [⟨some 10, none, .fa 1 (.t 1)⟩, ⟨some 11, none, .ld 1 false (.t 10)⟩, ⟨some 12, none, .bin .eql (.t 11) (.c (.int .i64 0))⟩, ⟨some 6, none, .mv (.t 12)⟩]) (.seq (.seq (.reg [⟨some 13, none, .fa 0 (.t 1)⟩, ⟨some 14, none, .ld 1 false (.t 13)⟩]) (.block 0 (.seq (.seq (.reg [⟨some 16, none, .bin .eql (.t 14) (.c (.int .i64 2))⟩, ⟨some 15, none, .mv (.t 16)⟩]) (.cond (.t 15) (.skip) (.seq (.reg [⟨some 17, none, .bin .eql (.t 14) (.c (.int .i64 11))⟩, ⟨some 15, none, .mv (.t 17)⟩]) (.cond (.t 15) (.skip) (.seq (.reg [⟨some 18, none, .bin .eql (.t 14) (.c (.int .i64 16))⟩, ⟨some 15, none, .mv (.t 18)⟩]) (.cond (.t 15) (.skip) (.seq (.reg [⟨some 19, none, .bin .eql (.t 14) (.c (.int .i64 17))⟩, ⟨some 15, none, .mv (.t 19)⟩]) (.cond (.t 15) (.skip) (.reg [⟨some 20, none, .bin .eql (.t 14) (.c (.int .i64 18))⟩, ⟨some 15, none, .mv (.t 20)⟩]))))))))) (.cond (.t 15) (.reg [⟨some 3, none, .mv (.c (.bool true))⟩]) (.seq (.reg [⟨some 22, none, .bin .eql (.t 14) (.c (.int .i64 14))⟩, ⟨some 21, none, .mv (.t 22)⟩]) (.cond (.t 21) (.seq (.reg [⟨some 3, none, .mv (.c (.bool true))⟩, ⟨some 4, none, .mv (.c (.bool true))⟩]) (.reg [⟨some 23, none, .mv (.t 5)⟩, ⟨some 24, none, .mv (.t 23)⟩, ⟨some 25, some (24, false), .fa 4 (.t 1)⟩, ⟨some 26, some (24, false), .ld 1 false (.t 25)⟩, ⟨some 27, some (24, false), .call 161 [(.t 26)]⟩, ⟨some 28, none, .pick (.t 24) (.c (.bool true)) (.t 27)⟩, ⟨some 5, none, .mv (.t 28)⟩])) (.seq (.reg [⟨some 30, none, .bin .eql (.t 14) (.c (.int .i64 1))⟩, ⟨some 29, none, .mv (.t 30)⟩]) (.cond (.t 29) (.reg [⟨some 31, none, .fa 1 (.t 1)⟩, ⟨some 32, none, .ld 1 false (.t 31)⟩, ⟨some 33, none, .call 94 [(.t 32), (.c (.int .i64 0)), (.c (.int .i64 1000000))]⟩, ⟨some 6, none, .mv (.t 33)⟩]) (.seq (.reg [⟨some 35, none, .bin .eql (.t 14) (.c (.int .i64 3))⟩, ⟨some 34, none, .mv (.t 35)⟩]) (.cond (.t 34) (.reg [⟨some 36, none, .fa 1 (.t 1)⟩, ⟨some 37, none, .ld 1 false (.t 36)⟩, ⟨some 38, none, .call 94 [(.t 37), (.c (.int .i64 1)), (.c (.int .i64 9))]⟩, ⟨some 6, none, .mv (.t 38)⟩]) (.skip))))))))))) (.seq (.reg [⟨some 39, none, .mv (.t 6)⟩, ⟨some 40, none, .mv (.t 39)⟩, ⟨some 41, some (40, true), .mv (.t 5)⟩, ⟨some 42, none, .pick (.t 40) (.t 41) (.c (.bool false))⟩, ⟨some 43, none, .mv (.t 42)⟩, ⟨some 44, some (43, true), .mv (.t 3)⟩, ⟨some 45, some (43, true), .mv (.t 44)⟩, ⟨some 46, some (45, true), .fa 2 (.t 1)⟩, ⟨some 47, some (45, true), .ld 1 false (.t 46)⟩, ⟨some 48, some (45, true), .call 161 [(.t 47)]⟩, ⟨some 49, some (43, true), .pick (.t 45) (.t 48) (.c (.bool false))⟩, ⟨some 50, some (43, true), .mv (.t 49)⟩, ⟨some 51, some (50, false), .mv (.t 3)⟩, ⟨some 52, some (50, false), .un .not (.t 51)⟩, ⟨some 53, some (50, false), .mv (.t 52)⟩, ⟨some 54, some (53, true), .fa 2 (.t 1)⟩, ⟨some 55, some (53, true), .ld 1 false (.t 54)⟩, ⟨some 56, some (53, true), .bin .eql (.t 55) (.c (.str ⟨#[]⟩))⟩, ⟨some 57, some (50, false), .pick (.t 53) (.t 56) (.c (.bool false))⟩, ⟨some 58, some (43, true), .pick (.t 50) (.c (.bool true)) (.t 57)⟩, ⟨some 59, none, .pick (.t 43) (.t 58) (.c (.bool false))⟩, ⟨some 60, none, .mv (.t 59)⟩, ⟨some 61, some (60, true), .mv (.t 4)⟩, ⟨some 62, some (60, true), .mv (.t 61)⟩, ⟨some 63, some (62, true), .fa 3 (.t 1)⟩, ⟨some 64, some (62, true), .ld 1 false (.t 63)⟩, ⟨some 65, some (62, true), .call 161 [(.t 64)]⟩, ⟨some 66, some (60, true), .pick (.t 62) (.t 65) (.c (.bool false))⟩, ⟨some 67, some (60, true), .mv (.t 66)⟩, ⟨some 68, some (67, false), .mv (.t 4)⟩, ⟨some 69, some (67, false), .un .not (.t 68)⟩, ⟨some 70, some (67, false), .mv (.t 69)⟩, ⟨some 71, some (70, true), .fa 3 (.t 1)⟩, ⟨some 72, some (70, true), .ld 1 false (.t 71)⟩, ⟨some 73, some (70, true), .bin .eql (.t 72) (.c (.str ⟨#[]⟩))⟩, ⟨some 74, some (67, false), .pick (.t 70) (.t 73) (.c (.bool false))⟩, ⟨some 75, some (60, true), .pick (.t 67) (.c (.bool true)) (.t 74)⟩, ⟨some 76, none, .pick (.t 60) (.t 75) (.c (.bool false))⟩, ⟨some 2, none, .mv (.t 76)⟩]) (.ret)))))⟩
def K_impl_namesOk : Keeps := []
theorem r_impl_namesOk : resolveF Try.prog Try.f151 K_impl_namesOk = some F_impl_namesOk := by kernel_rfl
noncomputable def X_impl_namesOk : Ctx := Ctx.cons 161 G_impl_NameOk (Ctx.cons 94 G_impl_within (fun _ => none))
theorem co_impl_namesOk : CtxOk Try.prog X_impl_namesOk := CtxOk.cons (CtxOk.cons (CtxOk.nil) ok_impl_within) ok_impl_NameOk
theorem cx_impl_namesOk : ((∀ args hp, callX X_impl_namesOk 161 args hp = callS G_impl_NameOk args hp) ∧ (trC (X_impl_namesOk 161) = false)) ∧ ((∀ args hp, callX X_impl_namesOk 94 args hp = callS G_impl_within args hp) ∧ (trC (X_impl_namesOk 94) = false)) := ⟨⟨fun _ _ => rfl, rfl⟩, ⟨fun _ _ => rfl, rfl⟩⟩
noncomputable def S_impl_namesOk : ByV := ⟨none, false, semF X_impl_namesOk F_impl_namesOk none false⟩
noncomputable def G_impl_namesOk : CK := .byv S_impl_namesOk
theorem sg_impl_namesOk (args : List AV) : S_impl_namesOk.sem args = semF X_impl_namesOk F_impl_namesOk none false args := rfl
theorem cl_impl_namesOk (args : List AV) (hp : Hp) : callS G_impl_namesOk args hp = byvS S_impl_namesOk args hp := callS_byv rfl rfl args hp
theorem ok_impl_namesOk : InlOk Try.prog 151 (callS G_impl_namesOk) := byv_none co_impl_namesOk Try.func151 r_impl_namesOk rfl (fun _ _ h => h)
/- 138 impl_NodeOk calls [impl_isNode, impl_within, slices_Contains_int_int, impl_kidsOk, impl_namesOk]  -/
def B0_impl_NodeOk : RC :=
  .seq (.reg [⟨some 31, none, .bin .lss (.t 30) (.t 29)⟩]) (.seq (.cond (.t 31) (.skip) (.exit 0)) (.seq (.block 1 (.seq (.reg [⟨some 32, none, .mv (.t 30)⟩, ⟨some 33, none, .ia 1 (.t 28) (.t 30)⟩, ⟨some 34, none, .ld 1 false (.t 33)⟩, ⟨some 6, none, .mv (.t 32)⟩, ⟨some 7, none, .mv (.t 34)⟩]) (.seq (.reg [⟨some 35, none, .mv (.t 7)⟩, ⟨some 36, none, .mv (.t 1)⟩, ⟨some 37, none, .bin .sub (.t 36) (.c (.int .i64 1))⟩, ⟨some 38, none, .call 94 [(.t 35), (.c (.int .i64 0)), (.t 37)]⟩, ⟨some 39, none, .un .not (.t 38)⟩, ⟨some 40, none, .mv (.t 39)⟩, ⟨some 41, some (40, false), .fa 5 (.t 5)⟩, ⟨some 42, some (40, false), .ld 1 false (.t 41)⟩, ⟨some 43, some (40, false), .mv (.t 6)⟩, ⟨some 44, some (40, false), .slc false 1 (.t 42) none (some (.t 43))⟩, ⟨some 45, some (40, false), .mv (.t 7)⟩, ⟨some 46, some (40, false), .call 149 [(.t 44), (.t 45)]⟩, ⟨some 47, none, .pick (.t 40) (.c (.bool true)) (.t 46)⟩]) (.cond (.t 47) (.seq (.reg [⟨some 4, none, .mv (.c (.bool false))⟩]) (.ret)) (.skip))))) (.reg [⟨some 48, none, .bin .add (.t 30) (.c (.int .i64 1))⟩, ⟨some 30, none, .mv (.t 48)⟩])))
def F_impl_NodeOk : RF := ⟨56, 2, [.t 4],
  .seq (.reg [⟨some 2, none, .box (.t 0)⟩, ⟨some 4, none, .mv (.c (.bool false))⟩]) (.seq (.seq (.reg [⟨some 8, none, .ld 3 true (.t 2)⟩, ⟨some 9, none, .mv (.t 1)⟩, ⟨some 10, none, .call 109 [(.t 8), (.t 9)]⟩, ⟨some 11, none, .un .not (.t 10)⟩]) (.cond (.t 11) (.seq (.reg [⟨some 4, none, .mv (.c (.bool false))⟩]) (.ret)) (.skip))) (.seq (.reg [⟨some 12, none, .fa 0 (.t 2)⟩, ⟨some 13, none, .ld 1 false (.t 12)⟩, ⟨some 14, none, .mv (.t 1)⟩, ⟨some 15, none, .ia 6 (.t 13) (.t 14)⟩, ⟨some 16, none, .ld 6 true (.t 15)⟩, ⟨some 5, none, .new [(.int .i64 0), (.int .i64 0), (.str ⟨#[]⟩), (.str ⟨#[]⟩), (.str ⟨#[]⟩), (.nil 1)]⟩, ⟨none, none, .st 6 (.t 5) (.t 16)⟩]) (.seq (.seq (.reg [⟨some 17, none, .fa 0 (.t 5)⟩, ⟨some 18, none, .ld 1 false (.t 17)⟩, ⟨some 19, none, .call 94 [(.t 18), (.c (.int .i64 1)), (.c (.int .i64 5))]⟩, ⟨some 20, none, .un .not (.t 19)⟩, ⟨some 21, none, .mv (.t 20)⟩, ⟨some 22, some (21, true), .fa 0 (.t 5)⟩, ⟨some 23, some (21, true), .ld 1 false (.t 22)⟩, ⟨some 24, some (21, true), .call 94 [(.t 23), (.c (.int .i64 11)), (.c (.int .i64 20))]⟩, ⟨some 25, some (21, true), .un .not (.t 24)⟩, ⟨some 26, none, .pick (.t 21) (.t 25) (.c (.bool false))⟩]) (.cond (.t 26) (.seq (.reg [⟨some 4, none, .mv (.c (.bool false))⟩]) (.ret)) (.skip))) (.seq (.seq (.reg [⟨some 27, none, .fa 5 (.t 5)⟩, ⟨some 28, none, .ld 1 false (.t 27)⟩, ⟨some 29, none, .len false (.t 28)⟩, ⟨some 30, none, .mv (.c (.int .i64 0))⟩]) (.block 0 (.loop [1, 2, 5, 28, 29, 30] [(1, [2, 5]), (0, [4])] B0_impl_NodeOk))) (.seq (.reg [⟨some 49, none, .ld 3 true (.t 2)⟩, ⟨some 50, none, .ld 6 true (.t 5)⟩, ⟨some 51, none, .call 150 [(.t 49), (.t 50)]⟩, ⟨some 52, none, .mv (.t 51)⟩, ⟨some 53, some (52, true), .ld 6 true (.t 5)⟩, ⟨some 54, some (52, true), .call 151 [(.t 53)]⟩, ⟨some 55, none, .pick (.t 52) (.t 54) (.c (.bool false))⟩, ⟨some 4, none, .mv (.t 55)⟩]) (.ret))))))⟩
def K_impl_NodeOk : Keeps := [([1, 2, 5, 28, 29, 30], [(1, [2, 5]), (0, [4])])]
theorem r_impl_NodeOk : resolveF Try.prog Try.f138 K_impl_NodeOk = some F_impl_NodeOk := by kernel_rfl
noncomputable def X_impl_NodeOk : Ctx := Ctx.cons 109 G_impl_isNode (Ctx.cons 94 G_impl_within (Ctx.cons 149 G_slices_Contains_int_int (Ctx.cons 150 G_impl_kidsOk (Ctx.cons 151 G_impl_namesOk (fun _ => none)))))
theorem co_impl_NodeOk : CtxOk Try.prog X_impl_NodeOk := CtxOk.cons (CtxOk.cons (CtxOk.cons (CtxOk.cons (CtxOk.cons (CtxOk.nil) ok_impl_namesOk) ok_impl_kidsOk) ok_slices_Contains_int_int) ok_impl_within) ok_impl_isNode
theorem cx_impl_NodeOk : ((∀ args hp, callX X_impl_NodeOk 109 args hp = callS G_impl_isNode args hp) ∧ (trC (X_impl_NodeOk 109) = false)) ∧ ((∀ args hp, callX X_impl_NodeOk 94 args hp = callS G_impl_within args hp) ∧ (trC (X_impl_NodeOk 94) = false)) ∧ ((∀ args hp, callX X_impl_NodeOk 149 args hp = callS G_slices_Contains_int_int args hp) ∧ (trC (X_impl_NodeOk 149) = false)) ∧ ((∀ args hp, callX X_impl_NodeOk 150 args hp = callS G_impl_kidsOk args hp) ∧ (trC (X_impl_NodeOk 150) = false)) ∧ ((∀ args hp, callX X_impl_NodeOk 151 args hp = callS G_impl_namesOk args hp) ∧ (trC (X_impl_NodeOk 151) = false)) := ⟨⟨fun _ _ => rfl, rfl⟩, ⟨fun _ _ => rfl, rfl⟩, ⟨fun _ _ => rfl, rfl⟩, ⟨fun _ _ => rfl, rfl⟩, ⟨fun _ _ => rfl, rfl⟩⟩
noncomputable def S_impl_NodeOk : ByV := ⟨none, false, semF X_impl_NodeOk F_impl_NodeOk none false⟩
noncomputable def G_impl_NodeOk : CK := .byv S_impl_NodeOk
theorem sg_impl_NodeOk (args : List AV) : S_impl_NodeOk.sem args = semF X_impl_NodeOk F_impl_NodeOk none false args := rfl
theorem cl_impl_NodeOk (args : List AV) (hp : Hp) : callS G_impl_NodeOk args hp = byvS S_impl_NodeOk args hp := callS_byv rfl rfl args hp
theorem ok_impl_NodeOk : InlOk Try.prog 138 (callS G_impl_NodeOk) := byv_none co_impl_NodeOk Try.func138 r_impl_NodeOk rfl (fun _ _ h => h)
/- 110 impl_deeps calls [impl_NodeOk, impl_within]  -/
def B1_impl_deeps : RC :=
  .seq (.reg [⟨some 30, none, .bin .lss (.t 29) (.t 28)⟩]) (.seq (.cond (.t 30) (.skip) (.exit 2)) (.seq (.block 3 (.seq (.reg [⟨some 31, none, .ia 1 (.t 27) (.t 29)⟩, ⟨some 32, none, .ld 1 false (.t 31)⟩, ⟨some 9, none, .mv (.t 32)⟩]) (.seq (.seq (.reg [⟨some 33, none, .mv (.t 9)⟩, ⟨some 34, none, .mv (.t 6)⟩, ⟨some 35, none, .bin .sub (.t 34) (.c (.int .i64 1))⟩, ⟨some 36, none, .call 94 [(.t 33), (.c (.int .i64 0)), (.t 35)]⟩, ⟨some 37, none, .un .not (.t 36)⟩, ⟨some 38, none, .mv (.t 37)⟩, ⟨some 39, some (38, false), .mv (.t 5)⟩, ⟨some 40, some (38, false), .mv (.t 9)⟩, ⟨some 41, some (38, false), .ia 1 (.t 39) (.t 40)⟩, ⟨some 42, some (38, false), .ld 1 false (.t 41)⟩, ⟨some 43, some (38, false), .bin .eql (.t 42) (.c (.int .i64 0))⟩, ⟨some 44, none, .pick (.t 38) (.c (.bool true)) (.t 43)⟩]) (.cond (.t 44) (.seq (.reg [⟨some 7, none, .mv (.c (.int .i64 11))⟩]) (.exit 2)) (.skip))) (.reg [⟨some 45, none, .mv (.t 7)⟩, ⟨some 46, none, .mv (.t 5)⟩, ⟨some 47, none, .mv (.t 9)⟩, ⟨some 48, none, .ia 1 (.t 46) (.t 47)⟩, ⟨some 49, none, .ld 1 false (.t 48)⟩, ⟨some 50, none, .bin .add (.t 49) (.c (.int .i64 1))⟩, ⟨some 51, none, .mx [(.t 45), (.t 50)]⟩, ⟨some 7, none, .mv (.t 51)⟩])))) (.reg [⟨some 52, none, .bin .add (.t 29) (.c (.int .i64 1))⟩, ⟨some 29, none, .mv (.t 52)⟩])))
def B0_impl_deeps : RC :=
  .seq (.reg [⟨some 16, none, .bin .lss (.t 15) (.t 14)⟩]) (.seq (.cond (.t 16) (.skip) (.exit 0)) (.seq (.block 1 (.seq (.reg [⟨some 17, none, .mv (.t 15)⟩, ⟨some 6, none, .mv (.t 17)⟩]) (.seq (.reg [⟨some 7, none, .mv (.c (.int .i64 1))⟩]) (.seq (.seq (.reg [⟨some 18, none, .ld 3 true (.t 2)⟩, ⟨some 19, none, .mv (.t 6)⟩, ⟨some 20, none, .call 138 [(.t 18), (.t 19)]⟩, ⟨some 21, none, .un .not (.t 20)⟩]) (.cond (.t 21) (.reg [⟨some 7, none, .mv (.c (.int .i64 11))⟩]) (.skip))) (.seq (.seq (.reg [⟨some 22, none, .fa 0 (.t 2)⟩, ⟨some 23, none, .ld 1 false (.t 22)⟩, ⟨some 24, none, .mv (.t 6)⟩, ⟨some 25, none, .ia 6 (.t 23) (.t 24)⟩, ⟨some 26, none, .fa 5 (.t 25)⟩, ⟨some 27, none, .ld 1 false (.t 26)⟩, ⟨some 28, none, .len false (.t 27)⟩, ⟨some 29, none, .mv (.c (.int .i64 0))⟩]) (.block 2 (.loop [2, 5, 6, 7, 14, 15, 27, 28, 29] [(3, [2, 5, 6, 7, 14, 15])] B1_impl_deeps))) (.seq (.seq (.reg [⟨some 53, none, .mv (.t 7)⟩, ⟨some 54, none, .bin .gtr (.t 53) (.c (.int .i64 10))⟩]) (.cond (.t 54) (.exit 0) (.skip))) (.reg [⟨some 55, none, .mv (.t 5)⟩, ⟨some 56, none, .mv (.t 6)⟩, ⟨some 57, none, .mv (.t 7)⟩, ⟨some 58, none, .ia 1 (.t 55) (.t 56)⟩, ⟨none, none, .st 1 (.t 58) (.t 57)⟩]))))))) (.reg [⟨some 59, none, .bin .add (.t 15) (.c (.int .i64 1))⟩, ⟨some 15, none, .mv (.t 59)⟩])))
def F_impl_deeps : RF := ⟨61, 2, [.t 4],
  .seq (.reg [⟨some 2, none, .box (.t 0)⟩, ⟨some 4, none, .mv (.c (.nil 1))⟩]) (.seq (.reg [⟨some 10, none, .mv (.t 1)⟩, ⟨some 11, none, .bin .add (.t 10) (.c (.int .i64 1))⟩, ⟨some 12, none, .mk 1 [(.int .i64 0)] 8 (.t 11) (.t 11)⟩, ⟨some 5, none, .mv (.t 12)⟩]) (.seq (.seq (.reg [⟨some 13, none, .mv (.t 5)⟩, ⟨some 14, none, .len false (.t 13)⟩, ⟨some 15, none, .mv (.c (.int .i64 0))⟩]) (.block 0 (.loop [2, 5, 14, 15] [(1, [5])] B0_impl_deeps))) (.seq (.reg [⟨some 60, none, .mv (.t 5)⟩, ⟨some 4, none, .mv (.t 60)⟩]) (.ret))))⟩
def K_impl_deeps : Keeps := [([2, 5, 14, 15], [(1, [5])]), ([2, 5, 6, 7, 14, 15, 27, 28, 29], [(3, [2, 5, 6, 7, 14, 15])])]
theorem r_impl_deeps : resolveF Try.prog Try.f110 K_impl_deeps = some F_impl_deeps := by kernel_rfl
noncomputable def X_impl_deeps : Ctx := Ctx.cons 138 G_impl_NodeOk (Ctx.cons 94 G_impl_within (fun _ => none))
theorem co_impl_deeps : CtxOk Try.prog X_impl_deeps := CtxOk.cons (CtxOk.cons (CtxOk.nil) ok_impl_within) ok_impl_NodeOk
theorem cx_impl_deeps : ((∀ args hp, callX X_impl_deeps 138 args hp = callS G_impl_NodeOk args hp) ∧ (trC (X_impl_deeps 138) = false)) ∧ ((∀ args hp, callX X_impl_deeps 94 args hp = callS G_impl_within args hp) ∧ (trC (X_impl_deeps 94) = false)) := ⟨⟨fun _ _ => rfl, rfl⟩, ⟨fun _ _ => rfl, rfl⟩⟩
noncomputable def S_impl_deeps : ByV := ⟨none, false, semF X_impl_deeps F_impl_deeps none false⟩
noncomputable def G_impl_deeps : CK := .byv S_impl_deeps
theorem sg_impl_deeps (args : List AV) : S_impl_deeps.sem args = semF X_impl_deeps F_impl_deeps none false args := rfl
theorem cl_impl_deeps (args : List AV) (hp : Hp) : callS G_impl_deeps args hp = byvS S_impl_deeps args hp := callS_byv rfl rfl args hp
theorem ok_impl_deeps : InlOk Try.prog 110 (callS G_impl_deeps) := byv_none co_impl_deeps Try.func110 r_impl_deeps rfl (fun _ _ h => h)
/- 61 impl_DeepOf calls [impl_isNode, impl_deeps]  -/
def F_impl_DeepOf : RF := ⟨15, 2, [.t 4],
  .seq (.reg [⟨some 2, none, .box (.t 0)⟩, ⟨some 4, none, .mv (.c (.int .i64 0))⟩]) (.seq (.seq (.reg [⟨some 5, none, .ld 3 true (.t 2)⟩, ⟨some 6, none, .mv (.t 1)⟩, ⟨some 7, none, .call 109 [(.t 5), (.t 6)]⟩, ⟨some 8, none, .un .not (.t 7)⟩]) (.cond (.t 8) (.seq (.reg [⟨some 4, none, .mv (.c (.int .i64 0))⟩]) (.ret)) (.skip))) (.seq (.reg [⟨some 9, none, .ld 3 true (.t 2)⟩, ⟨some 10, none, .mv (.t 1)⟩, ⟨some 11, none, .call 110 [(.t 9), (.t 10)]⟩, ⟨some 12, none, .mv (.t 1)⟩, ⟨some 13, none, .ia 1 (.t 11) (.t 12)⟩, ⟨some 14, none, .ld 1 false (.t 13)⟩, ⟨some 4, none, .mv (.t 14)⟩]) (.ret)))⟩
def K_impl_DeepOf : Keeps := []
theorem r_impl_DeepOf : resolveF Try.prog Try.f61 K_impl_DeepOf = some F_impl_DeepOf := by kernel_rfl
noncomputable def X_impl_DeepOf : Ctx := Ctx.cons 109 G_impl_isNode (Ctx.cons 110 G_impl_deeps (fun _ => none))
theorem co_impl_DeepOf : CtxOk Try.prog X_impl_DeepOf := CtxOk.cons (CtxOk.cons (CtxOk.nil) ok_impl_deeps) ok_impl_isNode
theorem cx_impl_DeepOf : ((∀ args hp, callX X_impl_DeepOf 109 args hp = callS G_impl_isNode args hp) ∧ (trC (X_impl_DeepOf 109) = false)) ∧ ((∀ args hp, callX X_impl_DeepOf 110 args hp = callS G_impl_deeps args hp) ∧ (trC (X_impl_DeepOf 110) = false)) := ⟨⟨fun _ _ => rfl, rfl⟩, ⟨fun _ _ => rfl, rfl⟩⟩
noncomputable def S_impl_DeepOf : ByV := ⟨none, false, semF X_impl_DeepOf F_impl_DeepOf none false⟩
noncomputable def G_impl_DeepOf : CK := .byv S_impl_DeepOf
theorem sg_impl_DeepOf (args : List AV) : S_impl_DeepOf.sem args = semF X_impl_DeepOf F_impl_DeepOf none false args := rfl
theorem cl_impl_DeepOf (args : List AV) (hp : Hp) : callS G_impl_DeepOf args hp = byvS S_impl_DeepOf args hp := callS_byv rfl rfl args hp
theorem ok_impl_DeepOf : InlOk Try.prog 61 (callS G_impl_DeepOf) := byv_none co_impl_DeepOf Try.func61 r_impl_DeepOf rfl (fun _ _ h => h)
/- 62 impl_kidAt calls [impl_isNode]  -/
def F_impl_kidAt : RF := ⟨31, 3, [.t 6],
  .seq (.reg [⟨some 3, none, .box (.t 0)⟩, ⟨some 6, none, .mv (.c (.int .i64 0))⟩]) (.seq (.seq (.reg [⟨some 7, none, .ld 3 true (.t 3)⟩, ⟨some 8, none, .mv (.t 1)⟩, ⟨some 9, none, .call 109 [(.t 7), (.t 8)]⟩, ⟨some 10, none, .un .not (.t 9)⟩, ⟨some 11, none, .mv (.t 10)⟩, ⟨some 12, some (11, false), .mv (.t 2)⟩, ⟨some 13, some (11, false), .fa 0 (.t 3)⟩, ⟨some 14, some (11, false), .ld 1 false (.t 13)⟩, ⟨some 15, some (11, false), .mv (.t 1)⟩, ⟨some 16, some (11, false), .ia 6 (.t 14) (.t 15)⟩, ⟨some 17, some (11, false), .fa 5 (.t 16)⟩, ⟨some 18, some (11, false), .ld 1 false (.t 17)⟩, ⟨some 19, some (11, false), .len false (.t 18)⟩, ⟨some 20, some (11, false), .bin .geq (.t 12) (.t 19)⟩, ⟨some 21, none, .pick (.t 11) (.c (.bool true)) (.t 20)⟩]) (.cond (.t 21) (.seq (.reg [⟨some 6, none, .mv (.c (.int .i64 (-1)))⟩]) (.ret)) (.skip))) (.seq (.reg [⟨some 22, none, .fa 0 (.t 3)⟩, ⟨some 23, none, .ld 1 false (.t 22)⟩, ⟨some 24, none, .mv (.t 1)⟩, ⟨some 25, none, .ia 6 (.t 23) (.t 24)⟩, ⟨some 26, none, .fa 5 (.t 25)⟩, ⟨some 27, none, .ld 1 false (.t 26)⟩, ⟨some 28, none, .mv (.t 2)⟩, ⟨some 29, none, .ia 1 (.t 27) (.t 28)⟩, ⟨some 30, none, .ld 1 false (.t 29)⟩, ⟨some 6, none, .mv (.t 30)⟩]) (.ret)))⟩
def K_impl_kidAt : Keeps := []
theorem r_impl_kidAt : resolveF Try.prog Try.f62 K_impl_kidAt = some F_impl_kidAt := by kernel_rfl
noncomputable def X_impl_kidAt : Ctx := Ctx.cons 109 G_impl_isNode (fun _ => none)
theorem co_impl_kidAt : CtxOk Try.prog X_impl_kidAt := CtxOk.cons (CtxOk.nil) ok_impl_isNode
theorem cx_impl_kidAt : ((∀ args hp, callX X_impl_kidAt 109 args hp = callS G_impl_isNode args hp) ∧ (trC (X_impl_kidAt 109) = false)) := ⟨fun _ _ => rfl, rfl⟩
noncomputable def S_impl_kidAt : ByV := ⟨none, false, semF X_impl_kidAt F_impl_kidAt none false⟩
noncomputable def G_impl_kidAt : CK := .byv S_impl_kidAt
theorem sg_impl_kidAt (args : List AV) : S_impl_kidAt.sem args = semF X_impl_kidAt F_impl_kidAt none false args := rfl
theorem cl_impl_kidAt (args : List AV) (hp : Hp) : callS G_impl_kidAt args hp = byvS S_impl_kidAt args hp := callS_byv rfl rfl args hp
theorem ok_impl_kidAt : InlOk Try.prog 62 (callS G_impl_kidAt) := byv_none co_impl_kidAt Try.func62 r_impl_kidAt rfl (fun _ _ h => h)
/- 17 impl_RegsOf calls [impl_isValue, impl_DeepOf, impl_kidAt, impl_RegsOf]  RECURSIVE -/
def F_impl_RegsOf : RF := ⟨44, 2, [.t 4],
  .seq (.reg [⟨some 2, none, .box (.t 0)⟩, ⟨some 4, none, .mv (.c (.int .i64 0))⟩]) (.seq (.seq (.reg [⟨some 5, none, .ld 3 true (.t 2)⟩, ⟨some 6, none, .mv (.t 1)⟩, ⟨some 7, none, .call 60 [(.t 5), (.t 6)]⟩, ⟨some 8, none, .un .not (.t 7)⟩, ⟨some 9, none, .mv (.t 8)⟩, ⟨some 10, some (9, false), .ld 3 true (.t 2)⟩, ⟨some 11, some (9, false), .mv (.t 1)⟩, ⟨some 12, some (9, false), .call 61 [(.t 10), (.t 11)]⟩, ⟨some 13, some (9, false), .bin .eql (.t 12) (.c (.int .i64 0))⟩, ⟨some 14, none, .pick (.t 9) (.c (.bool true)) (.t 13)⟩]) (.cond (.t 14) (.seq (.reg [⟨some 4, none, .mv (.c (.int .i64 0))⟩]) (.ret)) (.skip))) (.seq (.seq (.reg [⟨some 15, none, .fa 0 (.t 2)⟩, ⟨some 16, none, .ld 1 false (.t 15)⟩, ⟨some 17, none, .mv (.t 1)⟩, ⟨some 18, none, .ia 6 (.t 16) (.t 17)⟩, ⟨some 19, none, .fa 0 (.t 18)⟩, ⟨some 20, none, .ld 1 false (.t 19)⟩]) (.block 0 (.seq (.seq (.reg [⟨some 22, none, .bin .eql (.t 20) (.c (.int .i64 1))⟩, ⟨some 21, none, .mv (.t 22)⟩]) (.cond (.t 21) (.skip) (.reg [⟨some 23, none, .bin .eql (.t 20) (.c (.int .i64 2))⟩, ⟨some 21, none, .mv (.t 23)⟩]))) (.cond (.t 21) (.seq (.reg [⟨some 4, none, .mv (.c (.int .i64 1))⟩]) (.ret)) (.seq (.seq (.reg [⟨some 25, none, .bin .eql (.t 20) (.c (.int .i64 4))⟩, ⟨some 24, none, .mv (.t 25)⟩]) (.cond (.t 24) (.skip) (.reg [⟨some 26, none, .bin .eql (.t 20) (.c (.int .i64 5))⟩, ⟨some 24, none, .mv (.t 26)⟩]))) (.cond (.t 24) (.seq (.regd [(2, ⟨some 27, none, .ld 3 true (.t 2)⟩), (1, ⟨some 28, none, .ld 3 true (.t 2)⟩), (0, ⟨some 29, none, .mv (.t 1)⟩), (2, ⟨some 30, none, .call 62 [(.t 28), (.t 29), (.c (.int .i64 0))]⟩), (1, ⟨some 31, none, .call 17 [(.t 27), (.t 30)]⟩), (0, ⟨some 4, none, .mv (.t 31)⟩)] [(0, 3)]) (.ret)) (.skip))))))) (.seq (.regd [(2, ⟨some 32, none, .ld 3 true (.t 2)⟩), (1, ⟨some 33, none, .ld 3 true (.t 2)⟩), (0, ⟨some 34, none, .mv (.t 1)⟩), (2, ⟨some 35, none, .call 62 [(.t 33), (.t 34), (.c (.int .i64 0))]⟩), (2, ⟨some 36, none, .call 17 [(.t 32), (.t 35)]⟩), (2, ⟨some 37, none, .ld 3 true (.t 2)⟩), (2, ⟨some 38, none, .ld 3 true (.t 2)⟩), (0, ⟨some 39, none, .mv (.t 1)⟩), (2, ⟨some 40, none, .call 62 [(.t 38), (.t 39), (.c (.int .i64 1))]⟩), (1, ⟨some 41, none, .call 17 [(.t 37), (.t 40)]⟩), (0, ⟨some 42, none, .bin .add (.t 41) (.c (.int .i64 1))⟩), (0, ⟨some 43, none, .mx [(.t 36), (.t 42)]⟩), (0, ⟨some 4, none, .mv (.t 43)⟩)] [(0, 3), (3, 5), (4, 5), (3, 6), (4, 6), (5, 8)]) (.ret))))⟩
def K_impl_RegsOf : Keeps := []
theorem r_impl_RegsOf : resolveF Try.prog Try.f17 K_impl_RegsOf = some F_impl_RegsOf := by kernel_rfl
noncomputable def X_impl_RegsOf (z : Ctx) : Ctx := Ctx.cons 60 G_impl_isValue (Ctx.cons 61 G_impl_DeepOf (Ctx.cons 62 G_impl_kidAt (z)))
theorem co_impl_RegsOf {z : Ctx} (h : CtxOk Try.prog z) : CtxOk Try.prog (X_impl_RegsOf z) := CtxOk.cons (CtxOk.cons (CtxOk.cons (h) ok_impl_kidAt) ok_impl_DeepOf) ok_impl_isValue
noncomputable def Z_impl_RegsOf : Nat → Ctx
  | 0 => fun _ => none
  | n + 1 => Ctx.cons 17 (.byv ⟨none, false, semF (X_impl_RegsOf (Z_impl_RegsOf n)) F_impl_RegsOf none false⟩) (fun _ => none)
theorem zo_Z_impl_RegsOf : ∀ n, CtxOk Try.prog (Z_impl_RegsOf n)
  | 0 => CtxOk.nil
  | n + 1 => CtxOk.cons (CtxOk.nil) (byv_none (co_impl_RegsOf (zo_Z_impl_RegsOf n)) Try.func17 r_impl_RegsOf rfl (fun _ _ h => h))
noncomputable def V_impl_RegsOf (n : Nat) : ByV := ⟨none, false, semF (X_impl_RegsOf (Z_impl_RegsOf n)) F_impl_RegsOf none false⟩
noncomputable def W_impl_RegsOf (n : Nat) : CK := .byv (V_impl_RegsOf n)
theorem sd_impl_RegsOf (n : Nat) (args : List AV) : (V_impl_RegsOf n).sem args = semF (X_impl_RegsOf (Z_impl_RegsOf n)) F_impl_RegsOf none false args := rfl
theorem cw_impl_RegsOf (n : Nat) (args : List AV) (hp : Hp) : callS (W_impl_RegsOf n) args hp = byvS (V_impl_RegsOf n) args hp := callS_byv rfl rfl args hp
noncomputable def S_impl_RegsOf : ByV := ⟨none, false, lim fun n => (V_impl_RegsOf n).sem⟩
noncomputable def G_impl_RegsOf : CK := .byv S_impl_RegsOf
theorem sl_impl_RegsOf (args : List AV) : S_impl_RegsOf.sem args = lim (fun n => (V_impl_RegsOf n).sem) args := rfl
theorem cl_impl_RegsOf (args : List AV) (hp : Hp) : callS G_impl_RegsOf args hp = byvS S_impl_RegsOf args hp := callS_byv rfl rfl args hp
theorem ok_impl_RegsOf : InlOk Try.prog 17 (callS G_impl_RegsOf) := byv_lim fun n => byv_none (co_impl_RegsOf (zo_Z_impl_RegsOf n)) Try.func17 r_impl_RegsOf rfl (fun _ _ h => h)
theorem cx_impl_RegsOf (n : Nat) : ((∀ args hp, callX (X_impl_RegsOf (Z_impl_RegsOf (n + 1))) 60 args hp = callS G_impl_isValue args hp) ∧ (trC ((X_impl_RegsOf (Z_impl_RegsOf (n + 1))) 60) = false)) ∧ ((∀ args hp, callX (X_impl_RegsOf (Z_impl_RegsOf (n + 1))) 61 args hp = callS G_impl_DeepOf args hp) ∧ (trC ((X_impl_RegsOf (Z_impl_RegsOf (n + 1))) 61) = false)) ∧ ((∀ args hp, callX (X_impl_RegsOf (Z_impl_RegsOf (n + 1))) 62 args hp = callS G_impl_kidAt args hp) ∧ (trC ((X_impl_RegsOf (Z_impl_RegsOf (n + 1))) 62) = false)) ∧ ((∀ args hp, callX (X_impl_RegsOf (Z_impl_RegsOf (n + 1))) 17 args hp = callS (W_impl_RegsOf n) args hp) ∧ (trC ((X_impl_RegsOf (Z_impl_RegsOf (n + 1))) 17) = false)) := ⟨⟨fun _ _ => rfl, rfl⟩, ⟨fun _ _ => rfl, rfl⟩, ⟨fun _ _ => rfl, rfl⟩, ⟨fun _ _ => rfl, rfl⟩⟩
/- 75 laws_eqIntS calls []  -/
def B0_laws_eqIntS : RC :=
  .seq (.seq (.reg [⟨some 11, none, .mv (.t 5)⟩, ⟨some 12, none, .mv (.t 0)⟩, ⟨some 13, none, .len false (.t 12)⟩, ⟨some 14, none, .bin .lss (.t 11) (.t 13)⟩]) (.cond (.t 14) (.skip) (.exit 0))) (.seq (.block 1 (.seq (.regd [(0, ⟨some 17, none, .mv (.t 0)⟩), (0, ⟨some 18, none, .mv (.t 5)⟩), (1, ⟨some 19, none, .ia 1 (.t 17) (.t 18)⟩), (1, ⟨some 20, none, .ld 1 false (.t 19)⟩), (0, ⟨some 21, none, .mv (.t 1)⟩), (0, ⟨some 22, none, .mv (.t 5)⟩), (1, ⟨some 23, none, .ia 1 (.t 21) (.t 22)⟩), (1, ⟨some 24, none, .ld 1 false (.t 23)⟩), (0, ⟨some 25, none, .bin .neq (.t 20) (.t 24)⟩)] []) (.cond (.t 25) (.seq (.reg [⟨some 4, none, .mv (.c (.bool false))⟩]) (.ret)) (.skip)))) (.reg [⟨some 15, none, .mv (.t 5)⟩, ⟨some 16, none, .bin .add (.t 15) (.c (.int .i64 1))⟩, ⟨some 5, none, .mv (.t 16)⟩]))
def F_laws_eqIntS : RF := ⟨26, 2, [.t 4],
  .seq (.reg [⟨some 4, none, .mv (.c (.bool false))⟩]) (.seq (.seq (.reg [⟨some 6, none, .mv (.t 0)⟩, ⟨some 7, none, .len false (.t 6)⟩, ⟨some 8, none, .mv (.t 1)⟩, ⟨some 9, none, .len false (.t 8)⟩, ⟨some 10, none, .bin .neq (.t 7) (.t 9)⟩]) (.cond (.t 10) (.seq (.reg [⟨some 4, none, .mv (.c (.bool false))⟩]) (.ret)) (.skip))) (.seq (.seq (.reg [⟨some 5, none, .mv (.c (.int .i64 0))⟩]) (.block 0 (.loop [0, 1, 5] [(1, []), (0, [4])] B0_laws_eqIntS))) (.seq (.reg [⟨some 4, none, .mv (.c (.bool true))⟩]) (.ret))))⟩
def K_laws_eqIntS : Keeps := [([0, 1, 5], [(1, []), (0, [4])])]
theorem r_laws_eqIntS : resolveF Try.prog Try.f75 K_laws_eqIntS = some F_laws_eqIntS := by kernel_rfl
noncomputable def X_laws_eqIntS : Ctx := fun _ => none
theorem co_laws_eqIntS : CtxOk Try.prog X_laws_eqIntS := CtxOk.nil
theorem cx_laws_eqIntS : True := trivial
noncomputable def S_laws_eqIntS : ByV := ⟨none, false, semF X_laws_eqIntS F_laws_eqIntS none false⟩
noncomputable def G_laws_eqIntS : CK := .byv S_laws_eqIntS
theorem sg_laws_eqIntS (args : List AV) : S_laws_eqIntS.sem args = semF X_laws_eqIntS F_laws_eqIntS none false args := rfl
theorem cl_laws_eqIntS (args : List AV) (hp : Hp) : callS G_laws_eqIntS args hp = byvS S_laws_eqIntS args hp := callS_byv rfl rfl args hp
theorem ok_laws_eqIntS : InlOk Try.prog 75 (callS G_laws_eqIntS) := byv_none co_laws_eqIntS Try.func75 r_laws_eqIntS rfl (fun _ _ h => h)
/- 111 laws_eqNode calls [laws_eqIntS]  -/
def F_laws_eqNode : RF := ⟨36, 2, [.t 4],
  .seq (.reg [⟨some 2, none, .box (.t 0)⟩, ⟨some 3, none, .box (.t 1)⟩, ⟨some 4, none, .mv (.c (.bool false))⟩]) (.seq (.seq (.reg [⟨some 5, none, .fa 0 (.t 2)⟩, ⟨some 6, none, .ld 1 false (.t 5)⟩, ⟨some 7, none, .fa 0 (.t 3)⟩, ⟨some 8, none, .ld 1 false (.t 7)⟩, ⟨some 9, none, .bin .neq (.t 6) (.t 8)⟩]) (.cond (.t 9) (.seq (.reg [⟨some 4, none, .mv (.c (.bool false))⟩]) (.ret)) (.skip))) (.seq (.seq (.reg [⟨some 10, none, .fa 1 (.t 2)⟩, ⟨some 11, none, .ld 1 false (.t 10)⟩, ⟨some 12, none, .fa 1 (.t 3)⟩, ⟨some 13, none, .ld 1 false (.t 12)⟩, ⟨some 14, none, .bin .neq (.t 11) (.t 13)⟩]) (.cond (.t 14) (.seq (.reg [⟨some 4, none, .mv (.c (.bool false))⟩]) (.ret)) (.skip))) (.seq (.seq (.reg [⟨some 15, none, .fa 2 (.t 2)⟩, ⟨some 16, none, .ld 1 false (.t 15)⟩, ⟨some 17, none, .fa 2 (.t 3)⟩, ⟨some 18, none, .ld 1 false (.t 17)⟩, ⟨some 19, none, .bin .neq (.t 16) (.t 18)⟩]) (.cond (.t 19) (.seq (.reg [⟨some 4, none, .mv (.c (.bool false))⟩]) (.ret)) (.skip))) (.seq (.seq (.reg [⟨some 20, none, .fa 3 (.t 2)⟩, ⟨some 21, none, .ld 1 false (.t 20)⟩, ⟨some 22, none, .fa 3 (.t 3)⟩, ⟨some 23, none, .ld 1 false (.t 22)⟩, ⟨some 24, none, .bin .neq (.t 21) (.t 23)⟩]) (.cond (.t 24) (.seq (.reg [⟨some 4, none, .mv (.c (.bool false))⟩]) (.ret)) (.skip))) (.seq (.seq (.reg [⟨some 25, none, .fa 4 (.t 2)⟩, ⟨some 26, none, .ld 1 false (.t 25)⟩, ⟨some 27, none, .fa 4 (.t 3)⟩, ⟨some 28, none, .ld 1 false (.t 27)⟩, ⟨some 29, none, .bin .neq (.t 26) (.t 28)⟩]) (.cond (.t 29) (.seq (.reg [⟨some 4, none, .mv (.c (.bool false))⟩]) (.ret)) (.skip))) (.seq (.seq (.reg [⟨some 30, none, .fa 5 (.t 2)⟩, ⟨some 31, none, .ld 1 false (.t 30)⟩, ⟨some 32, none, .fa 5 (.t 3)⟩, ⟨some 33, none, .ld 1 false (.t 32)⟩, ⟨some 34, none, .call 75 [(.t 31), (.t 33)]⟩, ⟨some 35, none, .un .not (.t 34)⟩]) (.cond (.t 35) (.seq (.reg [⟨some 4, none, .mv (.c (.bool false))⟩]) (.ret)) (.skip))) (.seq (.reg [⟨some 4, none, .mv (.c (.bool true))⟩]) (.ret))))))))⟩
def K_laws_eqNode : Keeps := []
theorem r_laws_eqNode : resolveF Try.prog Try.f111 K_laws_eqNode = some F_laws_eqNode := by kernel_rfl
noncomputable def X_laws_eqNode : Ctx := Ctx.cons 75 G_laws_eqIntS (fun _ => none)
theorem co_laws_eqNode : CtxOk Try.prog X_laws_eqNode := CtxOk.cons (CtxOk.nil) ok_laws_eqIntS
theorem cx_laws_eqNode : ((∀ args hp, callX X_laws_eqNode 75 args hp = callS G_laws_eqIntS args hp) ∧ (trC (X_laws_eqNode 75) = false)) := ⟨fun _ _ => rfl, rfl⟩
noncomputable def S_laws_eqNode : ByV := ⟨none, false, semF X_laws_eqNode F_laws_eqNode none false⟩
noncomputable def G_laws_eqNode : CK := .byv S_laws_eqNode
theorem sg_laws_eqNode (args : List AV) : S_laws_eqNode.sem args = semF X_laws_eqNode F_laws_eqNode none false args := rfl
theorem cl_laws_eqNode (args : List AV) (hp : Hp) : callS G_laws_eqNode args hp = byvS S_laws_eqNode args hp := callS_byv rfl rfl args hp
theorem ok_laws_eqNode : InlOk Try.prog 111 (callS G_laws_eqNode) := byv_none co_laws_eqNode Try.func111 r_laws_eqNode rfl (fun _ _ h => h)
/- 63 laws_eqNodeS calls [laws_eqNode]  -/
def B0_laws_eqNodeS : RC :=
  .seq (.seq (.reg [⟨some 11, none, .mv (.t 5)⟩, ⟨some 12, none, .mv (.t 0)⟩, ⟨some 13, none, .len false (.t 12)⟩, ⟨some 14, none, .bin .lss (.t 11) (.t 13)⟩]) (.cond (.t 14) (.skip) (.exit 0))) (.seq (.block 1 (.seq (.regd [(0, ⟨some 17, none, .mv (.t 0)⟩), (0, ⟨some 18, none, .mv (.t 5)⟩), (1, ⟨some 19, none, .ia 6 (.t 17) (.t 18)⟩), (1, ⟨some 20, none, .ld 6 true (.t 19)⟩), (0, ⟨some 21, none, .mv (.t 1)⟩), (0, ⟨some 22, none, .mv (.t 5)⟩), (1, ⟨some 23, none, .ia 6 (.t 21) (.t 22)⟩), (1, ⟨some 24, none, .ld 6 true (.t 23)⟩), (1, ⟨some 25, none, .call 111 [(.t 20), (.t 24)]⟩), (0, ⟨some 26, none, .un .not (.t 25)⟩)] []) (.cond (.t 26) (.seq (.reg [⟨some 4, none, .mv (.c (.bool false))⟩]) (.ret)) (.skip)))) (.reg [⟨some 15, none, .mv (.t 5)⟩, ⟨some 16, none, .bin .add (.t 15) (.c (.int .i64 1))⟩, ⟨some 5, none, .mv (.t 16)⟩]))
def F_laws_eqNodeS : RF := ⟨27, 2, [.t 4],
  .seq (.reg [⟨some 4, none, .mv (.c (.bool false))⟩]) (.seq (.seq (.reg [⟨some 6, none, .mv (.t 0)⟩, ⟨some 7, none, .len false (.t 6)⟩, ⟨some 8, none, .mv (.t 1)⟩, ⟨some 9, none, .len false (.t 8)⟩, ⟨some 10, none, .bin .neq (.t 7) (.t 9)⟩]) (.cond (.t 10) (.seq (.reg [⟨some 4, none, .mv (.c (.bool false))⟩]) (.ret)) (.skip))) (.seq (.seq (.reg [⟨some 5, none, .mv (.c (.int .i64 0))⟩]) (.block 0 (.loop [0, 1, 5] [(1, []), (0, [4])] B0_laws_eqNodeS))) (.seq (.reg [⟨some 4, none, .mv (.c (.bool true))⟩]) (.ret))))⟩
def K_laws_eqNodeS : Keeps := [([0, 1, 5], [(1, []), (0, [4])])]
theorem r_laws_eqNodeS : resolveF Try.prog Try.f63 K_laws_eqNodeS = some F_laws_eqNodeS := by kernel_rfl
noncomputable def X_laws_eqNodeS : Ctx := Ctx.cons 111 G_laws_eqNode (fun _ => none)
theorem co_laws_eqNodeS : CtxOk Try.prog X_laws_eqNodeS := CtxOk.cons (CtxOk.nil) ok_laws_eqNode
theorem cx_laws_eqNodeS : ((∀ args hp, callX X_laws_eqNodeS 111 args hp = callS G_laws_eqNode args hp) ∧ (trC (X_laws_eqNodeS 111) = false)) := ⟨fun _ _ => rfl, rfl⟩
noncomputable def S_laws_eqNodeS : ByV := ⟨none, false, semF X_laws_eqNodeS F_laws_eqNodeS none false⟩
noncomputable def G_laws_eqNodeS : CK := .byv S_laws_eqNodeS
theorem sg_laws_eqNodeS (args : List AV) : S_laws_eqNodeS.sem args = semF X_laws_eqNodeS F_laws_eqNodeS none false args := rfl
theorem cl_laws_eqNodeS (args : List AV) (hp : Hp) : callS G_laws_eqNodeS args hp = byvS S_laws_eqNodeS args hp := callS_byv rfl rfl args hp
theorem ok_laws_eqNodeS : InlOk Try.prog 63 (callS G_laws_eqNodeS) := byv_none co_laws_eqNodeS Try.func63 r_laws_eqNodeS rfl (fun _ _ h => h)
/- 74 laws_eqStringS calls []  -/
def B0_laws_eqStringS : RC :=
  .seq (.seq (.reg [⟨some 11, none, .mv (.t 5)⟩, ⟨some 12, none, .mv (.t 0)⟩, ⟨some 13, none, .len false (.t 12)⟩, ⟨some 14, none, .bin .lss (.t 11) (.t 13)⟩]) (.cond (.t 14) (.skip) (.exit 0))) (.seq (.block 1 (.seq (.regd [(0, ⟨some 17, none, .mv (.t 0)⟩), (0, ⟨some 18, none, .mv (.t 5)⟩), (1, ⟨some 19, none, .ia 1 (.t 17) (.t 18)⟩), (1, ⟨some 20, none, .ld 1 false (.t 19)⟩), (0, ⟨some 21, none, .mv (.t 1)⟩), (0, ⟨some 22, none, .mv (.t 5)⟩), (1, ⟨some 23, none, .ia 1 (.t 21) (.t 22)⟩), (1, ⟨some 24, none, .ld 1 false (.t 23)⟩), (0, ⟨some 25, none, .bin .neq (.t 20) (.t 24)⟩)] []) (.cond (.t 25) (.seq (.reg [⟨some 4, none, .mv (.c (.bool false))⟩]) (.ret)) (.skip)))) (.reg [⟨some 15, none, .mv (.t 5)⟩, ⟨some 16, none, .bin .add (.t 15) (.c (.int .i64 1))⟩, ⟨some 5, none, .mv (.t 16)⟩]))
def F_laws_eqStringS : RF := ⟨26, 2, [.t 4],
  .seq (.reg [⟨some 4, none, .mv (.c (.bool false))⟩]) (.seq (.seq (.reg [⟨some 6, none, .mv (.t 0)⟩, ⟨some 7, none, .len false (.t 6)⟩, ⟨some 8, none, .mv (.t 1)⟩, ⟨some 9, none, .len false (.t 8)⟩, ⟨some 10, none, .bin .neq (.t 7) (.t 9)⟩]) (.cond (.t 10) (.seq (.reg [⟨some 4, none, .mv (.c (.bool false))⟩]) (.ret)) (.skip))) (.seq (.seq (.reg [⟨some 5, none, .mv (.c (.int .i64 0))⟩]) (.block 0 (.loop [0, 1, 5] [(1, []), (0, [4])] B0_laws_eqStringS))) (.seq (.reg [⟨some 4, none, .mv (.c (.bool true))⟩]) (.ret))))⟩
def K_laws_eqStringS : Keeps := [([0, 1, 5], [(1, []), (0, [4])])]
theorem r_laws_eqStringS : resolveF Try.prog Try.f74 K_laws_eqStringS = some F_laws_eqStringS := by kernel_rfl
noncomputable def X_laws_eqStringS : Ctx := fun _ => none
theorem co_laws_eqStringS : CtxOk Try.prog X_laws_eqStringS := CtxOk.nil
theorem cx_laws_eqStringS : True := trivial
noncomputable def S_laws_eqStringS : ByV := ⟨none, false, semF X_laws_eqStringS F_laws_eqStringS none false⟩
noncomputable def G_laws_eqStringS : CK := .byv S_laws_eqStringS
theorem sg_laws_eqStringS (args : List AV) : S_laws_eqStringS.sem args = semF X_laws_eqStringS F_laws_eqStringS none false args := rfl
theorem cl_laws_eqStringS (args : List AV) (hp : Hp) : callS G_laws_eqStringS args hp = byvS S_laws_eqStringS args hp := callS_byv rfl rfl args hp
theorem ok_laws_eqStringS : InlOk Try.prog 74 (callS G_laws_eqStringS) := byv_none co_laws_eqStringS Try.func74 r_laws_eqStringS rfl (fun _ _ h => h)
/- 152 laws_eqEntry calls []  -/
def F_laws_eqEntry : RF := ⟨20, 2, [.t 4],
  .seq (.reg [⟨some 2, none, .box (.t 0)⟩, ⟨some 3, none, .box (.t 1)⟩, ⟨some 4, none, .mv (.c (.bool false))⟩]) (.seq (.seq (.reg [⟨some 5, none, .fa 0 (.t 2)⟩, ⟨some 6, none, .ld 1 false (.t 5)⟩, ⟨some 7, none, .fa 0 (.t 3)⟩, ⟨some 8, none, .ld 1 false (.t 7)⟩, ⟨some 9, none, .bin .neq (.t 6) (.t 8)⟩]) (.cond (.t 9) (.seq (.reg [⟨some 4, none, .mv (.c (.bool false))⟩]) (.ret)) (.skip))) (.seq (.seq (.reg [⟨some 10, none, .fa 1 (.t 2)⟩, ⟨some 11, none, .ld 1 false (.t 10)⟩, ⟨some 12, none, .fa 1 (.t 3)⟩, ⟨some 13, none, .ld 1 false (.t 12)⟩, ⟨some 14, none, .bin .neq (.t 11) (.t 13)⟩]) (.cond (.t 14) (.seq (.reg [⟨some 4, none, .mv (.c (.bool false))⟩]) (.ret)) (.skip))) (.seq (.seq (.reg [⟨some 15, none, .fa 2 (.t 2)⟩, ⟨some 16, none, .ld 1 false (.t 15)⟩, ⟨some 17, none, .fa 2 (.t 3)⟩, ⟨some 18, none, .ld 1 false (.t 17)⟩, ⟨some 19, none, .bin .neq (.t 16) (.t 18)⟩]) (.cond (.t 19) (.seq (.reg [⟨some 4, none, .mv (.c (.bool false))⟩]) (.ret)) (.skip))) (.seq (.reg [⟨some 4, none, .mv (.c (.bool true))⟩]) (.ret)))))⟩
def K_laws_eqEntry : Keeps := []
theorem r_laws_eqEntry : resolveF Try.prog Try.f152 K_laws_eqEntry = some F_laws_eqEntry := by kernel_rfl
noncomputable def X_laws_eqEntry : Ctx := fun _ => none
theorem co_laws_eqEntry : CtxOk Try.prog X_laws_eqEntry := CtxOk.nil
theorem cx_laws_eqEntry : True := trivial
noncomputable def S_laws_eqEntry : ByV := ⟨none, false, semF X_laws_eqEntry F_laws_eqEntry none false⟩
noncomputable def G_laws_eqEntry : CK := .byv S_laws_eqEntry
theorem sg_laws_eqEntry (args : List AV) : S_laws_eqEntry.sem args = semF X_laws_eqEntry F_laws_eqEntry none false args := rfl
theorem cl_laws_eqEntry (args : List AV) (hp : Hp) : callS G_laws_eqEntry args hp = byvS S_laws_eqEntry args hp := callS_byv rfl rfl args hp
theorem ok_laws_eqEntry : InlOk Try.prog 152 (callS G_laws_eqEntry) := byv_none co_laws_eqEntry Try.func152 r_laws_eqEntry rfl (fun _ _ h => h)
/- 139 laws_eqEntryS calls [laws_eqEntry]  -/
def B0_laws_eqEntryS : RC :=
  .seq (.seq (.reg [⟨some 11, none, .mv (.t 5)⟩, ⟨some 12, none, .mv (.t 0)⟩, ⟨some 13, none, .len false (.t 12)⟩, ⟨some 14, none, .bin .lss (.t 11) (.t 13)⟩]) (.cond (.t 14) (.skip) (.exit 0))) (.seq (.block 1 (.seq (.regd [(0, ⟨some 17, none, .mv (.t 0)⟩), (0, ⟨some 18, none, .mv (.t 5)⟩), (1, ⟨some 19, none, .ia 3 (.t 17) (.t 18)⟩), (1, ⟨some 20, none, .ld 3 true (.t 19)⟩), (0, ⟨some 21, none, .mv (.t 1)⟩), (0, ⟨some 22, none, .mv (.t 5)⟩), (1, ⟨some 23, none, .ia 3 (.t 21) (.t 22)⟩), (1, ⟨some 24, none, .ld 3 true (.t 23)⟩), (1, ⟨some 25, none, .call 152 [(.t 20), (.t 24)]⟩), (0, ⟨some 26, none, .un .not (.t 25)⟩)] []) (.cond (.t 26) (.seq (.reg [⟨some 4, none, .mv (.c (.bool false))⟩]) (.ret)) (.skip)))) (.reg [⟨some 15, none, .mv (.t 5)⟩, ⟨some 16, none, .bin .add (.t 15) (.c (.int .i64 1))⟩, ⟨some 5, none, .mv (.t 16)⟩]))
def F_laws_eqEntryS : RF := ⟨27, 2, [.t 4],
  .seq (.reg [⟨some 4, none, .mv (.c (.bool false))⟩]) (.seq (.seq (.reg [⟨some 6, none, .mv (.t 0)⟩, ⟨some 7, none, .len false (.t 6)⟩, ⟨some 8, none, .mv (.t 1)⟩, ⟨some 9, none, .len false (.t 8)⟩, ⟨some 10, none, .bin .neq (.t 7) (.t 9)⟩]) (.cond (.t 10) (.seq (.reg [⟨some 4, none, .mv (.c (.bool false))⟩]) (.ret)) (.skip))) (.seq (.seq (.reg [⟨some 5, none, .mv (.c (.int .i64 0))⟩]) (.block 0 (.loop [0, 1, 5] [(1, []), (0, [4])] B0_laws_eqEntryS))) (.seq (.reg [⟨some 4, none, .mv (.c (.bool true))⟩]) (.ret))))⟩
def K_laws_eqEntryS : Keeps := [([0, 1, 5], [(1, []), (0, [4])])]
theorem r_laws_eqEntryS : resolveF Try.prog Try.f139 K_laws_eqEntryS = some F_laws_eqEntryS := by kernel_rfl
noncomputable def X_laws_eqEntryS : Ctx := Ctx.cons 152 G_laws_eqEntry (fun _ => none)
theorem co_laws_eqEntryS : CtxOk Try.prog X_laws_eqEntryS := CtxOk.cons (CtxOk.nil) ok_laws_eqEntry
theorem cx_laws_eqEntryS : ((∀ args hp, callX X_laws_eqEntryS 152 args hp = callS G_laws_eqEntry args hp) ∧ (trC (X_laws_eqEntryS 152) = false)) := ⟨fun _ _ => rfl, rfl⟩
noncomputable def S_laws_eqEntryS : ByV := ⟨none, false, semF X_laws_eqEntryS F_laws_eqEntryS none false⟩
noncomputable def G_laws_eqEntryS : CK := .byv S_laws_eqEntryS
theorem sg_laws_eqEntryS (args : List AV) : S_laws_eqEntryS.sem args = semF X_laws_eqEntryS F_laws_eqEntryS none false args := rfl
theorem cl_laws_eqEntryS (args : List AV) (hp : Hp) : callS G_laws_eqEntryS args hp = byvS S_laws_eqEntryS args hp := callS_byv rfl rfl args hp
theorem ok_laws_eqEntryS : InlOk Try.prog 139 (callS G_laws_eqEntryS) := byv_none co_laws_eqEntryS Try.func139 r_laws_eqEntryS rfl (fun _ _ h => h)
/- 112 laws_eqMonitor calls [laws_eqStringS, laws_eqEntryS]  -/
def F_laws_eqMonitor : RF := ⟨28, 2, [.t 4],
  .seq (.reg [⟨some 2, none, .box (.t 0)⟩, ⟨some 3, none, .box (.t 1)⟩, ⟨some 4, none, .mv (.c (.bool false))⟩]) (.seq (.seq (.reg [⟨some 5, none, .fa 0 (.t 2)⟩, ⟨some 6, none, .ld 1 false (.t 5)⟩, ⟨some 7, none, .fa 0 (.t 3)⟩, ⟨some 8, none, .ld 1 false (.t 7)⟩, ⟨some 9, none, .bin .neq (.t 6) (.t 8)⟩]) (.cond (.t 9) (.seq (.reg [⟨some 4, none, .mv (.c (.bool false))⟩]) (.ret)) (.skip))) (.seq (.seq (.reg [⟨some 10, none, .fa 1 (.t 2)⟩, ⟨some 11, none, .ld 1 false (.t 10)⟩, ⟨some 12, none, .fa 1 (.t 3)⟩, ⟨some 13, none, .ld 1 false (.t 12)⟩, ⟨some 14, none, .call 74 [(.t 11), (.t 13)]⟩, ⟨some 15, none, .un .not (.t 14)⟩]) (.cond (.t 15) (.seq (.reg [⟨some 4, none, .mv (.c (.bool false))⟩]) (.ret)) (.skip))) (.seq (.seq (.reg [⟨some 16, none, .fa 2 (.t 2)⟩, ⟨some 17, none, .ld 1 false (.t 16)⟩, ⟨some 18, none, .fa 2 (.t 3)⟩, ⟨some 19, none, .ld 1 false (.t 18)⟩, ⟨some 20, none, .call 74 [(.t 17), (.t 19)]⟩, ⟨some 21, none, .un .not (.t 20)⟩]) (.cond (.t 21) (.seq (.reg [⟨some 4, none, .mv (.c (.bool false))⟩]) (.ret)) (.skip))) (.seq (.seq (.reg [⟨some 22, none, .fa 3 (.t 2)⟩, ⟨some 23, none, .ld 1 false (.t 22)⟩, ⟨some 24, none, .fa 3 (.t 3)⟩, ⟨some 25, none, .ld 1 false (.t 24)⟩, ⟨some 26, none, .call 139 [(.t 23), (.t 25)]⟩, ⟨some 27, none, .un .not (.t 26)⟩]) (.cond (.t 27) (.seq (.reg [⟨some 4, none, .mv (.c (.bool false))⟩]) (.ret)) (.skip))) (.seq (.reg [⟨some 4, none, .mv (.c (.bool true))⟩]) (.ret))))))⟩
def K_laws_eqMonitor : Keeps := []
theorem r_laws_eqMonitor : resolveF Try.prog Try.f112 K_laws_eqMonitor = some F_laws_eqMonitor := by kernel_rfl
noncomputable def X_laws_eqMonitor : Ctx := Ctx.cons 74 G_laws_eqStringS (Ctx.cons 139 G_laws_eqEntryS (fun _ => none))
theorem co_laws_eqMonitor : CtxOk Try.prog X_laws_eqMonitor := CtxOk.cons (CtxOk.cons (CtxOk.nil) ok_laws_eqEntryS) ok_laws_eqStringS
theorem cx_laws_eqMonitor : ((∀ args hp, callX X_laws_eqMonitor 74 args hp = callS G_laws_eqStringS args hp) ∧ (trC (X_laws_eqMonitor 74) = false)) ∧ ((∀ args hp, callX X_laws_eqMonitor 139 args hp = callS G_laws_eqEntryS args hp) ∧ (trC (X_laws_eqMonitor 139) = false)) := ⟨⟨fun _ _ => rfl, rfl⟩, ⟨fun _ _ => rfl, rfl⟩⟩
noncomputable def S_laws_eqMonitor : ByV := ⟨none, false, semF X_laws_eqMonitor F_laws_eqMonitor none false⟩
noncomputable def G_laws_eqMonitor : CK := .byv S_laws_eqMonitor
theorem sg_laws_eqMonitor (args : List AV) : S_laws_eqMonitor.sem args = semF X_laws_eqMonitor F_laws_eqMonitor none false args := rfl
theorem cl_laws_eqMonitor (args : List AV) (hp : Hp) : callS G_laws_eqMonitor args hp = byvS S_laws_eqMonitor args hp := callS_byv rfl rfl args hp
theorem ok_laws_eqMonitor : InlOk Try.prog 112 (callS G_laws_eqMonitor) := byv_none co_laws_eqMonitor Try.func112 r_laws_eqMonitor rfl (fun _ _ h => h)
/- 64 laws_eqMonitorS calls [laws_eqMonitor]  -/
def B0_laws_eqMonitorS : RC :=
  .seq (.seq (.reg [⟨some 11, none, .mv (.t 5)⟩, ⟨some 12, none, .mv (.t 0)⟩, ⟨some 13, none, .len false (.t 12)⟩, ⟨some 14, none, .bin .lss (.t 11) (.t 13)⟩]) (.cond (.t 14) (.skip) (.exit 0))) (.seq (.block 1 (.seq (.regd [(0, ⟨some 17, none, .mv (.t 0)⟩), (0, ⟨some 18, none, .mv (.t 5)⟩), (1, ⟨some 19, none, .ia 4 (.t 17) (.t 18)⟩), (1, ⟨some 20, none, .ld 4 true (.t 19)⟩), (0, ⟨some 21, none, .mv (.t 1)⟩), (0, ⟨some 22, none, .mv (.t 5)⟩), (1, ⟨some 23, none, .ia 4 (.t 21) (.t 22)⟩), (1, ⟨some 24, none, .ld 4 true (.t 23)⟩), (1, ⟨some 25, none, .call 112 [(.t 20), (.t 24)]⟩), (0, ⟨some 26, none, .un .not (.t 25)⟩)] []) (.cond (.t 26) (.seq (.reg [⟨some 4, none, .mv (.c (.bool false))⟩]) (.ret)) (.skip)))) (.reg [⟨some 15, none, .mv (.t 5)⟩, ⟨some 16, none, .bin .add (.t 15) (.c (.int .i64 1))⟩, ⟨some 5, none, .mv (.t 16)⟩]))
def F_laws_eqMonitorS : RF := ⟨27, 2, [.t 4],
  .seq (.reg [⟨some 4, none, .mv (.c (.bool false))⟩]) (.seq (.seq (.reg [⟨some 6, none, .mv (.t 0)⟩, ⟨some 7, none, .len false (.t 6)⟩, ⟨some 8, none, .mv (.t 1)⟩, ⟨some 9, none, .len false (.t 8)⟩, ⟨some 10, none, .bin .neq (.t 7) (.t 9)⟩]) (.cond (.t 10) (.seq (.reg [⟨some 4, none, .mv (.c (.bool false))⟩]) (.ret)) (.skip))) (.seq (.seq (.reg [⟨some 5, none, .mv (.c (.int .i64 0))⟩]) (.block 0 (.loop [0, 1, 5] [(1, []), (0, [4])] B0_laws_eqMonitorS))) (.seq (.reg [⟨some 4, none, .mv (.c (.bool true))⟩]) (.ret))))⟩
def K_laws_eqMonitorS : Keeps := [([0, 1, 5], [(1, []), (0, [4])])]
theorem r_laws_eqMonitorS : resolveF Try.prog Try.f64 K_laws_eqMonitorS = some F_laws_eqMonitorS := by kernel_rfl
noncomputable def X_laws_eqMonitorS : Ctx := Ctx.cons 112 G_laws_eqMonitor (fun _ => none)
theorem co_laws_eqMonitorS : CtxOk Try.prog X_laws_eqMonitorS := CtxOk.cons (CtxOk.nil) ok_laws_eqMonitor
theorem cx_laws_eqMonitorS : ((∀ args hp, callX X_laws_eqMonitorS 112 args hp = callS G_laws_eqMonitor args hp) ∧ (trC (X_laws_eqMonitorS 112) = false)) := ⟨fun _ _ => rfl, rfl⟩
noncomputable def S_laws_eqMonitorS : ByV := ⟨none, false, semF X_laws_eqMonitorS F_laws_eqMonitorS none false⟩
noncomputable def G_laws_eqMonitorS : CK := .byv S_laws_eqMonitorS
theorem sg_laws_eqMonitorS (args : List AV) : S_laws_eqMonitorS.sem args = semF X_laws_eqMonitorS F_laws_eqMonitorS none false args := rfl
theorem cl_laws_eqMonitorS (args : List AV) (hp : Hp) : callS G_laws_eqMonitorS args hp = byvS S_laws_eqMonitorS args hp := callS_byv rfl rfl args hp
theorem ok_laws_eqMonitorS : InlOk Try.prog 64 (callS G_laws_eqMonitorS) := byv_none co_laws_eqMonitorS Try.func64 r_laws_eqMonitorS rfl (fun _ _ h => h)
/- 113 laws_eqProcess calls [laws_eqStringS]  -/
def F_laws_eqProcess : RF := ⟨27, 2, [.t 4],
  .seq (.reg [⟨some 2, none, .box (.t 0)⟩, ⟨some 3, none, .box (.t 1)⟩, ⟨some 4, none, .mv (.c (.bool false))⟩]) (.seq (.seq (.reg [⟨some 5, none, .fa 0 (.t 2)⟩, ⟨some 6, none, .ld 1 false (.t 5)⟩, ⟨some 7, none, .fa 0 (.t 3)⟩, ⟨some 8, none, .ld 1 false (.t 7)⟩, ⟨some 9, none, .bin .neq (.t 6) (.t 8)⟩]) (.cond (.t 9) (.seq (.reg [⟨some 4, none, .mv (.c (.bool false))⟩]) (.ret)) (.skip))) (.seq (.seq (.reg [⟨some 10, none, .fa 1 (.t 2)⟩, ⟨some 11, none, .ld 1 false (.t 10)⟩, ⟨some 12, none, .fa 1 (.t 3)⟩, ⟨some 13, none, .ld 1 false (.t 12)⟩, ⟨some 14, none, .call 74 [(.t 11), (.t 13)]⟩, ⟨some 15, none, .un .not (.t 14)⟩]) (.cond (.t 15) (.seq (.reg [⟨some 4, none, .mv (.c (.bool false))⟩]) (.ret)) (.skip))) (.seq (.seq (.reg [⟨some 16, none, .fa 2 (.t 2)⟩, ⟨some 17, none, .ld 1 false (.t 16)⟩, ⟨some 18, none, .fa 2 (.t 3)⟩, ⟨some 19, none, .ld 1 false (.t 18)⟩, ⟨some 20, none, .call 74 [(.t 17), (.t 19)]⟩, ⟨some 21, none, .un .not (.t 20)⟩]) (.cond (.t 21) (.seq (.reg [⟨some 4, none, .mv (.c (.bool false))⟩]) (.ret)) (.skip))) (.seq (.seq (.reg [⟨some 22, none, .fa 3 (.t 2)⟩, ⟨some 23, none, .ld 1 false (.t 22)⟩, ⟨some 24, none, .fa 3 (.t 3)⟩, ⟨some 25, none, .ld 1 false (.t 24)⟩, ⟨some 26, none, .bin .neq (.t 23) (.t 25)⟩]) (.cond (.t 26) (.seq (.reg [⟨some 4, none, .mv (.c (.bool false))⟩]) (.ret)) (.skip))) (.seq (.reg [⟨some 4, none, .mv (.c (.bool true))⟩]) (.ret))))))⟩
def K_laws_eqProcess : Keeps := []
theorem r_laws_eqProcess : resolveF Try.prog Try.f113 K_laws_eqProcess = some F_laws_eqProcess := by kernel_rfl
noncomputable def X_laws_eqProcess : Ctx := Ctx.cons 74 G_laws_eqStringS (fun _ => none)
theorem co_laws_eqProcess : CtxOk Try.prog X_laws_eqProcess := CtxOk.cons (CtxOk.nil) ok_laws_eqStringS
theorem cx_laws_eqProcess : ((∀ args hp, callX X_laws_eqProcess 74 args hp = callS G_laws_eqStringS args hp) ∧ (trC (X_laws_eqProcess 74) = false)) := ⟨fun _ _ => rfl, rfl⟩
noncomputable def S_laws_eqProcess : ByV := ⟨none, false, semF X_laws_eqProcess F_laws_eqProcess none false⟩
noncomputable def G_laws_eqProcess : CK := .byv S_laws_eqProcess
theorem sg_laws_eqProcess (args : List AV) : S_laws_eqProcess.sem args = semF X_laws_eqProcess F_laws_eqProcess none false args := rfl
theorem cl_laws_eqProcess (args : List AV) (hp : Hp) : callS G_laws_eqProcess args hp = byvS S_laws_eqProcess args hp := callS_byv rfl rfl args hp
theorem ok_laws_eqProcess : InlOk Try.prog 113 (callS G_laws_eqProcess) := byv_none co_laws_eqProcess Try.func113 r_laws_eqProcess rfl (fun _ _ h => h)
/- 65 laws_eqProcessS calls [laws_eqProcess]  -/
def B0_laws_eqProcessS : RC :=
  .seq (.seq (.reg [⟨some 11, none, .mv (.t 5)⟩, ⟨some 12, none, .mv (.t 0)⟩, ⟨some 13, none, .len false (.t 12)⟩, ⟨some 14, none, .bin .lss (.t 11) (.t 13)⟩]) (.cond (.t 14) (.skip) (.exit 0))) (.seq (.block 1 (.seq (.regd [(0, ⟨some 17, none, .mv (.t 0)⟩), (0, ⟨some 18, none, .mv (.t 5)⟩), (1, ⟨some 19, none, .ia 4 (.t 17) (.t 18)⟩), (1, ⟨some 20, none, .ld 4 true (.t 19)⟩), (0, ⟨some 21, none, .mv (.t 1)⟩), (0, ⟨some 22, none, .mv (.t 5)⟩), (1, ⟨some 23, none, .ia 4 (.t 21) (.t 22)⟩), (1, ⟨some 24, none, .ld 4 true (.t 23)⟩), (1, ⟨some 25, none, .call 113 [(.t 20), (.t 24)]⟩), (0, ⟨some 26, none, .un .not (.t 25)⟩)] []) (.cond (.t 26) (.seq (.reg [⟨some 4, none, .mv (.c (.bool false))⟩]) (.ret)) (.skip)))) (.reg [⟨some 15, none, .mv (.t 5)⟩, ⟨some 16, none, .bin .add (.t 15) (.c (.int .i64 1))⟩, ⟨some 5, none, .mv (.t 16)⟩]))
def F_laws_eqProcessS : RF := ⟨27, 2, [.t 4],
  .seq (.reg [⟨some 4, none, .mv (.c (.bool false))⟩]) (.seq (.seq (.reg [⟨some 6, none, .mv (.t 0)⟩, ⟨some 7, none, .len false (.t 6)⟩, ⟨some 8, none, .mv (.t 1)⟩, ⟨some 9, none, .len false (.t 8)⟩, ⟨some 10, none, .bin .neq (.t 7) (.t 9)⟩]) (.cond (.t 10) (.seq (.reg [⟨some 4, none, .mv (.c (.bool false))⟩]) (.ret)) (.skip))) (.seq (.seq (.reg [⟨some 5, none, .mv (.c (.int .i64 0))⟩]) (.block 0 (.loop [0, 1, 5] [(1, []), (0, [4])] B0_laws_eqProcessS))) (.seq (.reg [⟨some 4, none, .mv (.c (.bool true))⟩]) (.ret))))⟩
def K_laws_eqProcessS : Keeps := [([0, 1, 5], [(1, []), (0, [4])])]
theorem r_laws_eqProcessS : resolveF Try.prog Try.f65 K_laws_eqProcessS = some F_laws_eqProcessS := by kernel_rfl
noncomputable def X_laws_eqProcessS : Ctx := Ctx.cons 113 G_laws_eqProcess (fun _ => none)
theorem co_laws_eqProcessS : CtxOk Try.prog X_laws_eqProcessS := CtxOk.cons (CtxOk.nil) ok_laws_eqProcess
theorem cx_laws_eqProcessS : ((∀ args hp, callX X_laws_eqProcessS 113 args hp = callS G_laws_eqProcess args hp) ∧ (trC (X_laws_eqProcessS 113) = false)) := ⟨fun _ _ => rfl, rfl⟩
noncomputable def S_laws_eqProcessS : ByV := ⟨none, false, semF X_laws_eqProcessS F_laws_eqProcessS none false⟩
noncomputable def G_laws_eqProcessS : CK := .byv S_laws_eqProcessS
theorem sg_laws_eqProcessS (args : List AV) : S_laws_eqProcessS.sem args = semF X_laws_eqProcessS F_laws_eqProcessS none false args := rfl
theorem cl_laws_eqProcessS (args : List AV) (hp : Hp) : callS G_laws_eqProcessS args hp = byvS S_laws_eqProcessS args hp := callS_byv rfl rfl args hp
theorem ok_laws_eqProcessS : InlOk Try.prog 65 (callS G_laws_eqProcessS) := byv_none co_laws_eqProcessS Try.func65 r_laws_eqProcessS rfl (fun _ _ h => h)
/- 18 laws_eqProgram calls [laws_eqNodeS, laws_eqMonitorS, laws_eqProcessS]  -/
def F_laws_eqProgram : RF := ⟨23, 2, [.t 4],
  .seq (.reg [⟨some 2, none, .box (.t 0)⟩, ⟨some 3, none, .box (.t 1)⟩, ⟨some 4, none, .mv (.c (.bool false))⟩]) (.seq (.seq (.reg [⟨some 5, none, .fa 0 (.t 2)⟩, ⟨some 6, none, .ld 1 false (.t 5)⟩, ⟨some 7, none, .fa 0 (.t 3)⟩, ⟨some 8, none, .ld 1 false (.t 7)⟩, ⟨some 9, none, .call 63 [(.t 6), (.t 8)]⟩, ⟨some 10, none, .un .not (.t 9)⟩]) (.cond (.t 10) (.seq (.reg [⟨some 4, none, .mv (.c (.bool false))⟩]) (.ret)) (.skip))) (.seq (.seq (.reg [⟨some 11, none, .fa 1 (.t 2)⟩, ⟨some 12, none, .ld 1 false (.t 11)⟩, ⟨some 13, none, .fa 1 (.t 3)⟩, ⟨some 14, none, .ld 1 false (.t 13)⟩, ⟨some 15, none, .call 64 [(.t 12), (.t 14)]⟩, ⟨some 16, none, .un .not (.t 15)⟩]) (.cond (.t 16) (.seq (.reg [⟨some 4, none, .mv (.c (.bool false))⟩]) (.ret)) (.skip))) (.seq (.seq (.reg [⟨some 17, none, .fa 2 (.t 2)⟩, ⟨some 18, none, .ld 1 false (.t 17)⟩, ⟨some 19, none, .fa 2 (.t 3)⟩, ⟨some 20, none, .ld 1 false (.t 19)⟩, ⟨some 21, none, .call 65 [(.t 18), (.t 20)]⟩, ⟨some 22, none, .un .not (.t 21)⟩]) (.cond (.t 22) (.seq (.reg [⟨some 4, none, .mv (.c (.bool false))⟩]) (.ret)) (.skip))) (.seq (.reg [⟨some 4, none, .mv (.c (.bool true))⟩]) (.ret)))))⟩
def K_laws_eqProgram : Keeps := []
theorem r_laws_eqProgram : resolveF Try.prog Try.f18 K_laws_eqProgram = some F_laws_eqProgram := by kernel_rfl
noncomputable def X_laws_eqProgram : Ctx := Ctx.cons 63 G_laws_eqNodeS (Ctx.cons 64 G_laws_eqMonitorS (Ctx.cons 65 G_laws_eqProcessS (fun _ => none)))
theorem co_laws_eqProgram : CtxOk Try.prog X_laws_eqProgram := CtxOk.cons (CtxOk.cons (CtxOk.cons (CtxOk.nil) ok_laws_eqProcessS) ok_laws_eqMonitorS) ok_laws_eqNodeS
theorem cx_laws_eqProgram : ((∀ args hp, callX X_laws_eqProgram 63 args hp = callS G_laws_eqNodeS args hp) ∧ (trC (X_laws_eqProgram 63) = false)) ∧ ((∀ args hp, callX X_laws_eqProgram 64 args hp = callS G_laws_eqMonitorS args hp) ∧ (trC (X_laws_eqProgram 64) = false)) ∧ ((∀ args hp, callX X_laws_eqProgram 65 args hp = callS G_laws_eqProcessS args hp) ∧ (trC (X_laws_eqProgram 65) = false)) := ⟨⟨fun _ _ => rfl, rfl⟩, ⟨fun _ _ => rfl, rfl⟩, ⟨fun _ _ => rfl, rfl⟩⟩
noncomputable def S_laws_eqProgram : ByV := ⟨none, false, semF X_laws_eqProgram F_laws_eqProgram none false⟩
noncomputable def G_laws_eqProgram : CK := .byv S_laws_eqProgram
theorem sg_laws_eqProgram (args : List AV) : S_laws_eqProgram.sem args = semF X_laws_eqProgram F_laws_eqProgram none false args := rfl
theorem cl_laws_eqProgram (args : List AV) (hp : Hp) : callS G_laws_eqProgram args hp = byvS S_laws_eqProgram args hp := callS_byv rfl rfl args hp
theorem ok_laws_eqProgram : InlOk Try.prog 18 (callS G_laws_eqProgram) := byv_none co_laws_eqProgram Try.func18 r_laws_eqProgram rfl (fun _ _ h => h)
/- 4 laws_FnExactRegsOf calls [laws_szProgram, laws_toProgram, spec_RegsOf, impl_RegsOf, laws_eqProgram]  -/
def F_laws_FnExactRegsOf : RF := ⟨31, 2, [.t 4],
  .seq (.reg [⟨some 2, none, .box (.t 0)⟩, ⟨some 4, none, .mv (.c (.bool false))⟩]) (.seq (.reg [⟨some 5, none, .mv (.c (.int .i64 1048576))⟩]) (.seq (.reg [⟨some 9, none, .ld 3 true (.t 2)⟩, ⟨some 10, none, .mv (.t 5)⟩, ⟨some 11, none, .call 14 [(.t 9), (.t 10)]⟩, ⟨some 5, none, .mv (.t 11)⟩]) (.seq (.seq (.reg [⟨some 12, none, .mv (.t 5)⟩, ⟨some 13, none, .bin .lss (.t 12) (.c (.int .i64 0))⟩]) (.cond (.t 13) (.seq (.reg [⟨some 4, none, .mv (.c (.bool true))⟩]) (.ret)) (.skip))) (.seq (.reg [⟨some 14, none, .ld 3 true (.t 2)⟩, ⟨some 15, none, .call 16 [(.t 14)]⟩, ⟨some 16, none, .mv (.t 1)⟩, ⟨some 17, none, .call 15 [(.t 15), (.t 16)]⟩, ⟨some 6, none, .mv (.t 17)⟩]) (.seq (.reg [⟨some 18, none, .ld 3 true (.t 2)⟩, ⟨some 19, none, .call 16 [(.t 18)]⟩, ⟨some 7, none, .new [(.nil 6), (.nil 4), (.nil 4)]⟩, ⟨none, none, .st 3 (.t 7) (.t 19)⟩]) (.seq (.reg [⟨some 20, none, .ld 3 true (.t 7)⟩, ⟨some 21, none, .mv (.t 1)⟩, ⟨some 22, none, .call 17 [(.t 20), (.t 21)]⟩, ⟨some 8, none, .mv (.t 22)⟩]) (.seq (.seq (.reg [⟨some 23, none, .mv (.t 8)⟩, ⟨some 24, none, .mv (.t 6)⟩, ⟨some 25, none, .bin .neq (.t 23) (.t 24)⟩]) (.cond (.t 25) (.seq (.reg [⟨some 4, none, .mv (.c (.bool false))⟩]) (.ret)) (.skip))) (.seq (.seq (.regd [(2, ⟨some 26, none, .ld 3 true (.t 7)⟩), (1, ⟨some 27, none, .ld 3 true (.t 2)⟩), (2, ⟨some 28, none, .call 16 [(.t 27)]⟩), (1, ⟨some 29, none, .call 18 [(.t 26), (.t 28)]⟩), (0, ⟨some 30, none, .un .not (.t 29)⟩)] [(0, 2)]) (.cond (.t 30) (.seq (.reg [⟨some 4, none, .mv (.c (.bool false))⟩]) (.ret)) (.skip))) (.seq (.reg [⟨some 4, none, .mv (.c (.bool true))⟩]) (.ret))))))))))⟩
def K_laws_FnExactRegsOf : Keeps := []
theorem r_laws_FnExactRegsOf : resolveF Try.prog Try.f4 K_laws_FnExactRegsOf = some F_laws_FnExactRegsOf := by kernel_rfl
noncomputable def X_laws_FnExactRegsOf : Ctx := Ctx.cons 14 G_laws_szProgram (Ctx.cons 16 G_laws_toProgram (Ctx.cons 15 G_spec_RegsOf (Ctx.cons 17 G_impl_RegsOf (Ctx.cons 18 G_laws_eqProgram (fun _ => none)))))
theorem co_laws_FnExactRegsOf : CtxOk Try.prog X_laws_FnExactRegsOf := CtxOk.cons (CtxOk.cons (CtxOk.cons (CtxOk.cons (CtxOk.cons (CtxOk.nil) ok_laws_eqProgram) ok_impl_RegsOf) ok_spec_RegsOf) ok_laws_toProgram) ok_laws_szProgram
theorem cx_laws_FnExactRegsOf : ((∀ args hp, callX X_laws_FnExactRegsOf 14 args hp = callS G_laws_szProgram args hp) ∧ (trC (X_laws_FnExactRegsOf 14) = false)) ∧ ((∀ args hp, callX X_laws_FnExactRegsOf 16 args hp = callS G_laws_toProgram args hp) ∧ (trC (X_laws_FnExactRegsOf 16) = false)) ∧ ((∀ args hp, callX X_laws_FnExactRegsOf 15 args hp = callS G_spec_RegsOf args hp) ∧ (trC (X_laws_FnExactRegsOf 15) = false)) ∧ ((∀ args hp, callX X_laws_FnExactRegsOf 17 args hp = callS G_impl_RegsOf args hp) ∧ (trC (X_laws_FnExactRegsOf 17) = false)) ∧ ((∀ args hp, callX X_laws_FnExactRegsOf 18 args hp = callS G_laws_eqProgram args hp) ∧ (trC (X_laws_FnExactRegsOf 18) = false)) := ⟨⟨fun _ _ => rfl, rfl⟩, ⟨fun _ _ => rfl, rfl⟩, ⟨fun _ _ => rfl, rfl⟩, ⟨fun _ _ => rfl, rfl⟩, ⟨fun _ _ => rfl, rfl⟩⟩
end Go.Proofs.Ytdhmlhlpdejefaa.AI
