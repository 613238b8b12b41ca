/- The functions that the law FnExactVerdictOf reaches, in the reckoner's words. -/
import Derived.Test.YtfecgljlnfoheaaAOpen2
import Derived.Test.YtfecgljlnfoheaaChecked
import Derived.ProofKit
namespace Go.Proofs.Ytfecgljlnfoheaa.AI
open Go.Proofs
set_option linter.all false
set_option maxRecDepth 100000
/- 117 laws_szIntS calls []  -/
def F_laws_szIntS : RF := ⟨12, 2, [.t 4],
  .seq (.reg [⟨some 4, none, .mv (.c (.int .i64 0))⟩]) (.seq (.reg [⟨some 5, none, .mv (.t 1)⟩, ⟨some 6, none, .mv (.t 0)⟩, ⟨some 7, none, .len false (.t 6)⟩, ⟨some 8, none, .bin .sub (.t 5) (.t 7)⟩, ⟨some 1, none, .mv (.t 8)⟩]) (.seq (.seq (.reg [⟨some 9, none, .mv (.t 1)⟩, ⟨some 10, none, .bin .lss (.t 9) (.c (.int .i64 0))⟩]) (.cond (.t 10) (.seq (.reg [⟨some 4, none, .mv (.c (.int .i64 (-1)))⟩]) (.ret)) (.skip))) (.seq (.reg [⟨some 11, none, .mv (.t 1)⟩, ⟨some 4, none, .mv (.t 11)⟩]) (.ret))))⟩
def K_laws_szIntS : Keeps := []
theorem r_laws_szIntS : resolveF Try.prog Try.f117 K_laws_szIntS = some F_laws_szIntS := by kernel_rfl
noncomputable def X_laws_szIntS : Ctx := fun _ => none
theorem co_laws_szIntS : CtxOk Try.prog X_laws_szIntS := CtxOk.nil
theorem cx_laws_szIntS : True := trivial
noncomputable def S_laws_szIntS : ByV := ⟨none, false, semF X_laws_szIntS F_laws_szIntS none false⟩
noncomputable def G_laws_szIntS : CK := .byv S_laws_szIntS
theorem sg_laws_szIntS (args : List AV) : S_laws_szIntS.sem args = semF X_laws_szIntS F_laws_szIntS none false args := rfl
theorem cl_laws_szIntS (args : List AV) (hp : Hp) : callS G_laws_szIntS args hp = byvS S_laws_szIntS args hp := callS_byv rfl rfl args hp
theorem ok_laws_szIntS : InlOk Try.prog 117 (callS G_laws_szIntS) := byv_none co_laws_szIntS Try.func117 r_laws_szIntS rfl (fun _ _ h => h)
/- 172 laws_szNode calls [laws_szIntS]  -/
def F_laws_szNode : RF := ⟨33, 2, [.t 4],
  .seq (.reg [⟨some 2, none, .box (.t 0)⟩, ⟨some 4, none, .mv (.c (.int .i64 0))⟩]) (.seq (.reg [⟨some 5, none, .mv (.t 1)⟩, ⟨some 6, none, .fa 2 (.t 2)⟩, ⟨some 7, none, .ld 1 false (.t 6)⟩, ⟨some 8, none, .len true (.t 7)⟩, ⟨some 9, none, .bin .sub (.t 5) (.t 8)⟩, ⟨some 1, none, .mv (.t 9)⟩]) (.seq (.seq (.reg [⟨some 10, none, .mv (.t 1)⟩, ⟨some 11, none, .bin .lss (.t 10) (.c (.int .i64 0))⟩]) (.cond (.t 11) (.seq (.reg [⟨some 4, none, .mv (.c (.int .i64 (-1)))⟩]) (.ret)) (.skip))) (.seq (.reg [⟨some 12, none, .mv (.t 1)⟩, ⟨some 13, none, .fa 3 (.t 2)⟩, ⟨some 14, none, .ld 1 false (.t 13)⟩, ⟨some 15, none, .len true (.t 14)⟩, ⟨some 16, none, .bin .sub (.t 12) (.t 15)⟩, ⟨some 1, none, .mv (.t 16)⟩]) (.seq (.seq (.reg [⟨some 17, none, .mv (.t 1)⟩, ⟨some 18, none, .bin .lss (.t 17) (.c (.int .i64 0))⟩]) (.cond (.t 18) (.seq (.reg [⟨some 4, none, .mv (.c (.int .i64 (-1)))⟩]) (.ret)) (.skip))) (.seq (.reg [⟨some 19, none, .mv (.t 1)⟩, ⟨some 20, none, .fa 4 (.t 2)⟩, ⟨some 21, none, .ld 1 false (.t 20)⟩, ⟨some 22, none, .len true (.t 21)⟩, ⟨some 23, none, .bin .sub (.t 19) (.t 22)⟩, ⟨some 1, none, .mv (.t 23)⟩]) (.seq (.seq (.reg [⟨some 24, none, .mv (.t 1)⟩, ⟨some 25, none, .bin .lss (.t 24) (.c (.int .i64 0))⟩]) (.cond (.t 25) (.seq (.reg [⟨some 4, none, .mv (.c (.int .i64 (-1)))⟩]) (.ret)) (.skip))) (.seq (.reg [⟨some 26, none, .fa 5 (.t 2)⟩, ⟨some 27, none, .ld 1 false (.t 26)⟩, ⟨some 28, none, .mv (.t 1)⟩, ⟨some 29, none, .call 117 [(.t 27), (.t 28)]⟩, ⟨some 1, none, .mv (.t 29)⟩]) (.seq (.seq (.reg [⟨some 30, none, .mv (.t 1)⟩, ⟨some 31, none, .bin .lss (.t 30) (.c (.int .i64 0))⟩]) (.cond (.t 31) (.seq (.reg [⟨some 4, none, .mv (.c (.int .i64 (-1)))⟩]) (.ret)) (.skip))) (.seq (.reg [⟨some 32, none, .mv (.t 1)⟩, ⟨some 4, none, .mv (.t 32)⟩]) (.ret))))))))))⟩
def K_laws_szNode : Keeps := []
theorem r_laws_szNode : resolveF Try.prog Try.f172 K_laws_szNode = some F_laws_szNode := by kernel_rfl
noncomputable def X_laws_szNode : Ctx := Ctx.cons 117 G_laws_szIntS (fun _ => none)
theorem co_laws_szNode : CtxOk Try.prog X_laws_szNode := CtxOk.cons (CtxOk.nil) ok_laws_szIntS
theorem cx_laws_szNode : ((∀ args hp, callX X_laws_szNode 117 args hp = callS G_laws_szIntS args hp) ∧ (trC (X_laws_szNode 117) = false)) := ⟨fun _ _ => rfl, rfl⟩
noncomputable def S_laws_szNode : ByV := ⟨none, false, semF X_laws_szNode F_laws_szNode none false⟩
noncomputable def G_laws_szNode : CK := .byv S_laws_szNode
theorem sg_laws_szNode (args : List AV) : S_laws_szNode.sem args = semF X_laws_szNode F_laws_szNode none false args := rfl
theorem cl_laws_szNode (args : List AV) (hp : Hp) : callS G_laws_szNode args hp = byvS S_laws_szNode args hp := callS_byv rfl rfl args hp
theorem ok_laws_szNode : InlOk Try.prog 172 (callS G_laws_szNode) := byv_none co_laws_szNode Try.func172 r_laws_szNode rfl (fun _ _ h => h)
/- 89 laws_szNodeS calls [laws_szNode]  -/
def B0_laws_szNodeS : RC :=
  .seq (.seq (.reg [⟨some 12, none, .mv (.t 5)⟩, ⟨some 13, none, .mv (.t 0)⟩, ⟨some 14, none, .len false (.t 13)⟩, ⟨some 15, none, .bin .lss (.t 12) (.t 14)⟩]) (.cond (.t 15) (.skip) (.exit 0))) (.seq (.block 1 (.seq (.reg [⟨some 18, none, .mv (.t 0)⟩, ⟨some 19, none, .mv (.t 5)⟩, ⟨some 20, none, .ia 6 (.t 18) (.t 19)⟩, ⟨some 21, none, .ld 6 true (.t 20)⟩, ⟨some 22, none, .mv (.t 1)⟩, ⟨some 23, none, .call 172 [(.t 21), (.t 22)]⟩, ⟨some 1, none, .mv (.t 23)⟩]) (.seq (.reg [⟨some 24, none, .mv (.t 1)⟩, ⟨some 25, none, .bin .lss (.t 24) (.c (.int .i64 0))⟩]) (.cond (.t 25) (.seq (.reg [⟨some 4, none, .mv (.c (.int .i64 (-1)))⟩]) (.ret)) (.skip))))) (.reg [⟨some 16, none, .mv (.t 5)⟩, ⟨some 17, none, .bin .add (.t 16) (.c (.int .i64 1))⟩, ⟨some 5, none, .mv (.t 17)⟩]))
def F_laws_szNodeS : RF := ⟨27, 2, [.t 4],
  .seq (.reg [⟨some 4, none, .mv (.c (.int .i64 0))⟩]) (.seq (.reg [⟨some 6, none, .mv (.t 1)⟩, ⟨some 7, none, .mv (.t 0)⟩, ⟨some 8, none, .len false (.t 7)⟩, ⟨some 9, none, .bin .sub (.t 6) (.t 8)⟩, ⟨some 1, none, .mv (.t 9)⟩]) (.seq (.seq (.reg [⟨some 10, none, .mv (.t 1)⟩, ⟨some 11, none, .bin .lss (.t 10) (.c (.int .i64 0))⟩]) (.cond (.t 11) (.seq (.reg [⟨some 4, none, .mv (.c (.int .i64 (-1)))⟩]) (.ret)) (.skip))) (.seq (.seq (.reg [⟨some 5, none, .mv (.c (.int .i64 0))⟩]) (.block 0 (.loop [0, 1, 5] [(1, [1]), (0, [4])] B0_laws_szNodeS))) (.seq (.reg [⟨some 26, none, .mv (.t 1)⟩, ⟨some 4, none, .mv (.t 26)⟩]) (.ret)))))⟩
def K_laws_szNodeS : Keeps := [([0, 1, 5], [(1, [1]), (0, [4])])]
theorem r_laws_szNodeS : resolveF Try.prog Try.f89 K_laws_szNodeS = some F_laws_szNodeS := by kernel_rfl
noncomputable def X_laws_szNodeS : Ctx := Ctx.cons 172 G_laws_szNode (fun _ => none)
theorem co_laws_szNodeS : CtxOk Try.prog X_laws_szNodeS := CtxOk.cons (CtxOk.nil) ok_laws_szNode
theorem cx_laws_szNodeS : ((∀ args hp, callX X_laws_szNodeS 172 args hp = callS G_laws_szNode args hp) ∧ (trC (X_laws_szNodeS 172) = false)) := ⟨fun _ _ => rfl, rfl⟩
noncomputable def S_laws_szNodeS : ByV := ⟨none, false, semF X_laws_szNodeS F_laws_szNodeS none false⟩
noncomputable def G_laws_szNodeS : CK := .byv S_laws_szNodeS
theorem sg_laws_szNodeS (args : List AV) : S_laws_szNodeS.sem args = semF X_laws_szNodeS F_laws_szNodeS none false args := rfl
theorem cl_laws_szNodeS (args : List AV) (hp : Hp) : callS G_laws_szNodeS args hp = byvS S_laws_szNodeS args hp := callS_byv rfl rfl args hp
theorem ok_laws_szNodeS : InlOk Try.prog 89 (callS G_laws_szNodeS) := byv_none co_laws_szNodeS Try.func89 r_laws_szNodeS rfl (fun _ _ h => h)
/- 155 laws_szStringS calls []  -/
def B0_laws_szStringS : RC :=
  .seq (.seq (.reg [⟨some 12, none, .mv (.t 5)⟩, ⟨some 13, none, .mv (.t 0)⟩, ⟨some 14, none, .len false (.t 13)⟩, ⟨some 15, none, .bin .lss (.t 12) (.t 14)⟩]) (.cond (.t 15) (.skip) (.exit 0))) (.seq (.block 1 (.seq (.reg [⟨some 18, none, .mv (.t 1)⟩, ⟨some 19, none, .mv (.t 0)⟩, ⟨some 20, none, .mv (.t 5)⟩, ⟨some 21, none, .ia 1 (.t 19) (.t 20)⟩, ⟨some 22, none, .ld 1 false (.t 21)⟩, ⟨some 23, none, .len true (.t 22)⟩, ⟨some 24, none, .bin .sub (.t 18) (.t 23)⟩, ⟨some 1, none, .mv (.t 24)⟩]) (.seq (.reg [⟨some 25, none, .mv (.t 1)⟩, ⟨some 26, none, .bin .lss (.t 25) (.c (.int .i64 0))⟩]) (.cond (.t 26) (.seq (.reg [⟨some 4, none, .mv (.c (.int .i64 (-1)))⟩]) (.ret)) (.skip))))) (.reg [⟨some 16, none, .mv (.t 5)⟩, ⟨some 17, none, .bin .add (.t 16) (.c (.int .i64 1))⟩, ⟨some 5, none, .mv (.t 17)⟩]))
def F_laws_szStringS : RF := ⟨28, 2, [.t 4],
  .seq (.reg [⟨some 4, none, .mv (.c (.int .i64 0))⟩]) (.seq (.reg [⟨some 6, none, .mv (.t 1)⟩, ⟨some 7, none, .mv (.t 0)⟩, ⟨some 8, none, .len false (.t 7)⟩, ⟨some 9, none, .bin .sub (.t 6) (.t 8)⟩, ⟨some 1, none, .mv (.t 9)⟩]) (.seq (.seq (.reg [⟨some 10, none, .mv (.t 1)⟩, ⟨some 11, none, .bin .lss (.t 10) (.c (.int .i64 0))⟩]) (.cond (.t 11) (.seq (.reg [⟨some 4, none, .mv (.c (.int .i64 (-1)))⟩]) (.ret)) (.skip))) (.seq (.seq (.reg [⟨some 5, none, .mv (.c (.int .i64 0))⟩]) (.block 0 (.loop [0, 1, 5] [(1, [1]), (0, [4])] B0_laws_szStringS))) (.seq (.reg [⟨some 27, none, .mv (.t 1)⟩, ⟨some 4, none, .mv (.t 27)⟩]) (.ret)))))⟩
def K_laws_szStringS : Keeps := [([0, 1, 5], [(1, [1]), (0, [4])])]
theorem r_laws_szStringS : resolveF Try.prog Try.f155 K_laws_szStringS = some F_laws_szStringS := by kernel_rfl
noncomputable def X_laws_szStringS : Ctx := fun _ => none
theorem co_laws_szStringS : CtxOk Try.prog X_laws_szStringS := CtxOk.nil
theorem cx_laws_szStringS : True := trivial
noncomputable def S_laws_szStringS : ByV := ⟨none, false, semF X_laws_szStringS F_laws_szStringS none false⟩
noncomputable def G_laws_szStringS : CK := .byv S_laws_szStringS
theorem sg_laws_szStringS (args : List AV) : S_laws_szStringS.sem args = semF X_laws_szStringS F_laws_szStringS none false args := rfl
theorem cl_laws_szStringS (args : List AV) (hp : Hp) : callS G_laws_szStringS args hp = byvS S_laws_szStringS args hp := callS_byv rfl rfl args hp
theorem ok_laws_szStringS : InlOk Try.prog 155 (callS G_laws_szStringS) := byv_none co_laws_szStringS Try.func155 r_laws_szStringS rfl (fun _ _ h => h)
/- 241 laws_szEntry calls []  -/
def F_laws_szEntry : RF := ⟨20, 2, [.t 4],
  .seq (.reg [⟨some 2, none, .box (.t 0)⟩, ⟨some 4, none, .mv (.c (.int .i64 0))⟩]) (.seq (.reg [⟨some 5, none, .mv (.t 1)⟩, ⟨some 6, none, .fa 0 (.t 2)⟩, ⟨some 7, none, .ld 1 false (.t 6)⟩, ⟨some 8, none, .len true (.t 7)⟩, ⟨some 9, none, .bin .sub (.t 5) (.t 8)⟩, ⟨some 1, none, .mv (.t 9)⟩]) (.seq (.seq (.reg [⟨some 10, none, .mv (.t 1)⟩, ⟨some 11, none, .bin .lss (.t 10) (.c (.int .i64 0))⟩]) (.cond (.t 11) (.seq (.reg [⟨some 4, none, .mv (.c (.int .i64 (-1)))⟩]) (.ret)) (.skip))) (.seq (.reg [⟨some 12, none, .mv (.t 1)⟩, ⟨some 13, none, .fa 1 (.t 2)⟩, ⟨some 14, none, .ld 1 false (.t 13)⟩, ⟨some 15, none, .len true (.t 14)⟩, ⟨some 16, none, .bin .sub (.t 12) (.t 15)⟩, ⟨some 1, none, .mv (.t 16)⟩]) (.seq (.seq (.reg [⟨some 17, none, .mv (.t 1)⟩, ⟨some 18, none, .bin .lss (.t 17) (.c (.int .i64 0))⟩]) (.cond (.t 18) (.seq (.reg [⟨some 4, none, .mv (.c (.int .i64 (-1)))⟩]) (.ret)) (.skip))) (.seq (.reg [⟨some 19, none, .mv (.t 1)⟩, ⟨some 4, none, .mv (.t 19)⟩]) (.ret))))))⟩
def K_laws_szEntry : Keeps := []
theorem r_laws_szEntry : resolveF Try.prog Try.f241 K_laws_szEntry = some F_laws_szEntry := by kernel_rfl
noncomputable def X_laws_szEntry : Ctx := fun _ => none
theorem co_laws_szEntry : CtxOk Try.prog X_laws_szEntry := CtxOk.nil
theorem cx_laws_szEntry : True := trivial
noncomputable def S_laws_szEntry : ByV := ⟨none, false, semF X_laws_szEntry F_laws_szEntry none false⟩
noncomputable def G_laws_szEntry : CK := .byv S_laws_szEntry
theorem sg_laws_szEntry (args : List AV) : S_laws_szEntry.sem args = semF X_laws_szEntry F_laws_szEntry none false args := rfl
theorem cl_laws_szEntry (args : List AV) (hp : Hp) : callS G_laws_szEntry args hp = byvS S_laws_szEntry args hp := callS_byv rfl rfl args hp
theorem ok_laws_szEntry : InlOk Try.prog 241 (callS G_laws_szEntry) := byv_none co_laws_szEntry Try.func241 r_laws_szEntry rfl (fun _ _ h => h)
/- 221 laws_szEntryS calls [laws_szEntry]  -/
def B0_laws_szEntryS : RC :=
  .seq (.seq (.reg [⟨some 12, none, .mv (.t 5)⟩, ⟨some 13, none, .mv (.t 0)⟩, ⟨some 14, none, .len false (.t 13)⟩, ⟨some 15, none, .bin .lss (.t 12) (.t 14)⟩]) (.cond (.t 15) (.skip) (.exit 0))) (.seq (.block 1 (.seq (.reg [⟨some 18, none, .mv (.t 0)⟩, ⟨some 19, none, .mv (.t 5)⟩, ⟨some 20, none, .ia 3 (.t 18) (.t 19)⟩, ⟨some 21, none, .ld 3 true (.t 20)⟩, ⟨some 22, none, .mv (.t 1)⟩, ⟨some 23, none, .call 241 [(.t 21), (.t 22)]⟩, ⟨some 1, none, .mv (.t 23)⟩]) (.seq (.reg [⟨some 24, none, .mv (.t 1)⟩, ⟨some 25, none, .bin .lss (.t 24) (.c (.int .i64 0))⟩]) (.cond (.t 25) (.seq (.reg [⟨some 4, none, .mv (.c (.int .i64 (-1)))⟩]) (.ret)) (.skip))))) (.reg [⟨some 16, none, .mv (.t 5)⟩, ⟨some 17, none, .bin .add (.t 16) (.c (.int .i64 1))⟩, ⟨some 5, none, .mv (.t 17)⟩]))
def F_laws_szEntryS : RF := ⟨27, 2, [.t 4],
  .seq (.reg [⟨some 4, none, .mv (.c (.int .i64 0))⟩]) (.seq (.reg [⟨some 6, none, .mv (.t 1)⟩, ⟨some 7, none, .mv (.t 0)⟩, ⟨some 8, none, .len false (.t 7)⟩, ⟨some 9, none, .bin .sub (.t 6) (.t 8)⟩, ⟨some 1, none, .mv (.t 9)⟩]) (.seq (.seq (.reg [⟨some 10, none, .mv (.t 1)⟩, ⟨some 11, none, .bin .lss (.t 10) (.c (.int .i64 0))⟩]) (.cond (.t 11) (.seq (.reg [⟨some 4, none, .mv (.c (.int .i64 (-1)))⟩]) (.ret)) (.skip))) (.seq (.seq (.reg [⟨some 5, none, .mv (.c (.int .i64 0))⟩]) (.block 0 (.loop [0, 1, 5] [(1, [1]), (0, [4])] B0_laws_szEntryS))) (.seq (.reg [⟨some 26, none, .mv (.t 1)⟩, ⟨some 4, none, .mv (.t 26)⟩]) (.ret)))))⟩
def K_laws_szEntryS : Keeps := [([0, 1, 5], [(1, [1]), (0, [4])])]
theorem r_laws_szEntryS : resolveF Try.prog Try.f221 K_laws_szEntryS = some F_laws_szEntryS := by kernel_rfl
noncomputable def X_laws_szEntryS : Ctx := Ctx.cons 241 G_laws_szEntry (fun _ => none)
theorem co_laws_szEntryS : CtxOk Try.prog X_laws_szEntryS := CtxOk.cons (CtxOk.nil) ok_laws_szEntry
theorem cx_laws_szEntryS : ((∀ args hp, callX X_laws_szEntryS 241 args hp = callS G_laws_szEntry args hp) ∧ (trC (X_laws_szEntryS 241) = false)) := ⟨fun _ _ => rfl, rfl⟩
noncomputable def S_laws_szEntryS : ByV := ⟨none, false, semF X_laws_szEntryS F_laws_szEntryS none false⟩
noncomputable def G_laws_szEntryS : CK := .byv S_laws_szEntryS
theorem sg_laws_szEntryS (args : List AV) : S_laws_szEntryS.sem args = semF X_laws_szEntryS F_laws_szEntryS none false args := rfl
theorem cl_laws_szEntryS (args : List AV) (hp : Hp) : callS G_laws_szEntryS args hp = byvS S_laws_szEntryS args hp := callS_byv rfl rfl args hp
theorem ok_laws_szEntryS : InlOk Try.prog 221 (callS G_laws_szEntryS) := byv_none co_laws_szEntryS Try.func221 r_laws_szEntryS rfl (fun _ _ h => h)
/- 173 laws_szMonitor calls [laws_szStringS, laws_szEntryS]  -/
def F_laws_szMonitor : RF := ⟨31, 2, [.t 4],
  .seq (.reg [⟨some 2, none, .box (.t 0)⟩, ⟨some 4, none, .mv (.c (.int .i64 0))⟩]) (.seq (.reg [⟨some 5, none, .mv (.t 1)⟩, ⟨some 6, none, .fa 0 (.t 2)⟩, ⟨some 7, none, .ld 1 false (.t 6)⟩, ⟨some 8, none, .len true (.t 7)⟩, ⟨some 9, none, .bin .sub (.t 5) (.t 8)⟩, ⟨some 1, none, .mv (.t 9)⟩]) (.seq (.seq (.reg [⟨some 10, none, .mv (.t 1)⟩, ⟨some 11, none, .bin .lss (.t 10) (.c (.int .i64 0))⟩]) (.cond (.t 11) (.seq (.reg [⟨some 4, none, .mv (.c (.int .i64 (-1)))⟩]) (.ret)) (.skip))) (.seq (.reg [⟨some 12, none, .fa 1 (.t 2)⟩, ⟨some 13, none, .ld 1 false (.t 12)⟩, ⟨some 14, none, .mv (.t 1)⟩, ⟨some 15, none, .call 155 [(.t 13), (.t 14)]⟩, ⟨some 1, none, .mv (.t 15)⟩]) (.seq (.seq (.reg [⟨some 16, none, .mv (.t 1)⟩, ⟨some 17, none, .bin .lss (.t 16) (.c (.int .i64 0))⟩]) (.cond (.t 17) (.seq (.reg [⟨some 4, none, .mv (.c (.int .i64 (-1)))⟩]) (.ret)) (.skip))) (.seq (.reg [⟨some 18, none, .fa 2 (.t 2)⟩, ⟨some 19, none, .ld 1 false (.t 18)⟩, ⟨some 20, none, .mv (.t 1)⟩, ⟨some 21, none, .call 155 [(.t 19), (.t 20)]⟩, ⟨some 1, none, .mv (.t 21)⟩]) (.seq (.seq (.reg [⟨some 22, none, .mv (.t 1)⟩, ⟨some 23, none, .bin .lss (.t 22) (.c (.int .i64 0))⟩]) (.cond (.t 23) (.seq (.reg [⟨some 4, none, .mv (.c (.int .i64 (-1)))⟩]) (.ret)) (.skip))) (.seq (.reg [⟨some 24, none, .fa 3 (.t 2)⟩, ⟨some 25, none, .ld 1 false (.t 24)⟩, ⟨some 26, none, .mv (.t 1)⟩, ⟨some 27, none, .call 221 [(.t 25), (.t 26)]⟩, ⟨some 1, none, .mv (.t 27)⟩]) (.seq (.seq (.reg [⟨some 28, none, .mv (.t 1)⟩, ⟨some 29, none, .bin .lss (.t 28) (.c (.int .i64 0))⟩]) (.cond (.t 29) (.seq (.reg [⟨some 4, none, .mv (.c (.int .i64 (-1)))⟩]) (.ret)) (.skip))) (.seq (.reg [⟨some 30, none, .mv (.t 1)⟩, ⟨some 4, none, .mv (.t 30)⟩]) (.ret))))))))))⟩
def K_laws_szMonitor : Keeps := []
theorem r_laws_szMonitor : resolveF Try.prog Try.f173 K_laws_szMonitor = some F_laws_szMonitor := by kernel_rfl
noncomputable def X_laws_szMonitor : Ctx := Ctx.cons 155 G_laws_szStringS (Ctx.cons 221 G_laws_szEntryS (fun _ => none))
theorem co_laws_szMonitor : CtxOk Try.prog X_laws_szMonitor := CtxOk.cons (CtxOk.cons (CtxOk.nil) ok_laws_szEntryS) ok_laws_szStringS
theorem cx_laws_szMonitor : ((∀ args hp, callX X_laws_szMonitor 155 args hp = callS G_laws_szStringS args hp) ∧ (trC (X_laws_szMonitor 155) = false)) ∧ ((∀ args hp, callX X_laws_szMonitor 221 args hp = callS G_laws_szEntryS args hp) ∧ (trC (X_laws_szMonitor 221) = false)) := ⟨⟨fun _ _ => rfl, rfl⟩, ⟨fun _ _ => rfl, rfl⟩⟩
noncomputable def S_laws_szMonitor : ByV := ⟨none, false, semF X_laws_szMonitor F_laws_szMonitor none false⟩
noncomputable def G_laws_szMonitor : CK := .byv S_laws_szMonitor
theorem sg_laws_szMonitor (args : List AV) : S_laws_szMonitor.sem args = semF X_laws_szMonitor F_laws_szMonitor none false args := rfl
theorem cl_laws_szMonitor (args : List AV) (hp : Hp) : callS G_laws_szMonitor args hp = byvS S_laws_szMonitor args hp := callS_byv rfl rfl args hp
theorem ok_laws_szMonitor : InlOk Try.prog 173 (callS G_laws_szMonitor) := byv_none co_laws_szMonitor Try.func173 r_laws_szMonitor rfl (fun _ _ h => h)
/- 90 laws_szMonitorS calls [laws_szMonitor]  -/
def B0_laws_szMonitorS : RC :=
  .seq (.seq (.reg [⟨some 12, none, .mv (.t 5)⟩, ⟨some 13, none, .mv (.t 0)⟩, ⟨some 14, none, .len false (.t 13)⟩, ⟨some 15, none, .bin .lss (.t 12) (.t 14)⟩]) (.cond (.t 15) (.skip) (.exit 0))) (.seq (.block 1 (.seq (.reg [⟨some 18, none, .mv (.t 0)⟩, ⟨some 19, none, .mv (.t 5)⟩, ⟨some 20, none, .ia 4 (.t 18) (.t 19)⟩, ⟨some 21, none, .ld 4 true (.t 20)⟩, ⟨some 22, none, .mv (.t 1)⟩, ⟨some 23, none, .call 173 [(.t 21), (.t 22)]⟩, ⟨some 1, none, .mv (.t 23)⟩]) (.seq (.reg [⟨some 24, none, .mv (.t 1)⟩, ⟨some 25, none, .bin .lss (.t 24) (.c (.int .i64 0))⟩]) (.cond (.t 25) (.seq (.reg [⟨some 4, none, .mv (.c (.int .i64 (-1)))⟩]) (.ret)) (.skip))))) (.reg [⟨some 16, none, .mv (.t 5)⟩, ⟨some 17, none, .bin .add (.t 16) (.c (.int .i64 1))⟩, ⟨some 5, none, .mv (.t 17)⟩]))
def F_laws_szMonitorS : RF := ⟨27, 2, [.t 4],
  .seq (.reg [⟨some 4, none, .mv (.c (.int .i64 0))⟩]) (.seq (.reg [⟨some 6, none, .mv (.t 1)⟩, ⟨some 7, none, .mv (.t 0)⟩, ⟨some 8, none, .len false (.t 7)⟩, ⟨some 9, none, .bin .sub (.t 6) (.t 8)⟩, ⟨some 1, none, .mv (.t 9)⟩]) (.seq (.seq (.reg [⟨some 10, none, .mv (.t 1)⟩, ⟨some 11, none, .bin .lss (.t 10) (.c (.int .i64 0))⟩]) (.cond (.t 11) (.seq (.reg [⟨some 4, none, .mv (.c (.int .i64 (-1)))⟩]) (.ret)) (.skip))) (.seq (.seq (.reg [⟨some 5, none, .mv (.c (.int .i64 0))⟩]) (.block 0 (.loop [0, 1, 5] [(1, [1]), (0, [4])] B0_laws_szMonitorS))) (.seq (.reg [⟨some 26, none, .mv (.t 1)⟩, ⟨some 4, none, .mv (.t 26)⟩]) (.ret)))))⟩
def K_laws_szMonitorS : Keeps := [([0, 1, 5], [(1, [1]), (0, [4])])]
theorem r_laws_szMonitorS : resolveF Try.prog Try.f90 K_laws_szMonitorS = some F_laws_szMonitorS := by kernel_rfl
noncomputable def X_laws_szMonitorS : Ctx := Ctx.cons 173 G_laws_szMonitor (fun _ => none)
theorem co_laws_szMonitorS : CtxOk Try.prog X_laws_szMonitorS := CtxOk.cons (CtxOk.nil) ok_laws_szMonitor
theorem cx_laws_szMonitorS : ((∀ args hp, callX X_laws_szMonitorS 173 args hp = callS G_laws_szMonitor args hp) ∧ (trC (X_laws_szMonitorS 173) = false)) := ⟨fun _ _ => rfl, rfl⟩
noncomputable def S_laws_szMonitorS : ByV := ⟨none, false, semF X_laws_szMonitorS F_laws_szMonitorS none false⟩
noncomputable def G_laws_szMonitorS : CK := .byv S_laws_szMonitorS
theorem sg_laws_szMonitorS (args : List AV) : S_laws_szMonitorS.sem args = semF X_laws_szMonitorS F_laws_szMonitorS none false args := rfl
theorem cl_laws_szMonitorS (args : List AV) (hp : Hp) : callS G_laws_szMonitorS args hp = byvS S_laws_szMonitorS args hp := callS_byv rfl rfl args hp
theorem ok_laws_szMonitorS : InlOk Try.prog 90 (callS G_laws_szMonitorS) := byv_none co_laws_szMonitorS Try.func90 r_laws_szMonitorS rfl (fun _ _ h => h)
/- 174 laws_szProcess calls [laws_szStringS]  -/
def F_laws_szProcess : RF := ⟨25, 2, [.t 4],
  .seq (.reg [⟨some 2, none, .box (.t 0)⟩, ⟨some 4, none, .mv (.c (.int .i64 0))⟩]) (.seq (.reg [⟨some 5, none, .mv (.t 1)⟩, ⟨some 6, none, .fa 0 (.t 2)⟩, ⟨some 7, none, .ld 1 false (.t 6)⟩, ⟨some 8, none, .len true (.t 7)⟩, ⟨some 9, none, .bin .sub (.t 5) (.t 8)⟩, ⟨some 1, none, .mv (.t 9)⟩]) (.seq (.seq (.reg [⟨some 10, none, .mv (.t 1)⟩, ⟨some 11, none, .bin .lss (.t 10) (.c (.int .i64 0))⟩]) (.cond (.t 11) (.seq (.reg [⟨some 4, none, .mv (.c (.int .i64 (-1)))⟩]) (.ret)) (.skip))) (.seq (.reg [⟨some 12, none, .fa 1 (.t 2)⟩, ⟨some 13, none, .ld 1 false (.t 12)⟩, ⟨some 14, none, .mv (.t 1)⟩, ⟨some 15, none, .call 155 [(.t 13), (.t 14)]⟩, ⟨some 1, none, .mv (.t 15)⟩]) (.seq (.seq (.reg [⟨some 16, none, .mv (.t 1)⟩, ⟨some 17, none, .bin .lss (.t 16) (.c (.int .i64 0))⟩]) (.cond (.t 17) (.seq (.reg [⟨some 4, none, .mv (.c (.int .i64 (-1)))⟩]) (.ret)) (.skip))) (.seq (.reg [⟨some 18, none, .fa 2 (.t 2)⟩, ⟨some 19, none, .ld 1 false (.t 18)⟩, ⟨some 20, none, .mv (.t 1)⟩, ⟨some 21, none, .call 155 [(.t 19), (.t 20)]⟩, ⟨some 1, none, .mv (.t 21)⟩]) (.seq (.seq (.reg [⟨some 22, none, .mv (.t 1)⟩, ⟨some 23, none, .bin .lss (.t 22) (.c (.int .i64 0))⟩]) (.cond (.t 23) (.seq (.reg [⟨some 4, none, .mv (.c (.int .i64 (-1)))⟩]) (.ret)) (.skip))) (.seq (.reg [⟨some 24, none, .mv (.t 1)⟩, ⟨some 4, none, .mv (.t 24)⟩]) (.ret))))))))⟩
def K_laws_szProcess : Keeps := []
theorem r_laws_szProcess : resolveF Try.prog Try.f174 K_laws_szProcess = some F_laws_szProcess := by kernel_rfl
noncomputable def X_laws_szProcess : Ctx := Ctx.cons 155 G_laws_szStringS (fun _ => none)
theorem co_laws_szProcess : CtxOk Try.prog X_laws_szProcess := CtxOk.cons (CtxOk.nil) ok_laws_szStringS
theorem cx_laws_szProcess : ((∀ args hp, callX X_laws_szProcess 155 args hp = callS G_laws_szStringS args hp) ∧ (trC (X_laws_szProcess 155) = false)) := ⟨fun _ _ => rfl, rfl⟩
noncomputable def S_laws_szProcess : ByV := ⟨none, false, semF X_laws_szProcess F_laws_szProcess none false⟩
noncomputable def G_laws_szProcess : CK := .byv S_laws_szProcess
theorem sg_laws_szProcess (args : List AV) : S_laws_szProcess.sem args = semF X_laws_szProcess F_laws_szProcess none false args := rfl
theorem cl_laws_szProcess (args : List AV) (hp : Hp) : callS G_laws_szProcess args hp = byvS S_laws_szProcess args hp := callS_byv rfl rfl args hp
theorem ok_laws_szProcess : InlOk Try.prog 174 (callS G_laws_szProcess) := byv_none co_laws_szProcess Try.func174 r_laws_szProcess rfl (fun _ _ h => h)
/- 91 laws_szProcessS calls [laws_szProcess]  -/
def B0_laws_szProcessS : RC :=
  .seq (.seq (.reg [⟨some 12, none, .mv (.t 5)⟩, ⟨some 13, none, .mv (.t 0)⟩, ⟨some 14, none, .len false (.t 13)⟩, ⟨some 15, none, .bin .lss (.t 12) (.t 14)⟩]) (.cond (.t 15) (.skip) (.exit 0))) (.seq (.block 1 (.seq (.reg [⟨some 18, none, .mv (.t 0)⟩, ⟨some 19, none, .mv (.t 5)⟩, ⟨some 20, none, .ia 4 (.t 18) (.t 19)⟩, ⟨some 21, none, .ld 4 true (.t 20)⟩, ⟨some 22, none, .mv (.t 1)⟩, ⟨some 23, none, .call 174 [(.t 21), (.t 22)]⟩, ⟨some 1, none, .mv (.t 23)⟩]) (.seq (.reg [⟨some 24, none, .mv (.t 1)⟩, ⟨some 25, none, .bin .lss (.t 24) (.c (.int .i64 0))⟩]) (.cond (.t 25) (.seq (.reg [⟨some 4, none, .mv (.c (.int .i64 (-1)))⟩]) (.ret)) (.skip))))) (.reg [⟨some 16, none, .mv (.t 5)⟩, ⟨some 17, none, .bin .add (.t 16) (.c (.int .i64 1))⟩, ⟨some 5, none, .mv (.t 17)⟩]))
def F_laws_szProcessS : RF := ⟨27, 2, [.t 4],
  .seq (.reg [⟨some 4, none, .mv (.c (.int .i64 0))⟩]) (.seq (.reg [⟨some 6, none, .mv (.t 1)⟩, ⟨some 7, none, .mv (.t 0)⟩, ⟨some 8, none, .len false (.t 7)⟩, ⟨some 9, none, .bin .sub (.t 6) (.t 8)⟩, ⟨some 1, none, .mv (.t 9)⟩]) (.seq (.seq (.reg [⟨some 10, none, .mv (.t 1)⟩, ⟨some 11, none, .bin .lss (.t 10) (.c (.int .i64 0))⟩]) (.cond (.t 11) (.seq (.reg [⟨some 4, none, .mv (.c (.int .i64 (-1)))⟩]) (.ret)) (.skip))) (.seq (.seq (.reg [⟨some 5, none, .mv (.c (.int .i64 0))⟩]) (.block 0 (.loop [0, 1, 5] [(1, [1]), (0, [4])] B0_laws_szProcessS))) (.seq (.reg [⟨some 26, none, .mv (.t 1)⟩, ⟨some 4, none, .mv (.t 26)⟩]) (.ret)))))⟩
def K_laws_szProcessS : Keeps := [([0, 1, 5], [(1, [1]), (0, [4])])]
theorem r_laws_szProcessS : resolveF Try.prog Try.f91 K_laws_szProcessS = some F_laws_szProcessS := by kernel_rfl
noncomputable def X_laws_szProcessS : Ctx := Ctx.cons 174 G_laws_szProcess (fun _ => none)
theorem co_laws_szProcessS : CtxOk Try.prog X_laws_szProcessS := CtxOk.cons (CtxOk.nil) ok_laws_szProcess
theorem cx_laws_szProcessS : ((∀ args hp, callX X_laws_szProcessS 174 args hp = callS G_laws_szProcess args hp) ∧ (trC (X_laws_szProcessS 174) = false)) := ⟨fun _ _ => rfl, rfl⟩
noncomputable def S_laws_szProcessS : ByV := ⟨none, false, semF X_laws_szProcessS F_laws_szProcessS none false⟩
noncomputable def G_laws_szProcessS : CK := .byv S_laws_szProcessS
theorem sg_laws_szProcessS (args : List AV) : S_laws_szProcessS.sem args = semF X_laws_szProcessS F_laws_szProcessS none false args := rfl
theorem cl_laws_szProcessS (args : List AV) (hp : Hp) : callS G_laws_szProcessS args hp = byvS S_laws_szProcessS args hp := callS_byv rfl rfl args hp
theorem ok_laws_szProcessS : InlOk Try.prog 91 (callS G_laws_szProcessS) := byv_none co_laws_szProcessS Try.func91 r_laws_szProcessS rfl (fun _ _ h => h)
/- 21 laws_szProgram calls [laws_szNodeS, laws_szMonitorS, laws_szProcessS]  -/
def F_laws_szProgram : RF := ⟨24, 2, [.t 4],
  .seq (.reg [⟨some 2, none, .box (.t 0)⟩, ⟨some 4, none, .mv (.c (.int .i64 0))⟩]) (.seq (.reg [⟨some 5, none, .fa 0 (.t 2)⟩, ⟨some 6, none, .ld 1 false (.t 5)⟩, ⟨some 7, none, .mv (.t 1)⟩, ⟨some 8, none, .call 89 [(.t 6), (.t 7)]⟩, ⟨some 1, none, .mv (.t 8)⟩]) (.seq (.seq (.reg [⟨some 9, none, .mv (.t 1)⟩, ⟨some 10, none, .bin .lss (.t 9) (.c (.int .i64 0))⟩]) (.cond (.t 10) (.seq (.reg [⟨some 4, none, .mv (.c (.int .i64 (-1)))⟩]) (.ret)) (.skip))) (.seq (.reg [⟨some 11, none, .fa 1 (.t 2)⟩, ⟨some 12, none, .ld 1 false (.t 11)⟩, ⟨some 13, none, .mv (.t 1)⟩, ⟨some 14, none, .call 90 [(.t 12), (.t 13)]⟩, ⟨some 1, none, .mv (.t 14)⟩]) (.seq (.seq (.reg [⟨some 15, none, .mv (.t 1)⟩, ⟨some 16, none, .bin .lss (.t 15) (.c (.int .i64 0))⟩]) (.cond (.t 16) (.seq (.reg [⟨some 4, none, .mv (.c (.int .i64 (-1)))⟩]) (.ret)) (.skip))) (.seq (.reg [⟨some 17, none, .fa 2 (.t 2)⟩, ⟨some 18, none, .ld 1 false (.t 17)⟩, ⟨some 19, none, .mv (.t 1)⟩, ⟨some 20, none, .call 91 [(.t 18), (.t 19)]⟩, ⟨some 1, none, .mv (.t 20)⟩]) (.seq (.seq (.reg [⟨some 21, none, .mv (.t 1)⟩, ⟨some 22, none, .bin .lss (.t 21) (.c (.int .i64 0))⟩]) (.cond (.t 22) (.seq (.reg [⟨some 4, none, .mv (.c (.int .i64 (-1)))⟩]) (.ret)) (.skip))) (.seq (.reg [⟨some 23, none, .mv (.t 1)⟩, ⟨some 4, none, .mv (.t 23)⟩]) (.ret))))))))⟩
def K_laws_szProgram : Keeps := []
theorem r_laws_szProgram : resolveF Try.prog Try.f21 K_laws_szProgram = some F_laws_szProgram := by kernel_rfl
noncomputable def X_laws_szProgram : Ctx := Ctx.cons 89 G_laws_szNodeS (Ctx.cons 90 G_laws_szMonitorS (Ctx.cons 91 G_laws_szProcessS (fun _ => none)))
theorem co_laws_szProgram : CtxOk Try.prog X_laws_szProgram := CtxOk.cons (CtxOk.cons (CtxOk.cons (CtxOk.nil) ok_laws_szProcessS) ok_laws_szMonitorS) ok_laws_szNodeS
theorem cx_laws_szProgram : ((∀ args hp, callX X_laws_szProgram 89 args hp = callS G_laws_szNodeS args hp) ∧ (trC (X_laws_szProgram 89) = false)) ∧ ((∀ args hp, callX X_laws_szProgram 90 args hp = callS G_laws_szMonitorS args hp) ∧ (trC (X_laws_szProgram 90) = false)) ∧ ((∀ args hp, callX X_laws_szProgram 91 args hp = callS G_laws_szProcessS args hp) ∧ (trC (X_laws_szProgram 91) = false)) := ⟨⟨fun _ _ => rfl, rfl⟩, ⟨fun _ _ => rfl, rfl⟩, ⟨fun _ _ => rfl, rfl⟩⟩
noncomputable def S_laws_szProgram : ByV := ⟨none, false, semF X_laws_szProgram F_laws_szProgram none false⟩
noncomputable def G_laws_szProgram : CK := .byv S_laws_szProgram
theorem sg_laws_szProgram (args : List AV) : S_laws_szProgram.sem args = semF X_laws_szProgram F_laws_szProgram none false args := rfl
theorem cl_laws_szProgram (args : List AV) (hp : Hp) : callS G_laws_szProgram args hp = byvS S_laws_szProgram args hp := callS_byv rfl rfl args hp
theorem ok_laws_szProgram : InlOk Try.prog 21 (callS G_laws_szProgram) := byv_none co_laws_szProgram Try.func21 r_laws_szProgram rfl (fun _ _ h => h)
/- 191 laws_szEnv calls [laws_szStringS, laws_szIntS]  -/
def F_laws_szEnv : RF := ⟨18, 2, [.t 4],
  .seq (.reg [⟨some 2, none, .box (.t 0)⟩, ⟨some 4, none, .mv (.c (.int .i64 0))⟩]) (.seq (.reg [⟨some 5, none, .fa 0 (.t 2)⟩, ⟨some 6, none, .ld 1 false (.t 5)⟩, ⟨some 7, none, .mv (.t 1)⟩, ⟨some 8, none, .call 155 [(.t 6), (.t 7)]⟩, ⟨some 1, none, .mv (.t 8)⟩]) (.seq (.seq (.reg [⟨some 9, none, .mv (.t 1)⟩, ⟨some 10, none, .bin .lss (.t 9) (.c (.int .i64 0))⟩]) (.cond (.t 10) (.seq (.reg [⟨some 4, none, .mv (.c (.int .i64 (-1)))⟩]) (.ret)) (.skip))) (.seq (.reg [⟨some 11, none, .fa 1 (.t 2)⟩, ⟨some 12, none, .ld 1 false (.t 11)⟩, ⟨some 13, none, .mv (.t 1)⟩, ⟨some 14, none, .call 117 [(.t 12), (.t 13)]⟩, ⟨some 1, none, .mv (.t 14)⟩]) (.seq (.seq (.reg [⟨some 15, none, .mv (.t 1)⟩, ⟨some 16, none, .bin .lss (.t 15) (.c (.int .i64 0))⟩]) (.cond (.t 16) (.seq (.reg [⟨some 4, none, .mv (.c (.int .i64 (-1)))⟩]) (.ret)) (.skip))) (.seq (.reg [⟨some 17, none, .mv (.t 1)⟩, ⟨some 4, none, .mv (.t 17)⟩]) (.ret))))))⟩
def K_laws_szEnv : Keeps := []
theorem r_laws_szEnv : resolveF Try.prog Try.f191 K_laws_szEnv = some F_laws_szEnv := by kernel_rfl
noncomputable def X_laws_szEnv : Ctx := Ctx.cons 155 G_laws_szStringS (Ctx.cons 117 G_laws_szIntS (fun _ => none))
theorem co_laws_szEnv : CtxOk Try.prog X_laws_szEnv := CtxOk.cons (CtxOk.cons (CtxOk.nil) ok_laws_szIntS) ok_laws_szStringS
theorem cx_laws_szEnv : ((∀ args hp, callX X_laws_szEnv 155 args hp = callS G_laws_szStringS args hp) ∧ (trC (X_laws_szEnv 155) = false)) ∧ ((∀ args hp, callX X_laws_szEnv 117 args hp = callS G_laws_szIntS args hp) ∧ (trC (X_laws_szEnv 117) = false)) := ⟨⟨fun _ _ => rfl, rfl⟩, ⟨fun _ _ => rfl, rfl⟩⟩
noncomputable def S_laws_szEnv : ByV := ⟨none, false, semF X_laws_szEnv F_laws_szEnv none false⟩
noncomputable def G_laws_szEnv : CK := .byv S_laws_szEnv
theorem sg_laws_szEnv (args : List AV) : S_laws_szEnv.sem args = semF X_laws_szEnv F_laws_szEnv none false args := rfl
theorem cl_laws_szEnv (args : List AV) (hp : Hp) : callS G_laws_szEnv args hp = byvS S_laws_szEnv args hp := callS_byv rfl rfl args hp
theorem ok_laws_szEnv : InlOk Try.prog 191 (callS G_laws_szEnv) := byv_none co_laws_szEnv Try.func191 r_laws_szEnv rfl (fun _ _ h => h)
/- 225 laws_szThread calls [laws_szIntS, laws_szEnv]  -/
def F_laws_szThread : RF := ⟨18, 2, [.t 4],
  .seq (.reg [⟨some 2, none, .box (.t 0)⟩, ⟨some 4, none, .mv (.c (.int .i64 0))⟩]) (.seq (.reg [⟨some 5, none, .fa 0 (.t 2)⟩, ⟨some 6, none, .ld 1 false (.t 5)⟩, ⟨some 7, none, .mv (.t 1)⟩, ⟨some 8, none, .call 117 [(.t 6), (.t 7)]⟩, ⟨some 1, none, .mv (.t 8)⟩]) (.seq (.seq (.reg [⟨some 9, none, .mv (.t 1)⟩, ⟨some 10, none, .bin .lss (.t 9) (.c (.int .i64 0))⟩]) (.cond (.t 10) (.seq (.reg [⟨some 4, none, .mv (.c (.int .i64 (-1)))⟩]) (.ret)) (.skip))) (.seq (.reg [⟨some 11, none, .fa 1 (.t 2)⟩, ⟨some 12, none, .ld 2 true (.t 11)⟩, ⟨some 13, none, .mv (.t 1)⟩, ⟨some 14, none, .call 191 [(.t 12), (.t 13)]⟩, ⟨some 1, none, .mv (.t 14)⟩]) (.seq (.seq (.reg [⟨some 15, none, .mv (.t 1)⟩, ⟨some 16, none, .bin .lss (.t 15) (.c (.int .i64 0))⟩]) (.cond (.t 16) (.seq (.reg [⟨some 4, none, .mv (.c (.int .i64 (-1)))⟩]) (.ret)) (.skip))) (.seq (.reg [⟨some 17, none, .mv (.t 1)⟩, ⟨some 4, none, .mv (.t 17)⟩]) (.ret))))))⟩
def K_laws_szThread : Keeps := []
theorem r_laws_szThread : resolveF Try.prog Try.f225 K_laws_szThread = some F_laws_szThread := by kernel_rfl
noncomputable def X_laws_szThread : Ctx := Ctx.cons 117 G_laws_szIntS (Ctx.cons 191 G_laws_szEnv (fun _ => none))
theorem co_laws_szThread : CtxOk Try.prog X_laws_szThread := CtxOk.cons (CtxOk.cons (CtxOk.nil) ok_laws_szEnv) ok_laws_szIntS
theorem cx_laws_szThread : ((∀ args hp, callX X_laws_szThread 117 args hp = callS G_laws_szIntS args hp) ∧ (trC (X_laws_szThread 117) = false)) ∧ ((∀ args hp, callX X_laws_szThread 191 args hp = callS G_laws_szEnv args hp) ∧ (trC (X_laws_szThread 191) = false)) := ⟨⟨fun _ _ => rfl, rfl⟩, ⟨fun _ _ => rfl, rfl⟩⟩
noncomputable def S_laws_szThread : ByV := ⟨none, false, semF X_laws_szThread F_laws_szThread none false⟩
noncomputable def G_laws_szThread : CK := .byv S_laws_szThread
theorem sg_laws_szThread (args : List AV) : S_laws_szThread.sem args = semF X_laws_szThread F_laws_szThread none false args := rfl
theorem cl_laws_szThread (args : List AV) (hp : Hp) : callS G_laws_szThread args hp = byvS S_laws_szThread args hp := callS_byv rfl rfl args hp
theorem ok_laws_szThread : InlOk Try.prog 225 (callS G_laws_szThread) := byv_none co_laws_szThread Try.func225 r_laws_szThread rfl (fun _ _ h => h)
/- 189 laws_szActor calls [laws_szThread]  -/
def F_laws_szActor : RF := ⟨18, 2, [.t 4],
  .seq (.reg [⟨some 2, none, .box (.t 0)⟩, ⟨some 4, none, .mv (.c (.int .i64 0))⟩]) (.seq (.reg [⟨some 5, none, .fa 0 (.t 2)⟩, ⟨some 6, none, .ld 4 true (.t 5)⟩, ⟨some 7, none, .mv (.t 1)⟩, ⟨some 8, none, .call 225 [(.t 6), (.t 7)]⟩, ⟨some 1, none, .mv (.t 8)⟩]) (.seq (.seq (.reg [⟨some 9, none, .mv (.t 1)⟩, ⟨some 10, none, .bin .lss (.t 9) (.c (.int .i64 0))⟩]) (.cond (.t 10) (.seq (.reg [⟨some 4, none, .mv (.c (.int .i64 (-1)))⟩]) (.ret)) (.skip))) (.seq (.reg [⟨some 11, none, .fa 4 (.t 2)⟩, ⟨some 12, none, .ld 4 true (.t 11)⟩, ⟨some 13, none, .mv (.t 1)⟩, ⟨some 14, none, .call 225 [(.t 12), (.t 13)]⟩, ⟨some 1, none, .mv (.t 14)⟩]) (.seq (.seq (.reg [⟨some 15, none, .mv (.t 1)⟩, ⟨some 16, none, .bin .lss (.t 15) (.c (.int .i64 0))⟩]) (.cond (.t 16) (.seq (.reg [⟨some 4, none, .mv (.c (.int .i64 (-1)))⟩]) (.ret)) (.skip))) (.seq (.reg [⟨some 17, none, .mv (.t 1)⟩, ⟨some 4, none, .mv (.t 17)⟩]) (.ret))))))⟩
def K_laws_szActor : Keeps := []
theorem r_laws_szActor : resolveF Try.prog Try.f189 K_laws_szActor = some F_laws_szActor := by kernel_rfl
noncomputable def X_laws_szActor : Ctx := Ctx.cons 225 G_laws_szThread (fun _ => none)
theorem co_laws_szActor : CtxOk Try.prog X_laws_szActor := CtxOk.cons (CtxOk.nil) ok_laws_szThread
theorem cx_laws_szActor : ((∀ args hp, callX X_laws_szActor 225 args hp = callS G_laws_szThread args hp) ∧ (trC (X_laws_szActor 225) = false)) := ⟨fun _ _ => rfl, rfl⟩
noncomputable def S_laws_szActor : ByV := ⟨none, false, semF X_laws_szActor F_laws_szActor none false⟩
noncomputable def G_laws_szActor : CK := .byv S_laws_szActor
theorem sg_laws_szActor (args : List AV) : S_laws_szActor.sem args = semF X_laws_szActor F_laws_szActor none false args := rfl
theorem cl_laws_szActor (args : List AV) (hp : Hp) : callS G_laws_szActor args hp = byvS S_laws_szActor args hp := callS_byv rfl rfl args hp
theorem ok_laws_szActor : InlOk Try.prog 189 (callS G_laws_szActor) := byv_none co_laws_szActor Try.func189 r_laws_szActor rfl (fun _ _ h => h)
/- 132 laws_szActorS calls [laws_szActor]  -/
def B0_laws_szActorS : RC :=
  .seq (.seq (.reg [⟨some 12, none, .mv (.t 5)⟩, ⟨some 13, none, .mv (.t 0)⟩, ⟨some 14, none, .len false (.t 13)⟩, ⟨some 15, none, .bin .lss (.t 12) (.t 14)⟩]) (.cond (.t 15) (.skip) (.exit 0))) (.seq (.block 1 (.seq (.reg [⟨some 18, none, .mv (.t 0)⟩, ⟨some 19, none, .mv (.t 5)⟩, ⟨some 20, none, .ia 12 (.t 18) (.t 19)⟩, ⟨some 21, none, .ld 12 true (.t 20)⟩, ⟨some 22, none, .mv (.t 1)⟩, ⟨some 23, none, .call 189 [(.t 21), (.t 22)]⟩, ⟨some 1, none, .mv (.t 23)⟩]) (.seq (.reg [⟨some 24, none, .mv (.t 1)⟩, ⟨some 25, none, .bin .lss (.t 24) (.c (.int .i64 0))⟩]) (.cond (.t 25) (.seq (.reg [⟨some 4, none, .mv (.c (.int .i64 (-1)))⟩]) (.ret)) (.skip))))) (.reg [⟨some 16, none, .mv (.t 5)⟩, ⟨some 17, none, .bin .add (.t 16) (.c (.int .i64 1))⟩, ⟨some 5, none, .mv (.t 17)⟩]))
def F_laws_szActorS : RF := ⟨27, 2, [.t 4],
  .seq (.reg [⟨some 4, none, .mv (.c (.int .i64 0))⟩]) (.seq (.reg [⟨some 6, none, .mv (.t 1)⟩, ⟨some 7, none, .mv (.t 0)⟩, ⟨some 8, none, .len false (.t 7)⟩, ⟨some 9, none, .bin .sub (.t 6) (.t 8)⟩, ⟨some 1, none, .mv (.t 9)⟩]) (.seq (.seq (.reg [⟨some 10, none, .mv (.t 1)⟩, ⟨some 11, none, .bin .lss (.t 10) (.c (.int .i64 0))⟩]) (.cond (.t 11) (.seq (.reg [⟨some 4, none, .mv (.c (.int .i64 (-1)))⟩]) (.ret)) (.skip))) (.seq (.seq (.reg [⟨some 5, none, .mv (.c (.int .i64 0))⟩]) (.block 0 (.loop [0, 1, 5] [(1, [1]), (0, [4])] B0_laws_szActorS))) (.seq (.reg [⟨some 26, none, .mv (.t 1)⟩, ⟨some 4, none, .mv (.t 26)⟩]) (.ret)))))⟩
def K_laws_szActorS : Keeps := [([0, 1, 5], [(1, [1]), (0, [4])])]
theorem r_laws_szActorS : resolveF Try.prog Try.f132 K_laws_szActorS = some F_laws_szActorS := by kernel_rfl
noncomputable def X_laws_szActorS : Ctx := Ctx.cons 189 G_laws_szActor (fun _ => none)
theorem co_laws_szActorS : CtxOk Try.prog X_laws_szActorS := CtxOk.cons (CtxOk.nil) ok_laws_szActor
theorem cx_laws_szActorS : ((∀ args hp, callX X_laws_szActorS 189 args hp = callS G_laws_szActor args hp) ∧ (trC (X_laws_szActorS 189) = false)) := ⟨fun _ _ => rfl, rfl⟩
noncomputable def S_laws_szActorS : ByV := ⟨none, false, semF X_laws_szActorS F_laws_szActorS none false⟩
noncomputable def G_laws_szActorS : CK := .byv S_laws_szActorS
theorem sg_laws_szActorS (args : List AV) : S_laws_szActorS.sem args = semF X_laws_szActorS F_laws_szActorS none false args := rfl
theorem cl_laws_szActorS (args : List AV) (hp : Hp) : callS G_laws_szActorS args hp = byvS S_laws_szActorS args hp := callS_byv rfl rfl args hp
theorem ok_laws_szActorS : InlOk Try.prog 132 (callS G_laws_szActorS) := byv_none co_laws_szActorS Try.func132 r_laws_szActorS rfl (fun _ _ h => h)
/- 190 laws_szGate calls [laws_szIntS]  -/
def F_laws_szGate : RF := ⟨18, 2, [.t 4],
  .seq (.reg [⟨some 2, none, .box (.t 0)⟩, ⟨some 4, none, .mv (.c (.int .i64 0))⟩]) (.seq (.reg [⟨some 5, none, .fa 1 (.t 2)⟩, ⟨some 6, none, .ld 1 false (.t 5)⟩, ⟨some 7, none, .mv (.t 1)⟩, ⟨some 8, none, .call 117 [(.t 6), (.t 7)]⟩, ⟨some 1, none, .mv (.t 8)⟩]) (.seq (.seq (.reg [⟨some 9, none, .mv (.t 1)⟩, ⟨some 10, none, .bin .lss (.t 9) (.c (.int .i64 0))⟩]) (.cond (.t 10) (.seq (.reg [⟨some 4, none, .mv (.c (.int .i64 (-1)))⟩]) (.ret)) (.skip))) (.seq (.reg [⟨some 11, none, .fa 2 (.t 2)⟩, ⟨some 12, none, .ld 1 false (.t 11)⟩, ⟨some 13, none, .mv (.t 1)⟩, ⟨some 14, none, .call 117 [(.t 12), (.t 13)]⟩, ⟨some 1, none, .mv (.t 14)⟩]) (.seq (.seq (.reg [⟨some 15, none, .mv (.t 1)⟩, ⟨some 16, none, .bin .lss (.t 15) (.c (.int .i64 0))⟩]) (.cond (.t 16) (.seq (.reg [⟨some 4, none, .mv (.c (.int .i64 (-1)))⟩]) (.ret)) (.skip))) (.seq (.reg [⟨some 17, none, .mv (.t 1)⟩, ⟨some 4, none, .mv (.t 17)⟩]) (.ret))))))⟩
def K_laws_szGate : Keeps := []
theorem r_laws_szGate : resolveF Try.prog Try.f190 K_laws_szGate = some F_laws_szGate := by kernel_rfl
noncomputable def X_laws_szGate : Ctx := Ctx.cons 117 G_laws_szIntS (fun _ => none)
theorem co_laws_szGate : CtxOk Try.prog X_laws_szGate := CtxOk.cons (CtxOk.nil) ok_laws_szIntS
theorem cx_laws_szGate : ((∀ args hp, callX X_laws_szGate 117 args hp = callS G_laws_szIntS args hp) ∧ (trC (X_laws_szGate 117) = false)) := ⟨fun _ _ => rfl, rfl⟩
noncomputable def S_laws_szGate : ByV := ⟨none, false, semF X_laws_szGate F_laws_szGate none false⟩
noncomputable def G_laws_szGate : CK := .byv S_laws_szGate
theorem sg_laws_szGate (args : List AV) : S_laws_szGate.sem args = semF X_laws_szGate F_laws_szGate none false args := rfl
theorem cl_laws_szGate (args : List AV) (hp : Hp) : callS G_laws_szGate args hp = byvS S_laws_szGate args hp := callS_byv rfl rfl args hp
theorem ok_laws_szGate : InlOk Try.prog 190 (callS G_laws_szGate) := byv_none co_laws_szGate Try.func190 r_laws_szGate rfl (fun _ _ h => h)
/- 133 laws_szGateS calls [laws_szGate]  -/
def B0_laws_szGateS : RC :=
  .seq (.seq (.reg [⟨some 12, none, .mv (.t 5)⟩, ⟨some 13, none, .mv (.t 0)⟩, ⟨some 14, none, .len false (.t 13)⟩, ⟨some 15, none, .bin .lss (.t 12) (.t 14)⟩]) (.cond (.t 15) (.skip) (.exit 0))) (.seq (.block 1 (.seq (.reg [⟨some 18, none, .mv (.t 0)⟩, ⟨some 19, none, .mv (.t 5)⟩, ⟨some 20, none, .ia 3 (.t 18) (.t 19)⟩, ⟨some 21, none, .ld 3 true (.t 20)⟩, ⟨some 22, none, .mv (.t 1)⟩, ⟨some 23, none, .call 190 [(.t 21), (.t 22)]⟩, ⟨some 1, none, .mv (.t 23)⟩]) (.seq (.reg [⟨some 24, none, .mv (.t 1)⟩, ⟨some 25, none, .bin .lss (.t 24) (.c (.int .i64 0))⟩]) (.cond (.t 25) (.seq (.reg [⟨some 4, none, .mv (.c (.int .i64 (-1)))⟩]) (.ret)) (.skip))))) (.reg [⟨some 16, none, .mv (.t 5)⟩, ⟨some 17, none, .bin .add (.t 16) (.c (.int .i64 1))⟩, ⟨some 5, none, .mv (.t 17)⟩]))
def F_laws_szGateS : RF := ⟨27, 2, [.t 4],
  .seq (.reg [⟨some 4, none, .mv (.c (.int .i64 0))⟩]) (.seq (.reg [⟨some 6, none, .mv (.t 1)⟩, ⟨some 7, none, .mv (.t 0)⟩, ⟨some 8, none, .len false (.t 7)⟩, ⟨some 9, none, .bin .sub (.t 6) (.t 8)⟩, ⟨some 1, none, .mv (.t 9)⟩]) (.seq (.seq (.reg [⟨some 10, none, .mv (.t 1)⟩, ⟨some 11, none, .bin .lss (.t 10) (.c (.int .i64 0))⟩]) (.cond (.t 11) (.seq (.reg [⟨some 4, none, .mv (.c (.int .i64 (-1)))⟩]) (.ret)) (.skip))) (.seq (.seq (.reg [⟨some 5, none, .mv (.c (.int .i64 0))⟩]) (.block 0 (.loop [0, 1, 5] [(1, [1]), (0, [4])] B0_laws_szGateS))) (.seq (.reg [⟨some 26, none, .mv (.t 1)⟩, ⟨some 4, none, .mv (.t 26)⟩]) (.ret)))))⟩
def K_laws_szGateS : Keeps := [([0, 1, 5], [(1, [1]), (0, [4])])]
theorem r_laws_szGateS : resolveF Try.prog Try.f133 K_laws_szGateS = some F_laws_szGateS := by kernel_rfl
noncomputable def X_laws_szGateS : Ctx := Ctx.cons 190 G_laws_szGate (fun _ => none)
theorem co_laws_szGateS : CtxOk Try.prog X_laws_szGateS := CtxOk.cons (CtxOk.nil) ok_laws_szGate
theorem cx_laws_szGateS : ((∀ args hp, callX X_laws_szGateS 190 args hp = callS G_laws_szGate args hp) ∧ (trC (X_laws_szGateS 190) = false)) := ⟨fun _ _ => rfl, rfl⟩
noncomputable def S_laws_szGateS : ByV := ⟨none, false, semF X_laws_szGateS F_laws_szGateS none false⟩
noncomputable def G_laws_szGateS : CK := .byv S_laws_szGateS
theorem sg_laws_szGateS (args : List AV) : S_laws_szGateS.sem args = semF X_laws_szGateS F_laws_szGateS none false args := rfl
theorem cl_laws_szGateS (args : List AV) (hp : Hp) : callS G_laws_szGateS args hp = byvS S_laws_szGateS args hp := callS_byv rfl rfl args hp
theorem ok_laws_szGateS : InlOk Try.prog 133 (callS G_laws_szGateS) := byv_none co_laws_szGateS Try.func133 r_laws_szGateS rfl (fun _ _ h => h)
/- 134 laws_szEnvS calls [laws_szEnv]  -/
def B0_laws_szEnvS : RC :=
  .seq (.seq (.reg [⟨some 12, none, .mv (.t 5)⟩, ⟨some 13, none, .mv (.t 0)⟩, ⟨some 14, none, .len false (.t 13)⟩, ⟨some 15, none, .bin .lss (.t 12) (.t 14)⟩]) (.cond (.t 15) (.skip) (.exit 0))) (.seq (.block 1 (.seq (.reg [⟨some 18, none, .mv (.t 0)⟩, ⟨some 19, none, .mv (.t 5)⟩, ⟨some 20, none, .ia 2 (.t 18) (.t 19)⟩, ⟨some 21, none, .ld 2 true (.t 20)⟩, ⟨some 22, none, .mv (.t 1)⟩, ⟨some 23, none, .call 191 [(.t 21), (.t 22)]⟩, ⟨some 1, none, .mv (.t 23)⟩]) (.seq (.reg [⟨some 24, none, .mv (.t 1)⟩, ⟨some 25, none, .bin .lss (.t 24) (.c (.int .i64 0))⟩]) (.cond (.t 25) (.seq (.reg [⟨some 4, none, .mv (.c (.int .i64 (-1)))⟩]) (.ret)) (.skip))))) (.reg [⟨some 16, none, .mv (.t 5)⟩, ⟨some 17, none, .bin .add (.t 16) (.c (.int .i64 1))⟩, ⟨some 5, none, .mv (.t 17)⟩]))
def F_laws_szEnvS : RF := ⟨27, 2, [.t 4],
  .seq (.reg [⟨some 4, none, .mv (.c (.int .i64 0))⟩]) (.seq (.reg [⟨some 6, none, .mv (.t 1)⟩, ⟨some 7, none, .mv (.t 0)⟩, ⟨some 8, none, .len false (.t 7)⟩, ⟨some 9, none, .bin .sub (.t 6) (.t 8)⟩, ⟨some 1, none, .mv (.t 9)⟩]) (.seq (.seq (.reg [⟨some 10, none, .mv (.t 1)⟩, ⟨some 11, none, .bin .lss (.t 10) (.c (.int .i64 0))⟩]) (.cond (.t 11) (.seq (.reg [⟨some 4, none, .mv (.c (.int .i64 (-1)))⟩]) (.ret)) (.skip))) (.seq (.seq (.reg [⟨some 5, none, .mv (.c (.int .i64 0))⟩]) (.block 0 (.loop [0, 1, 5] [(1, [1]), (0, [4])] B0_laws_szEnvS))) (.seq (.reg [⟨some 26, none, .mv (.t 1)⟩, ⟨some 4, none, .mv (.t 26)⟩]) (.ret)))))⟩
def K_laws_szEnvS : Keeps := [([0, 1, 5], [(1, [1]), (0, [4])])]
theorem r_laws_szEnvS : resolveF Try.prog Try.f134 K_laws_szEnvS = some F_laws_szEnvS := by kernel_rfl
noncomputable def X_laws_szEnvS : Ctx := Ctx.cons 191 G_laws_szEnv (fun _ => none)
theorem co_laws_szEnvS : CtxOk Try.prog X_laws_szEnvS := CtxOk.cons (CtxOk.nil) ok_laws_szEnv
theorem cx_laws_szEnvS : ((∀ args hp, callX X_laws_szEnvS 191 args hp = callS G_laws_szEnv args hp) ∧ (trC (X_laws_szEnvS 191) = false)) := ⟨fun _ _ => rfl, rfl⟩
noncomputable def S_laws_szEnvS : ByV := ⟨none, false, semF X_laws_szEnvS F_laws_szEnvS none false⟩
noncomputable def G_laws_szEnvS : CK := .byv S_laws_szEnvS
theorem sg_laws_szEnvS (args : List AV) : S_laws_szEnvS.sem args = semF X_laws_szEnvS F_laws_szEnvS none false args := rfl
theorem cl_laws_szEnvS (args : List AV) (hp : Hp) : callS G_laws_szEnvS args hp = byvS S_laws_szEnvS args hp := callS_byv rfl rfl args hp
theorem ok_laws_szEnvS : InlOk Try.prog 134 (callS G_laws_szEnvS) := byv_none co_laws_szEnvS Try.func134 r_laws_szEnvS rfl (fun _ _ h => h)
/- 135 laws_szEventS calls []  -/
def F_laws_szEventS : RF := ⟨12, 2, [.t 4],
  .seq (.reg [⟨some 4, none, .mv (.c (.int .i64 0))⟩]) (.seq (.reg [⟨some 5, none, .mv (.t 1)⟩, ⟨some 6, none, .mv (.t 0)⟩, ⟨some 7, none, .len false (.t 6)⟩, ⟨some 8, none, .bin .sub (.t 5) (.t 7)⟩, ⟨some 1, none, .mv (.t 8)⟩]) (.seq (.seq (.reg [⟨some 9, none, .mv (.t 1)⟩, ⟨some 10, none, .bin .lss (.t 9) (.c (.int .i64 0))⟩]) (.cond (.t 10) (.seq (.reg [⟨some 4, none, .mv (.c (.int .i64 (-1)))⟩]) (.ret)) (.skip))) (.seq (.reg [⟨some 11, none, .mv (.t 1)⟩, ⟨some 4, none, .mv (.t 11)⟩]) (.ret))))⟩
def K_laws_szEventS : Keeps := []
theorem r_laws_szEventS : resolveF Try.prog Try.f135 K_laws_szEventS = some F_laws_szEventS := by kernel_rfl
noncomputable def X_laws_szEventS : Ctx := fun _ => none
theorem co_laws_szEventS : CtxOk Try.prog X_laws_szEventS := CtxOk.nil
theorem cx_laws_szEventS : True := trivial
noncomputable def S_laws_szEventS : ByV := ⟨none, false, semF X_laws_szEventS F_laws_szEventS none false⟩
noncomputable def G_laws_szEventS : CK := .byv S_laws_szEventS
theorem sg_laws_szEventS (args : List AV) : S_laws_szEventS.sem args = semF X_laws_szEventS F_laws_szEventS none false args := rfl
theorem cl_laws_szEventS (args : List AV) (hp : Hp) : callS G_laws_szEventS args hp = byvS S_laws_szEventS args hp := callS_byv rfl rfl args hp
theorem ok_laws_szEventS : InlOk Try.prog 135 (callS G_laws_szEventS) := byv_none co_laws_szEventS Try.func135 r_laws_szEventS rfl (fun _ _ h => h)
/- 47 laws_szModel calls [laws_szProgram, laws_szActorS, laws_szGateS, laws_szEnvS, laws_szIntS, laws_szEventS]  -/
def F_laws_szModel : RF := ⟨42, 2, [.t 4],
  .seq (.reg [⟨some 2, none, .box (.t 0)⟩, ⟨some 4, none, .mv (.c (.int .i64 0))⟩]) (.seq (.reg [⟨some 5, none, .fa 0 (.t 2)⟩, ⟨some 6, none, .ld 3 true (.t 5)⟩, ⟨some 7, none, .mv (.t 1)⟩, ⟨some 8, none, .call 21 [(.t 6), (.t 7)]⟩, ⟨some 1, none, .mv (.t 8)⟩]) (.seq (.seq (.reg [⟨some 9, none, .mv (.t 1)⟩, ⟨some 10, none, .bin .lss (.t 9) (.c (.int .i64 0))⟩]) (.cond (.t 10) (.seq (.reg [⟨some 4, none, .mv (.c (.int .i64 (-1)))⟩]) (.ret)) (.skip))) (.seq (.reg [⟨some 11, none, .fa 3 (.t 2)⟩, ⟨some 12, none, .ld 1 false (.t 11)⟩, ⟨some 13, none, .mv (.t 1)⟩, ⟨some 14, none, .call 132 [(.t 12), (.t 13)]⟩, ⟨some 1, none, .mv (.t 14)⟩]) (.seq (.seq (.reg [⟨some 15, none, .mv (.t 1)⟩, ⟨some 16, none, .bin .lss (.t 15) (.c (.int .i64 0))⟩]) (.cond (.t 16) (.seq (.reg [⟨some 4, none, .mv (.c (.int .i64 (-1)))⟩]) (.ret)) (.skip))) (.seq (.reg [⟨some 17, none, .fa 4 (.t 2)⟩, ⟨some 18, none, .ld 1 false (.t 17)⟩, ⟨some 19, none, .mv (.t 1)⟩, ⟨some 20, none, .call 133 [(.t 18), (.t 19)]⟩, ⟨some 1, none, .mv (.t 20)⟩]) (.seq (.seq (.reg [⟨some 21, none, .mv (.t 1)⟩, ⟨some 22, none, .bin .lss (.t 21) (.c (.int .i64 0))⟩]) (.cond (.t 22) (.seq (.reg [⟨some 4, none, .mv (.c (.int .i64 (-1)))⟩]) (.ret)) (.skip))) (.seq (.reg [⟨some 23, none, .fa 5 (.t 2)⟩, ⟨some 24, none, .ld 1 false (.t 23)⟩, ⟨some 25, none, .mv (.t 1)⟩, ⟨some 26, none, .call 134 [(.t 24), (.t 25)]⟩, ⟨some 1, none, .mv (.t 26)⟩]) (.seq (.seq (.reg [⟨some 27, none, .mv (.t 1)⟩, ⟨some 28, none, .bin .lss (.t 27) (.c (.int .i64 0))⟩]) (.cond (.t 28) (.seq (.reg [⟨some 4, none, .mv (.c (.int .i64 (-1)))⟩]) (.ret)) (.skip))) (.seq (.reg [⟨some 29, none, .fa 6 (.t 2)⟩, ⟨some 30, none, .ld 1 false (.t 29)⟩, ⟨some 31, none, .mv (.t 1)⟩, ⟨some 32, none, .call 117 [(.t 30), (.t 31)]⟩, ⟨some 1, none, .mv (.t 32)⟩]) (.seq (.seq (.reg [⟨some 33, none, .mv (.t 1)⟩, ⟨some 34, none, .bin .lss (.t 33) (.c (.int .i64 0))⟩]) (.cond (.t 34) (.seq (.reg [⟨some 4, none, .mv (.c (.int .i64 (-1)))⟩]) (.ret)) (.skip))) (.seq (.reg [⟨some 35, none, .fa 7 (.t 2)⟩, ⟨some 36, none, .ld 1 false (.t 35)⟩, ⟨some 37, none, .mv (.t 1)⟩, ⟨some 38, none, .call 135 [(.t 36), (.t 37)]⟩, ⟨some 1, none, .mv (.t 38)⟩]) (.seq (.seq (.reg [⟨some 39, none, .mv (.t 1)⟩, ⟨some 40, none, .bin .lss (.t 39) (.c (.int .i64 0))⟩]) (.cond (.t 40) (.seq (.reg [⟨some 4, none, .mv (.c (.int .i64 (-1)))⟩]) (.ret)) (.skip))) (.seq (.reg [⟨some 41, none, .mv (.t 1)⟩, ⟨some 4, none, .mv (.t 41)⟩]) (.ret))))))))))))))⟩
def K_laws_szModel : Keeps := []
theorem r_laws_szModel : resolveF Try.prog Try.f47 K_laws_szModel = some F_laws_szModel := by kernel_rfl
noncomputable def X_laws_szModel : Ctx := Ctx.cons 21 G_laws_szProgram (Ctx.cons 132 G_laws_szActorS (Ctx.cons 133 G_laws_szGateS (Ctx.cons 134 G_laws_szEnvS (Ctx.cons 117 G_laws_szIntS (Ctx.cons 135 G_laws_szEventS (fun _ => none))))))
theorem co_laws_szModel : CtxOk Try.prog X_laws_szModel := CtxOk.cons (CtxOk.cons (CtxOk.cons (CtxOk.cons (CtxOk.cons (CtxOk.cons (CtxOk.nil) ok_laws_szEventS) ok_laws_szIntS) ok_laws_szEnvS) ok_laws_szGateS) ok_laws_szActorS) ok_laws_szProgram
theorem cx_laws_szModel : ((∀ args hp, callX X_laws_szModel 21 args hp = callS G_laws_szProgram args hp) ∧ (trC (X_laws_szModel 21) = false)) ∧ ((∀ args hp, callX X_laws_szModel 132 args hp = callS G_laws_szActorS args hp) ∧ (trC (X_laws_szModel 132) = false)) ∧ ((∀ args hp, callX X_laws_szModel 133 args hp = callS G_laws_szGateS args hp) ∧ (trC (X_laws_szModel 133) = false)) ∧ ((∀ args hp, callX X_laws_szModel 134 args hp = callS G_laws_szEnvS args hp) ∧ (trC (X_laws_szModel 134) = false)) ∧ ((∀ args hp, callX X_laws_szModel 117 args hp = callS G_laws_szIntS args hp) ∧ (trC (X_laws_szModel 117) = false)) ∧ ((∀ args hp, callX X_laws_szModel 135 args hp = callS G_laws_szEventS args hp) ∧ (trC (X_laws_szModel 135) = false)) := ⟨⟨fun _ _ => rfl, rfl⟩, ⟨fun _ _ => rfl, rfl⟩, ⟨fun _ _ => rfl, rfl⟩, ⟨fun _ _ => rfl, rfl⟩, ⟨fun _ _ => rfl, rfl⟩, ⟨fun _ _ => rfl, rfl⟩⟩
noncomputable def S_laws_szModel : ByV := ⟨none, false, semF X_laws_szModel F_laws_szModel none false⟩
noncomputable def G_laws_szModel : CK := .byv S_laws_szModel
theorem sg_laws_szModel (args : List AV) : S_laws_szModel.sem args = semF X_laws_szModel F_laws_szModel none false args := rfl
theorem cl_laws_szModel (args : List AV) (hp : Hp) : callS G_laws_szModel args hp = byvS S_laws_szModel args hp := callS_byv rfl rfl args hp
theorem ok_laws_szModel : InlOk Try.prog 47 (callS G_laws_szModel) := byv_none co_laws_szModel Try.func47 r_laws_szModel rfl (fun _ _ h => h)
/- 120 laws_toIntS calls []  -/
def B0_laws_toIntS : RC :=
  .seq (.seq (.reg [⟨some 8, none, .mv (.t 4)⟩, ⟨some 9, none, .mv (.t 0)⟩, ⟨some 10, none, .len false (.t 9)⟩, ⟨some 11, none, .bin .lss (.t 8) (.t 10)⟩]) (.cond (.t 11) (.skip) (.exit 0))) (.seq (.block 1 (.reg [⟨some 14, none, .mv (.t 3)⟩, ⟨some 15, none, .mv (.t 4)⟩, ⟨some 16, none, .mv (.t 0)⟩, ⟨some 17, none, .mv (.t 4)⟩, ⟨some 18, none, .ia 1 (.t 16) (.t 17)⟩, ⟨some 19, none, .ld 1 false (.t 18)⟩, ⟨some 20, none, .ia 1 (.t 14) (.t 15)⟩, ⟨none, none, .st 1 (.t 20) (.t 19)⟩])) (.reg [⟨some 12, none, .mv (.t 4)⟩, ⟨some 13, none, .bin .add (.t 12) (.c (.int .i64 1))⟩, ⟨some 4, none, .mv (.t 13)⟩]))
def F_laws_toIntS : RF := ⟨22, 1, [.t 2],
  .seq (.reg [⟨some 2, none, .mv (.c (.nil 1))⟩]) (.seq (.reg [⟨some 5, none, .mv (.t 0)⟩, ⟨some 6, none, .len false (.t 5)⟩, ⟨some 7, none, .mk 1 [(.int .i64 0)] 8 (.t 6) (.t 6)⟩, ⟨some 3, none, .mv (.t 7)⟩]) (.seq (.seq (.reg [⟨some 4, none, .mv (.c (.int .i64 0))⟩]) (.block 0 (.loop [0, 3, 4] [(1, [3])] B0_laws_toIntS))) (.seq (.reg [⟨some 21, none, .mv (.t 3)⟩, ⟨some 2, none, .mv (.t 21)⟩]) (.ret))))⟩
def K_laws_toIntS : Keeps := [([0, 3, 4], [(1, [3])])]
theorem r_laws_toIntS : resolveF Try.prog Try.f120 K_laws_toIntS = some F_laws_toIntS := by kernel_rfl
noncomputable def X_laws_toIntS : Ctx := fun _ => none
theorem co_laws_toIntS : CtxOk Try.prog X_laws_toIntS := CtxOk.nil
theorem cx_laws_toIntS : True := trivial
noncomputable def S_laws_toIntS : ByV := ⟨none, false, semF X_laws_toIntS F_laws_toIntS none false⟩
noncomputable def G_laws_toIntS : CK := .byv S_laws_toIntS
theorem sg_laws_toIntS (args : List AV) : S_laws_toIntS.sem args = semF X_laws_toIntS F_laws_toIntS none false args := rfl
theorem cl_laws_toIntS (args : List AV) (hp : Hp) : callS G_laws_toIntS args hp = byvS S_laws_toIntS args hp := callS_byv rfl rfl args hp
theorem ok_laws_toIntS : InlOk Try.prog 120 (callS G_laws_toIntS) := byv_none co_laws_toIntS Try.func120 r_laws_toIntS rfl (fun _ _ h => h)
/- 176 laws_toNode calls [laws_toIntS]  -/
def F_laws_toNode : RF := ⟨24, 1, [.cell 2 6 true],
  .seq (.reg [⟨some 1, none, .box (.t 0)⟩, ⟨some 2, none, .new [(.int .i64 0), (.int .i64 0), (.str ⟨#[]⟩), (.str ⟨#[]⟩), (.str ⟨#[]⟩), (.nil 1)]⟩]) (.seq (.reg [⟨some 3, none, .new [(.int .i64 0), (.int .i64 0), (.str ⟨#[]⟩), (.str ⟨#[]⟩), (.str ⟨#[]⟩), (.nil 1)]⟩]) (.seq (.reg [⟨some 4, none, .fa 0 (.t 1)⟩, ⟨some 5, none, .ld 1 false (.t 4)⟩, ⟨some 6, none, .fa 0 (.t 3)⟩, ⟨none, none, .st 1 (.t 6) (.t 5)⟩]) (.seq (.reg [⟨some 7, none, .fa 1 (.t 1)⟩, ⟨some 8, none, .ld 1 false (.t 7)⟩, ⟨some 9, none, .fa 1 (.t 3)⟩, ⟨none, none, .st 1 (.t 9) (.t 8)⟩]) (.seq (.reg [⟨some 10, none, .fa 2 (.t 1)⟩, ⟨some 11, none, .ld 1 false (.t 10)⟩, ⟨some 12, none, .fa 2 (.t 3)⟩, ⟨none, none, .st 1 (.t 12) (.t 11)⟩]) (.seq (.reg [⟨some 13, none, .fa 3 (.t 1)⟩, ⟨some 14, none, .ld 1 false (.t 13)⟩, ⟨some 15, none, .fa 3 (.t 3)⟩, ⟨none, none, .st 1 (.t 15) (.t 14)⟩]) (.seq (.reg [⟨some 16, none, .fa 4 (.t 1)⟩, ⟨some 17, none, .ld 1 false (.t 16)⟩, ⟨some 18, none, .fa 4 (.t 3)⟩, ⟨none, none, .st 1 (.t 18) (.t 17)⟩]) (.seq (.reg [⟨some 19, none, .fa 5 (.t 1)⟩, ⟨some 20, none, .ld 1 false (.t 19)⟩, ⟨some 21, none, .call 120 [(.t 20)]⟩, ⟨some 22, none, .fa 5 (.t 3)⟩, ⟨none, none, .st 1 (.t 22) (.t 21)⟩]) (.seq (.reg [⟨some 23, none, .ld 6 true (.t 3)⟩, ⟨none, none, .st 6 (.t 2) (.t 23)⟩]) (.ret)))))))))⟩
def K_laws_toNode : Keeps := []
theorem r_laws_toNode : resolveF Try.prog Try.f176 K_laws_toNode = some F_laws_toNode := by kernel_rfl
noncomputable def X_laws_toNode : Ctx := Ctx.cons 120 G_laws_toIntS (fun _ => none)
theorem co_laws_toNode : CtxOk Try.prog X_laws_toNode := CtxOk.cons (CtxOk.nil) ok_laws_toIntS
theorem cx_laws_toNode : ((∀ args hp, callX X_laws_toNode 120 args hp = callS G_laws_toIntS args hp) ∧ (trC (X_laws_toNode 120) = false)) := ⟨fun _ _ => rfl, rfl⟩
noncomputable def S_laws_toNode : ByV := ⟨none, false, semF X_laws_toNode F_laws_toNode none false⟩
noncomputable def G_laws_toNode : CK := .byv S_laws_toNode
theorem sg_laws_toNode (args : List AV) : S_laws_toNode.sem args = semF X_laws_toNode F_laws_toNode none false args := rfl
theorem cl_laws_toNode (args : List AV) (hp : Hp) : callS G_laws_toNode args hp = byvS S_laws_toNode args hp := callS_byv rfl rfl args hp
theorem ok_laws_toNode : InlOk Try.prog 176 (callS G_laws_toNode) := byv_none co_laws_toNode Try.func176 r_laws_toNode rfl (fun _ _ h => h)
/- 93 laws_toNodeS calls [laws_toNode]  -/
def B0_laws_toNodeS : RC :=
  .seq (.seq (.reg [⟨some 8, none, .mv (.t 4)⟩, ⟨some 9, none, .mv (.t 0)⟩, ⟨some 10, none, .len false (.t 9)⟩, ⟨some 11, none, .bin .lss (.t 8) (.t 10)⟩]) (.cond (.t 11) (.skip) (.exit 0))) (.seq (.block 1 (.reg [⟨some 14, none, .mv (.t 3)⟩, ⟨some 15, none, .mv (.t 4)⟩, ⟨some 16, none, .mv (.t 0)⟩, ⟨some 17, none, .mv (.t 4)⟩, ⟨some 18, none, .ia 6 (.t 16) (.t 17)⟩, ⟨some 19, none, .ld 6 true (.t 18)⟩, ⟨some 20, none, .call 176 [(.t 19)]⟩, ⟨some 21, none, .ia 6 (.t 14) (.t 15)⟩, ⟨none, none, .st 6 (.t 21) (.t 20)⟩])) (.reg [⟨some 12, none, .mv (.t 4)⟩, ⟨some 13, none, .bin .add (.t 12) (.c (.int .i64 1))⟩, ⟨some 4, none, .mv (.t 13)⟩]))
def F_laws_toNodeS : RF := ⟨23, 1, [.t 2],
  .seq (.reg [⟨some 2, none, .mv (.c (.nil 6))⟩]) (.seq (.reg [⟨some 5, none, .mv (.t 0)⟩, ⟨some 6, none, .len false (.t 5)⟩, ⟨some 7, none, .mk 6 [(.int .i64 0), (.int .i64 0), (.str ⟨#[]⟩), (.str ⟨#[]⟩), (.str ⟨#[]⟩), (.tree 1 [])] 88 (.t 6) (.t 6)⟩, ⟨some 3, none, .mv (.t 7)⟩]) (.seq (.seq (.reg [⟨some 4, none, .mv (.c (.int .i64 0))⟩]) (.block 0 (.loop [0, 3, 4] [(1, [3])] B0_laws_toNodeS))) (.seq (.reg [⟨some 22, none, .mv (.t 3)⟩, ⟨some 2, none, .mv (.t 22)⟩]) (.ret))))⟩
def K_laws_toNodeS : Keeps := [([0, 3, 4], [(1, [3])])]
theorem r_laws_toNodeS : resolveF Try.prog Try.f93 K_laws_toNodeS = some F_laws_toNodeS := by kernel_rfl
noncomputable def X_laws_toNodeS : Ctx := Ctx.cons 176 G_laws_toNode (fun _ => none)
theorem co_laws_toNodeS : CtxOk Try.prog X_laws_toNodeS := CtxOk.cons (CtxOk.nil) ok_laws_toNode
theorem cx_laws_toNodeS : ((∀ args hp, callX X_laws_toNodeS 176 args hp = callS G_laws_toNode args hp) ∧ (trC (X_laws_toNodeS 176) = false)) := ⟨fun _ _ => rfl, rfl⟩
noncomputable def S_laws_toNodeS : ByV := ⟨none, false, semF X_laws_toNodeS F_laws_toNodeS none false⟩
noncomputable def G_laws_toNodeS : CK := .byv S_laws_toNodeS
theorem sg_laws_toNodeS (args : List AV) : S_laws_toNodeS.sem args = semF X_laws_toNodeS F_laws_toNodeS none false args := rfl
theorem cl_laws_toNodeS (args : List AV) (hp : Hp) : callS G_laws_toNodeS args hp = byvS S_laws_toNodeS args hp := callS_byv rfl rfl args hp
theorem ok_laws_toNodeS : InlOk Try.prog 93 (callS G_laws_toNodeS) := byv_none co_laws_toNodeS Try.func93 r_laws_toNodeS rfl (fun _ _ h => h)
/- 157 laws_toStringS calls []  -/
def B0_laws_toStringS : RC :=
  .seq (.seq (.reg [⟨some 8, none, .mv (.t 4)⟩, ⟨some 9, none, .mv (.t 0)⟩, ⟨some 10, none, .len false (.t 9)⟩, ⟨some 11, none, .bin .lss (.t 8) (.t 10)⟩]) (.cond (.t 11) (.skip) (.exit 0))) (.seq (.block 1 (.reg [⟨some 14, none, .mv (.t 3)⟩, ⟨some 15, none, .mv (.t 4)⟩, ⟨some 16, none, .mv (.t 0)⟩, ⟨some 17, none, .mv (.t 4)⟩, ⟨some 18, none, .ia 1 (.t 16) (.t 17)⟩, ⟨some 19, none, .ld 1 false (.t 18)⟩, ⟨some 20, none, .ia 1 (.t 14) (.t 15)⟩, ⟨none, none, .st 1 (.t 20) (.t 19)⟩])) (.reg [⟨some 12, none, .mv (.t 4)⟩, ⟨some 13, none, .bin .add (.t 12) (.c (.int .i64 1))⟩, ⟨some 4, none, .mv (.t 13)⟩]))
def F_laws_toStringS : RF := ⟨22, 1, [.t 2],
  .seq (.reg [⟨some 2, none, .mv (.c (.nil 1))⟩]) (.seq (.reg [⟨some 5, none, .mv (.t 0)⟩, ⟨some 6, none, .len false (.t 5)⟩, ⟨some 7, none, .mk 1 [(.str ⟨#[]⟩)] 16 (.t 6) (.t 6)⟩, ⟨some 3, none, .mv (.t 7)⟩]) (.seq (.seq (.reg [⟨some 4, none, .mv (.c (.int .i64 0))⟩]) (.block 0 (.loop [0, 3, 4] [(1, [3])] B0_laws_toStringS))) (.seq (.reg [⟨some 21, none, .mv (.t 3)⟩, ⟨some 2, none, .mv (.t 21)⟩]) (.ret))))⟩
def K_laws_toStringS : Keeps := [([0, 3, 4], [(1, [3])])]
theorem r_laws_toStringS : resolveF Try.prog Try.f157 K_laws_toStringS = some F_laws_toStringS := by kernel_rfl
noncomputable def X_laws_toStringS : Ctx := fun _ => none
theorem co_laws_toStringS : CtxOk Try.prog X_laws_toStringS := CtxOk.nil
theorem cx_laws_toStringS : True := trivial
noncomputable def S_laws_toStringS : ByV := ⟨none, false, semF X_laws_toStringS F_laws_toStringS none false⟩
noncomputable def G_laws_toStringS : CK := .byv S_laws_toStringS
theorem sg_laws_toStringS (args : List AV) : S_laws_toStringS.sem args = semF X_laws_toStringS F_laws_toStringS none false args := rfl
theorem cl_laws_toStringS (args : List AV) (hp : Hp) : callS G_laws_toStringS args hp = byvS S_laws_toStringS args hp := callS_byv rfl rfl args hp
theorem ok_laws_toStringS : InlOk Try.prog 157 (callS G_laws_toStringS) := byv_none co_laws_toStringS Try.func157 r_laws_toStringS rfl (fun _ _ h => h)
/- 242 laws_toEntry calls []  -/
def F_laws_toEntry : RF := ⟨14, 1, [.cell 2 3 true],
  .seq (.reg [⟨some 1, none, .box (.t 0)⟩, ⟨some 2, none, .new [(.str ⟨#[]⟩), (.str ⟨#[]⟩), (.int .i64 0)]⟩]) (.seq (.reg [⟨some 3, none, .new [(.str ⟨#[]⟩), (.str ⟨#[]⟩), (.int .i64 0)]⟩]) (.seq (.reg [⟨some 4, none, .fa 0 (.t 1)⟩, ⟨some 5, none, .ld 1 false (.t 4)⟩, ⟨some 6, none, .fa 0 (.t 3)⟩, ⟨none, none, .st 1 (.t 6) (.t 5)⟩]) (.seq (.reg [⟨some 7, none, .fa 1 (.t 1)⟩, ⟨some 8, none, .ld 1 false (.t 7)⟩, ⟨some 9, none, .fa 1 (.t 3)⟩, ⟨none, none, .st 1 (.t 9) (.t 8)⟩]) (.seq (.reg [⟨some 10, none, .fa 2 (.t 1)⟩, ⟨some 11, none, .ld 1 false (.t 10)⟩, ⟨some 12, none, .fa 2 (.t 3)⟩, ⟨none, none, .st 1 (.t 12) (.t 11)⟩]) (.seq (.reg [⟨some 13, none, .ld 3 true (.t 3)⟩, ⟨none, none, .st 3 (.t 2) (.t 13)⟩]) (.ret))))))⟩
def K_laws_toEntry : Keeps := []
theorem r_laws_toEntry : resolveF Try.prog Try.f242 K_laws_toEntry = some F_laws_toEntry := by kernel_rfl
noncomputable def X_laws_toEntry : Ctx := fun _ => none
theorem co_laws_toEntry : CtxOk Try.prog X_laws_toEntry := CtxOk.nil
theorem cx_laws_toEntry : True := trivial
noncomputable def S_laws_toEntry : ByV := ⟨none, false, semF X_laws_toEntry F_laws_toEntry none false⟩
noncomputable def G_laws_toEntry : CK := .byv S_laws_toEntry
theorem sg_laws_toEntry (args : List AV) : S_laws_toEntry.sem args = semF X_laws_toEntry F_laws_toEntry none false args := rfl
theorem cl_laws_toEntry (args : List AV) (hp : Hp) : callS G_laws_toEntry args hp = byvS S_laws_toEntry args hp := callS_byv rfl rfl args hp
theorem ok_laws_toEntry : InlOk Try.prog 242 (callS G_laws_toEntry) := byv_none co_laws_toEntry Try.func242 r_laws_toEntry rfl (fun _ _ h => h)
/- 222 laws_toEntryS calls [laws_toEntry]  -/
def B0_laws_toEntryS : RC :=
  .seq (.seq (.reg [⟨some 8, none, .mv (.t 4)⟩, ⟨some 9, none, .mv (.t 0)⟩, ⟨some 10, none, .len false (.t 9)⟩, ⟨some 11, none, .bin .lss (.t 8) (.t 10)⟩]) (.cond (.t 11) (.skip) (.exit 0))) (.seq (.block 1 (.reg [⟨some 14, none, .mv (.t 3)⟩, ⟨some 15, none, .mv (.t 4)⟩, ⟨some 16, none, .mv (.t 0)⟩, ⟨some 17, none, .mv (.t 4)⟩, ⟨some 18, none, .ia 3 (.t 16) (.t 17)⟩, ⟨some 19, none, .ld 3 true (.t 18)⟩, ⟨some 20, none, .call 242 [(.t 19)]⟩, ⟨some 21, none, .ia 3 (.t 14) (.t 15)⟩, ⟨none, none, .st 3 (.t 21) (.t 20)⟩])) (.reg [⟨some 12, none, .mv (.t 4)⟩, ⟨some 13, none, .bin .add (.t 12) (.c (.int .i64 1))⟩, ⟨some 4, none, .mv (.t 13)⟩]))
def F_laws_toEntryS : RF := ⟨23, 1, [.t 2],
  .seq (.reg [⟨some 2, none, .mv (.c (.nil 3))⟩]) (.seq (.reg [⟨some 5, none, .mv (.t 0)⟩, ⟨some 6, none, .len false (.t 5)⟩, ⟨some 7, none, .mk 3 [(.str ⟨#[]⟩), (.str ⟨#[]⟩), (.int .i64 0)] 40 (.t 6) (.t 6)⟩, ⟨some 3, none, .mv (.t 7)⟩]) (.seq (.seq (.reg [⟨some 4, none, .mv (.c (.int .i64 0))⟩]) (.block 0 (.loop [0, 3, 4] [(1, [3])] B0_laws_toEntryS))) (.seq (.reg [⟨some 22, none, .mv (.t 3)⟩, ⟨some 2, none, .mv (.t 22)⟩]) (.ret))))⟩
def K_laws_toEntryS : Keeps := [([0, 3, 4], [(1, [3])])]
theorem r_laws_toEntryS : resolveF Try.prog Try.f222 K_laws_toEntryS = some F_laws_toEntryS := by kernel_rfl
noncomputable def X_laws_toEntryS : Ctx := Ctx.cons 242 G_laws_toEntry (fun _ => none)
theorem co_laws_toEntryS : CtxOk Try.prog X_laws_toEntryS := CtxOk.cons (CtxOk.nil) ok_laws_toEntry
theorem cx_laws_toEntryS : ((∀ args hp, callX X_laws_toEntryS 242 args hp = callS G_laws_toEntry args hp) ∧ (trC (X_laws_toEntryS 242) = false)) := ⟨fun _ _ => rfl, rfl⟩
noncomputable def S_laws_toEntryS : ByV := ⟨none, false, semF X_laws_toEntryS F_laws_toEntryS none false⟩
noncomputable def G_laws_toEntryS : CK := .byv S_laws_toEntryS
theorem sg_laws_toEntryS (args : List AV) : S_laws_toEntryS.sem args = semF X_laws_toEntryS F_laws_toEntryS none false args := rfl
theorem cl_laws_toEntryS (args : List AV) (hp : Hp) : callS G_laws_toEntryS args hp = byvS S_laws_toEntryS args hp := callS_byv rfl rfl args hp
theorem ok_laws_toEntryS : InlOk Try.prog 222 (callS G_laws_toEntryS) := byv_none co_laws_toEntryS Try.func222 r_laws_toEntryS rfl (fun _ _ h => h)
/- 177 laws_toMonitor calls [laws_toStringS, laws_toEntryS]  -/
def F_laws_toMonitor : RF := ⟨20, 1, [.cell 2 4 true],
  .seq (.reg [⟨some 1, none, .box (.t 0)⟩, ⟨some 2, none, .new [(.str ⟨#[]⟩), (.nil 1), (.nil 1), (.nil 3)]⟩]) (.seq (.reg [⟨some 3, none, .new [(.str ⟨#[]⟩), (.nil 1), (.nil 1), (.nil 3)]⟩]) (.seq (.reg [⟨some 4, none, .fa 0 (.t 1)⟩, ⟨some 5, none, .ld 1 false (.t 4)⟩, ⟨some 6, none, .fa 0 (.t 3)⟩, ⟨none, none, .st 1 (.t 6) (.t 5)⟩]) (.seq (.reg [⟨some 7, none, .fa 1 (.t 1)⟩, ⟨some 8, none, .ld 1 false (.t 7)⟩, ⟨some 9, none, .call 157 [(.t 8)]⟩, ⟨some 10, none, .fa 1 (.t 3)⟩, ⟨none, none, .st 1 (.t 10) (.t 9)⟩]) (.seq (.reg [⟨some 11, none, .fa 2 (.t 1)⟩, ⟨some 12, none, .ld 1 false (.t 11)⟩, ⟨some 13, none, .call 157 [(.t 12)]⟩, ⟨some 14, none, .fa 2 (.t 3)⟩, ⟨none, none, .st 1 (.t 14) (.t 13)⟩]) (.seq (.reg [⟨some 15, none, .fa 3 (.t 1)⟩, ⟨some 16, none, .ld 1 false (.t 15)⟩, ⟨some 17, none, .call 222 [(.t 16)]⟩, ⟨some 18, none, .fa 3 (.t 3)⟩, ⟨none, none, .st 1 (.t 18) (.t 17)⟩]) (.seq (.reg [⟨some 19, none, .ld 4 true (.t 3)⟩, ⟨none, none, .st 4 (.t 2) (.t 19)⟩]) (.ret)))))))⟩
def K_laws_toMonitor : Keeps := []
theorem r_laws_toMonitor : resolveF Try.prog Try.f177 K_laws_toMonitor = some F_laws_toMonitor := by kernel_rfl
noncomputable def X_laws_toMonitor : Ctx := Ctx.cons 157 G_laws_toStringS (Ctx.cons 222 G_laws_toEntryS (fun _ => none))
theorem co_laws_toMonitor : CtxOk Try.prog X_laws_toMonitor := CtxOk.cons (CtxOk.cons (CtxOk.nil) ok_laws_toEntryS) ok_laws_toStringS
theorem cx_laws_toMonitor : ((∀ args hp, callX X_laws_toMonitor 157 args hp = callS G_laws_toStringS args hp) ∧ (trC (X_laws_toMonitor 157) = false)) ∧ ((∀ args hp, callX X_laws_toMonitor 222 args hp = callS G_laws_toEntryS args hp) ∧ (trC (X_laws_toMonitor 222) = false)) := ⟨⟨fun _ _ => rfl, rfl⟩, ⟨fun _ _ => rfl, rfl⟩⟩
noncomputable def S_laws_toMonitor : ByV := ⟨none, false, semF X_laws_toMonitor F_laws_toMonitor none false⟩
noncomputable def G_laws_toMonitor : CK := .byv S_laws_toMonitor
theorem sg_laws_toMonitor (args : List AV) : S_laws_toMonitor.sem args = semF X_laws_toMonitor F_laws_toMonitor none false args := rfl
theorem cl_laws_toMonitor (args : List AV) (hp : Hp) : callS G_laws_toMonitor args hp = byvS S_laws_toMonitor args hp := callS_byv rfl rfl args hp
theorem ok_laws_toMonitor : InlOk Try.prog 177 (callS G_laws_toMonitor) := byv_none co_laws_toMonitor Try.func177 r_laws_toMonitor rfl (fun _ _ h => h)
/- 94 laws_toMonitorS calls [laws_toMonitor]  -/
def B0_laws_toMonitorS : RC :=
  .seq (.seq (.reg [⟨some 8, none, .mv (.t 4)⟩, ⟨some 9, none, .mv (.t 0)⟩, ⟨some 10, none, .len false (.t 9)⟩, ⟨some 11, none, .bin .lss (.t 8) (.t 10)⟩]) (.cond (.t 11) (.skip) (.exit 0))) (.seq (.block 1 (.reg [⟨some 14, none, .mv (.t 3)⟩, ⟨some 15, none, .mv (.t 4)⟩, ⟨some 16, none, .mv (.t 0)⟩, ⟨some 17, none, .mv (.t 4)⟩, ⟨some 18, none, .ia 4 (.t 16) (.t 17)⟩, ⟨some 19, none, .ld 4 true (.t 18)⟩, ⟨some 20, none, .call 177 [(.t 19)]⟩, ⟨some 21, none, .ia 4 (.t 14) (.t 15)⟩, ⟨none, none, .st 4 (.t 21) (.t 20)⟩])) (.reg [⟨some 12, none, .mv (.t 4)⟩, ⟨some 13, none, .bin .add (.t 12) (.c (.int .i64 1))⟩, ⟨some 4, none, .mv (.t 13)⟩]))
def F_laws_toMonitorS : RF := ⟨23, 1, [.t 2],
  .seq (.reg [⟨some 2, none, .mv (.c (.nil 4))⟩]) (.seq (.reg [⟨some 5, none, .mv (.t 0)⟩, ⟨some 6, none, .len false (.t 5)⟩, ⟨some 7, none, .mk 4 [(.str ⟨#[]⟩), (.tree 1 []), (.tree 1 []), (.tree 3 [])] 88 (.t 6) (.t 6)⟩, ⟨some 3, none, .mv (.t 7)⟩]) (.seq (.seq (.reg [⟨some 4, none, .mv (.c (.int .i64 0))⟩]) (.block 0 (.loop [0, 3, 4] [(1, [3])] B0_laws_toMonitorS))) (.seq (.reg [⟨some 22, none, .mv (.t 3)⟩, ⟨some 2, none, .mv (.t 22)⟩]) (.ret))))⟩
def K_laws_toMonitorS : Keeps := [([0, 3, 4], [(1, [3])])]
theorem r_laws_toMonitorS : resolveF Try.prog Try.f94 K_laws_toMonitorS = some F_laws_toMonitorS := by kernel_rfl
noncomputable def X_laws_toMonitorS : Ctx := Ctx.cons 177 G_laws_toMonitor (fun _ => none)
theorem co_laws_toMonitorS : CtxOk Try.prog X_laws_toMonitorS := CtxOk.cons (CtxOk.nil) ok_laws_toMonitor
theorem cx_laws_toMonitorS : ((∀ args hp, callX X_laws_toMonitorS 177 args hp = callS G_laws_toMonitor args hp) ∧ (trC (X_laws_toMonitorS 177) = false)) := ⟨fun _ _ => rfl, rfl⟩
noncomputable def S_laws_toMonitorS : ByV := ⟨none, false, semF X_laws_toMonitorS F_laws_toMonitorS none false⟩
noncomputable def G_laws_toMonitorS : CK := .byv S_laws_toMonitorS
theorem sg_laws_toMonitorS (args : List AV) : S_laws_toMonitorS.sem args = semF X_laws_toMonitorS F_laws_toMonitorS none false args := rfl
theorem cl_laws_toMonitorS (args : List AV) (hp : Hp) : callS G_laws_toMonitorS args hp = byvS S_laws_toMonitorS args hp := callS_byv rfl rfl args hp
theorem ok_laws_toMonitorS : InlOk Try.prog 94 (callS G_laws_toMonitorS) := byv_none co_laws_toMonitorS Try.func94 r_laws_toMonitorS rfl (fun _ _ h => h)
/- 178 laws_toProcess calls [laws_toStringS]  -/
def F_laws_toProcess : RF := ⟨19, 1, [.cell 2 4 true],
  .seq (.reg [⟨some 1, none, .box (.t 0)⟩, ⟨some 2, none, .new [(.str ⟨#[]⟩), (.nil 1), (.nil 1), (.int .i64 0)]⟩]) (.seq (.reg [⟨some 3, none, .new [(.str ⟨#[]⟩), (.nil 1), (.nil 1), (.int .i64 0)]⟩]) (.seq (.reg [⟨some 4, none, .fa 0 (.t 1)⟩, ⟨some 5, none, .ld 1 false (.t 4)⟩, ⟨some 6, none, .fa 0 (.t 3)⟩, ⟨none, none, .st 1 (.t 6) (.t 5)⟩]) (.seq (.reg [⟨some 7, none, .fa 1 (.t 1)⟩, ⟨some 8, none, .ld 1 false (.t 7)⟩, ⟨some 9, none, .call 157 [(.t 8)]⟩, ⟨some 10, none, .fa 1 (.t 3)⟩, ⟨none, none, .st 1 (.t 10) (.t 9)⟩]) (.seq (.reg [⟨some 11, none, .fa 2 (.t 1)⟩, ⟨some 12, none, .ld 1 false (.t 11)⟩, ⟨some 13, none, .call 157 [(.t 12)]⟩, ⟨some 14, none, .fa 2 (.t 3)⟩, ⟨none, none, .st 1 (.t 14) (.t 13)⟩]) (.seq (.reg [⟨some 15, none, .fa 3 (.t 1)⟩, ⟨some 16, none, .ld 1 false (.t 15)⟩, ⟨some 17, none, .fa 3 (.t 3)⟩, ⟨none, none, .st 1 (.t 17) (.t 16)⟩]) (.seq (.reg [⟨some 18, none, .ld 4 true (.t 3)⟩, ⟨none, none, .st 4 (.t 2) (.t 18)⟩]) (.ret)))))))⟩
def K_laws_toProcess : Keeps := []
theorem r_laws_toProcess : resolveF Try.prog Try.f178 K_laws_toProcess = some F_laws_toProcess := by kernel_rfl
noncomputable def X_laws_toProcess : Ctx := Ctx.cons 157 G_laws_toStringS (fun _ => none)
theorem co_laws_toProcess : CtxOk Try.prog X_laws_toProcess := CtxOk.cons (CtxOk.nil) ok_laws_toStringS
theorem cx_laws_toProcess : ((∀ args hp, callX X_laws_toProcess 157 args hp = callS G_laws_toStringS args hp) ∧ (trC (X_laws_toProcess 157) = false)) := ⟨fun _ _ => rfl, rfl⟩
noncomputable def S_laws_toProcess : ByV := ⟨none, false, semF X_laws_toProcess F_laws_toProcess none false⟩
noncomputable def G_laws_toProcess : CK := .byv S_laws_toProcess
theorem sg_laws_toProcess (args : List AV) : S_laws_toProcess.sem args = semF X_laws_toProcess F_laws_toProcess none false args := rfl
theorem cl_laws_toProcess (args : List AV) (hp : Hp) : callS G_laws_toProcess args hp = byvS S_laws_toProcess args hp := callS_byv rfl rfl args hp
theorem ok_laws_toProcess : InlOk Try.prog 178 (callS G_laws_toProcess) := byv_none co_laws_toProcess Try.func178 r_laws_toProcess rfl (fun _ _ h => h)
/- 95 laws_toProcessS calls [laws_toProcess]  -/
def B0_laws_toProcessS : RC :=
  .seq (.seq (.reg [⟨some 8, none, .mv (.t 4)⟩, ⟨some 9, none, .mv (.t 0)⟩, ⟨some 10, none, .len false (.t 9)⟩, ⟨some 11, none, .bin .lss (.t 8) (.t 10)⟩]) (.cond (.t 11) (.skip) (.exit 0))) (.seq (.block 1 (.reg [⟨some 14, none, .mv (.t 3)⟩, ⟨some 15, none, .mv (.t 4)⟩, ⟨some 16, none, .mv (.t 0)⟩, ⟨some 17, none, .mv (.t 4)⟩, ⟨some 18, none, .ia 4 (.t 16) (.t 17)⟩, ⟨some 19, none, .ld 4 true (.t 18)⟩, ⟨some 20, none, .call 178 [(.t 19)]⟩, ⟨some 21, none, .ia 4 (.t 14) (.t 15)⟩, ⟨none, none, .st 4 (.t 21) (.t 20)⟩])) (.reg [⟨some 12, none, .mv (.t 4)⟩, ⟨some 13, none, .bin .add (.t 12) (.c (.int .i64 1))⟩, ⟨some 4, none, .mv (.t 13)⟩]))
def F_laws_toProcessS : RF := ⟨23, 1, [.t 2],
  .seq (.reg [⟨some 2, none, .mv (.c (.nil 4))⟩]) (.seq (.reg [⟨some 5, none, .mv (.t 0)⟩, ⟨some 6, none, .len false (.t 5)⟩, ⟨some 7, none, .mk 4 [(.str ⟨#[]⟩), (.tree 1 []), (.tree 1 []), (.int .i64 0)] 72 (.t 6) (.t 6)⟩, ⟨some 3, none, .mv (.t 7)⟩]) (.seq (.seq (.reg [⟨some 4, none, .mv (.c (.int .i64 0))⟩]) (.block 0 (.loop [0, 3, 4] [(1, [3])] B0_laws_toProcessS))) (.seq (.reg [⟨some 22, none, .mv (.t 3)⟩, ⟨some 2, none, .mv (.t 22)⟩]) (.ret))))⟩
def K_laws_toProcessS : Keeps := [([0, 3, 4], [(1, [3])])]
theorem r_laws_toProcessS : resolveF Try.prog Try.f95 K_laws_toProcessS = some F_laws_toProcessS := by kernel_rfl
noncomputable def X_laws_toProcessS : Ctx := Ctx.cons 178 G_laws_toProcess (fun _ => none)
theorem co_laws_toProcessS : CtxOk Try.prog X_laws_toProcessS := CtxOk.cons (CtxOk.nil) ok_laws_toProcess
theorem cx_laws_toProcessS : ((∀ args hp, callX X_laws_toProcessS 178 args hp = callS G_laws_toProcess args hp) ∧ (trC (X_laws_toProcessS 178) = false)) := ⟨fun _ _ => rfl, rfl⟩
noncomputable def S_laws_toProcessS : ByV := ⟨none, false, semF X_laws_toProcessS F_laws_toProcessS none false⟩
noncomputable def G_laws_toProcessS : CK := .byv S_laws_toProcessS
theorem sg_laws_toProcessS (args : List AV) : S_laws_toProcessS.sem args = semF X_laws_toProcessS F_laws_toProcessS none false args := rfl
theorem cl_laws_toProcessS (args : List AV) (hp : Hp) : callS G_laws_toProcessS args hp = byvS S_laws_toProcessS args hp := callS_byv rfl rfl args hp
theorem ok_laws_toProcessS : InlOk Try.prog 95 (callS G_laws_toProcessS) := byv_none co_laws_toProcessS Try.func95 r_laws_toProcessS rfl (fun _ _ h => h)
/- 23 laws_toProgram calls [laws_toNodeS, laws_toMonitorS, laws_toProcessS]  -/
def F_laws_toProgram : RF := ⟨17, 1, [.cell 2 3 true],
  .seq (.reg [⟨some 1, none, .box (.t 0)⟩, ⟨some 2, none, .new [(.nil 6), (.nil 4), (.nil 4)]⟩]) (.seq (.reg [⟨some 3, none, .new [(.nil 6), (.nil 4), (.nil 4)]⟩]) (.seq (.reg [⟨some 4, none, .fa 0 (.t 1)⟩, ⟨some 5, none, .ld 1 false (.t 4)⟩, ⟨some 6, none, .call 93 [(.t 5)]⟩, ⟨some 7, none, .fa 0 (.t 3)⟩, ⟨none, none, .st 1 (.t 7) (.t 6)⟩]) (.seq (.reg [⟨some 8, none, .fa 1 (.t 1)⟩, ⟨some 9, none, .ld 1 false (.t 8)⟩, ⟨some 10, none, .call 94 [(.t 9)]⟩, ⟨some 11, none, .fa 1 (.t 3)⟩, ⟨none, none, .st 1 (.t 11) (.t 10)⟩]) (.seq (.reg [⟨some 12, none, .fa 2 (.t 1)⟩, ⟨some 13, none, .ld 1 false (.t 12)⟩, ⟨some 14, none, .call 95 [(.t 13)]⟩, ⟨some 15, none, .fa 2 (.t 3)⟩, ⟨none, none, .st 1 (.t 15) (.t 14)⟩]) (.seq (.reg [⟨some 16, none, .ld 3 true (.t 3)⟩, ⟨none, none, .st 3 (.t 2) (.t 16)⟩]) (.ret))))))⟩
def K_laws_toProgram : Keeps := []
theorem r_laws_toProgram : resolveF Try.prog Try.f23 K_laws_toProgram = some F_laws_toProgram := by kernel_rfl
noncomputable def X_laws_toProgram : Ctx := Ctx.cons 93 G_laws_toNodeS (Ctx.cons 94 G_laws_toMonitorS (Ctx.cons 95 G_laws_toProcessS (fun _ => none)))
theorem co_laws_toProgram : CtxOk Try.prog X_laws_toProgram := CtxOk.cons (CtxOk.cons (CtxOk.cons (CtxOk.nil) ok_laws_toProcessS) ok_laws_toMonitorS) ok_laws_toNodeS
theorem cx_laws_toProgram : ((∀ args hp, callX X_laws_toProgram 93 args hp = callS G_laws_toNodeS args hp) ∧ (trC (X_laws_toProgram 93) = false)) ∧ ((∀ args hp, callX X_laws_toProgram 94 args hp = callS G_laws_toMonitorS args hp) ∧ (trC (X_laws_toProgram 94) = false)) ∧ ((∀ args hp, callX X_laws_toProgram 95 args hp = callS G_laws_toProcessS args hp) ∧ (trC (X_laws_toProgram 95) = false)) := ⟨⟨fun _ _ => rfl, rfl⟩, ⟨fun _ _ => rfl, rfl⟩, ⟨fun _ _ => rfl, rfl⟩⟩
noncomputable def S_laws_toProgram : ByV := ⟨none, false, semF X_laws_toProgram F_laws_toProgram none false⟩
noncomputable def G_laws_toProgram : CK := .byv S_laws_toProgram
theorem sg_laws_toProgram (args : List AV) : S_laws_toProgram.sem args = semF X_laws_toProgram F_laws_toProgram none false args := rfl
theorem cl_laws_toProgram (args : List AV) (hp : Hp) : callS G_laws_toProgram args hp = byvS S_laws_toProgram args hp := callS_byv rfl rfl args hp
theorem ok_laws_toProgram : InlOk Try.prog 23 (callS G_laws_toProgram) := byv_none co_laws_toProgram Try.func23 r_laws_toProgram rfl (fun _ _ h => h)
/- 194 laws_toEnv calls [laws_toStringS, laws_toIntS]  -/
def F_laws_toEnv : RF := ⟨13, 1, [.cell 2 2 true],
  .seq (.reg [⟨some 1, none, .box (.t 0)⟩, ⟨some 2, none, .new [(.nil 1), (.nil 1)]⟩]) (.seq (.reg [⟨some 3, none, .new [(.nil 1), (.nil 1)]⟩]) (.seq (.reg [⟨some 4, none, .fa 0 (.t 1)⟩, ⟨some 5, none, .ld 1 false (.t 4)⟩, ⟨some 6, none, .call 157 [(.t 5)]⟩, ⟨some 7, none, .fa 0 (.t 3)⟩, ⟨none, none, .st 1 (.t 7) (.t 6)⟩]) (.seq (.reg [⟨some 8, none, .fa 1 (.t 1)⟩, ⟨some 9, none, .ld 1 false (.t 8)⟩, ⟨some 10, none, .call 120 [(.t 9)]⟩, ⟨some 11, none, .fa 1 (.t 3)⟩, ⟨none, none, .st 1 (.t 11) (.t 10)⟩]) (.seq (.reg [⟨some 12, none, .ld 2 true (.t 3)⟩, ⟨none, none, .st 2 (.t 2) (.t 12)⟩]) (.ret)))))⟩
def K_laws_toEnv : Keeps := []
theorem r_laws_toEnv : resolveF Try.prog Try.f194 K_laws_toEnv = some F_laws_toEnv := by kernel_rfl
noncomputable def X_laws_toEnv : Ctx := Ctx.cons 157 G_laws_toStringS (Ctx.cons 120 G_laws_toIntS (fun _ => none))
theorem co_laws_toEnv : CtxOk Try.prog X_laws_toEnv := CtxOk.cons (CtxOk.cons (CtxOk.nil) ok_laws_toIntS) ok_laws_toStringS
theorem cx_laws_toEnv : ((∀ args hp, callX X_laws_toEnv 157 args hp = callS G_laws_toStringS args hp) ∧ (trC (X_laws_toEnv 157) = false)) ∧ ((∀ args hp, callX X_laws_toEnv 120 args hp = callS G_laws_toIntS args hp) ∧ (trC (X_laws_toEnv 120) = false)) := ⟨⟨fun _ _ => rfl, rfl⟩, ⟨fun _ _ => rfl, rfl⟩⟩
noncomputable def S_laws_toEnv : ByV := ⟨none, false, semF X_laws_toEnv F_laws_toEnv none false⟩
noncomputable def G_laws_toEnv : CK := .byv S_laws_toEnv
theorem sg_laws_toEnv (args : List AV) : S_laws_toEnv.sem args = semF X_laws_toEnv F_laws_toEnv none false args := rfl
theorem cl_laws_toEnv (args : List AV) (hp : Hp) : callS G_laws_toEnv args hp = byvS S_laws_toEnv args hp := callS_byv rfl rfl args hp
theorem ok_laws_toEnv : InlOk Try.prog 194 (callS G_laws_toEnv) := byv_none co_laws_toEnv Try.func194 r_laws_toEnv rfl (fun _ _ h => h)
/- 226 laws_toThread calls [laws_toIntS, laws_toEnv]  -/
def F_laws_toThread : RF := ⟨16, 1, [.cell 2 4 true],
  .seq (.reg [⟨some 1, none, .box (.t 0)⟩, ⟨some 2, none, .new [(.nil 1), (.nil 1), (.nil 1), (.int .i64 0)]⟩]) (.seq (.reg [⟨some 3, none, .new [(.nil 1), (.nil 1), (.nil 1), (.int .i64 0)]⟩]) (.seq (.reg [⟨some 4, none, .fa 0 (.t 1)⟩, ⟨some 5, none, .ld 1 false (.t 4)⟩, ⟨some 6, none, .call 120 [(.t 5)]⟩, ⟨some 7, none, .fa 0 (.t 3)⟩, ⟨none, none, .st 1 (.t 7) (.t 6)⟩]) (.seq (.reg [⟨some 8, none, .fa 1 (.t 1)⟩, ⟨some 9, none, .ld 2 true (.t 8)⟩, ⟨some 10, none, .call 194 [(.t 9)]⟩, ⟨some 11, none, .fa 1 (.t 3)⟩, ⟨none, none, .st 2 (.t 11) (.t 10)⟩]) (.seq (.reg [⟨some 12, none, .fa 3 (.t 1)⟩, ⟨some 13, none, .ld 1 false (.t 12)⟩, ⟨some 14, none, .fa 3 (.t 3)⟩, ⟨none, none, .st 1 (.t 14) (.t 13)⟩]) (.seq (.reg [⟨some 15, none, .ld 4 true (.t 3)⟩, ⟨none, none, .st 4 (.t 2) (.t 15)⟩]) (.ret))))))⟩
def K_laws_toThread : Keeps := []
theorem r_laws_toThread : resolveF Try.prog Try.f226 K_laws_toThread = some F_laws_toThread := by kernel_rfl
noncomputable def X_laws_toThread : Ctx := Ctx.cons 120 G_laws_toIntS (Ctx.cons 194 G_laws_toEnv (fun _ => none))
theorem co_laws_toThread : CtxOk Try.prog X_laws_toThread := CtxOk.cons (CtxOk.cons (CtxOk.nil) ok_laws_toEnv) ok_laws_toIntS
theorem cx_laws_toThread : ((∀ args hp, callX X_laws_toThread 120 args hp = callS G_laws_toIntS args hp) ∧ (trC (X_laws_toThread 120) = false)) ∧ ((∀ args hp, callX X_laws_toThread 194 args hp = callS G_laws_toEnv args hp) ∧ (trC (X_laws_toThread 194) = false)) := ⟨⟨fun _ _ => rfl, rfl⟩, ⟨fun _ _ => rfl, rfl⟩⟩
noncomputable def S_laws_toThread : ByV := ⟨none, false, semF X_laws_toThread F_laws_toThread none false⟩
noncomputable def G_laws_toThread : CK := .byv S_laws_toThread
theorem sg_laws_toThread (args : List AV) : S_laws_toThread.sem args = semF X_laws_toThread F_laws_toThread none false args := rfl
theorem cl_laws_toThread (args : List AV) (hp : Hp) : callS G_laws_toThread args hp = byvS S_laws_toThread args hp := callS_byv rfl rfl args hp
theorem ok_laws_toThread : InlOk Try.prog 226 (callS G_laws_toThread) := byv_none co_laws_toThread Try.func226 r_laws_toThread rfl (fun _ _ h => h)
/- 192 laws_toActor calls [laws_toThread]  -/
def F_laws_toActor : RF := ⟨25, 1, [.cell 2 12 true],
  .seq (.reg [⟨some 1, none, .box (.t 0)⟩, ⟨some 2, none, .new [(.nil 1), (.nil 1), (.nil 1), (.int .i64 0), (.nil 1), (.nil 1), (.nil 1), (.int .i64 0), (.int .i64 0), (.int .i64 0), (.bool false), (.bool false)]⟩]) (.seq (.reg [⟨some 3, none, .new [(.nil 1), (.nil 1), (.nil 1), (.int .i64 0), (.nil 1), (.nil 1), (.nil 1), (.int .i64 0), (.int .i64 0), (.int .i64 0), (.bool false), (.bool false)]⟩]) (.seq (.reg [⟨some 4, none, .fa 0 (.t 1)⟩, ⟨some 5, none, .ld 4 true (.t 4)⟩, ⟨some 6, none, .call 226 [(.t 5)]⟩, ⟨some 7, none, .fa 0 (.t 3)⟩, ⟨none, none, .st 4 (.t 7) (.t 6)⟩]) (.seq (.reg [⟨some 8, none, .fa 4 (.t 1)⟩, ⟨some 9, none, .ld 4 true (.t 8)⟩, ⟨some 10, none, .call 226 [(.t 9)]⟩, ⟨some 11, none, .fa 4 (.t 3)⟩, ⟨none, none, .st 4 (.t 11) (.t 10)⟩]) (.seq (.reg [⟨some 12, none, .fa 8 (.t 1)⟩, ⟨some 13, none, .ld 1 false (.t 12)⟩, ⟨some 14, none, .fa 8 (.t 3)⟩, ⟨none, none, .st 1 (.t 14) (.t 13)⟩]) (.seq (.reg [⟨some 15, none, .fa 9 (.t 1)⟩, ⟨some 16, none, .ld 1 false (.t 15)⟩, ⟨some 17, none, .fa 9 (.t 3)⟩, ⟨none, none, .st 1 (.t 17) (.t 16)⟩]) (.seq (.reg [⟨some 18, none, .fa 10 (.t 1)⟩, ⟨some 19, none, .ld 1 false (.t 18)⟩, ⟨some 20, none, .fa 10 (.t 3)⟩, ⟨none, none, .st 1 (.t 20) (.t 19)⟩]) (.seq (.reg [⟨some 21, none, .fa 11 (.t 1)⟩, ⟨some 22, none, .ld 1 false (.t 21)⟩, ⟨some 23, none, .fa 11 (.t 3)⟩, ⟨none, none, .st 1 (.t 23) (.t 22)⟩]) (.seq (.reg [⟨some 24, none, .ld 12 true (.t 3)⟩, ⟨none, none, .st 12 (.t 2) (.t 24)⟩]) (.ret)))))))))⟩
def K_laws_toActor : Keeps := []
theorem r_laws_toActor : resolveF Try.prog Try.f192 K_laws_toActor = some F_laws_toActor := by kernel_rfl
noncomputable def X_laws_toActor : Ctx := Ctx.cons 226 G_laws_toThread (fun _ => none)
theorem co_laws_toActor : CtxOk Try.prog X_laws_toActor := CtxOk.cons (CtxOk.nil) ok_laws_toThread
theorem cx_laws_toActor : ((∀ args hp, callX X_laws_toActor 226 args hp = callS G_laws_toThread args hp) ∧ (trC (X_laws_toActor 226) = false)) := ⟨fun _ _ => rfl, rfl⟩
noncomputable def S_laws_toActor : ByV := ⟨none, false, semF X_laws_toActor F_laws_toActor none false⟩
noncomputable def G_laws_toActor : CK := .byv S_laws_toActor
theorem sg_laws_toActor (args : List AV) : S_laws_toActor.sem args = semF X_laws_toActor F_laws_toActor none false args := rfl
theorem cl_laws_toActor (args : List AV) (hp : Hp) : callS G_laws_toActor args hp = byvS S_laws_toActor args hp := callS_byv rfl rfl args hp
theorem ok_laws_toActor : InlOk Try.prog 192 (callS G_laws_toActor) := byv_none co_laws_toActor Try.func192 r_laws_toActor rfl (fun _ _ h => h)
/- 136 laws_toActorS calls [laws_toActor]  -/
def B0_laws_toActorS : RC :=
  .seq (.seq (.reg [⟨some 8, none, .mv (.t 4)⟩, ⟨some 9, none, .mv (.t 0)⟩, ⟨some 10, none, .len false (.t 9)⟩, ⟨some 11, none, .bin .lss (.t 8) (.t 10)⟩]) (.cond (.t 11) (.skip) (.exit 0))) (.seq (.block 1 (.reg [⟨some 14, none, .mv (.t 3)⟩, ⟨some 15, none, .mv (.t 4)⟩, ⟨some 16, none, .mv (.t 0)⟩, ⟨some 17, none, .mv (.t 4)⟩, ⟨some 18, none, .ia 12 (.t 16) (.t 17)⟩, ⟨some 19, none, .ld 12 true (.t 18)⟩, ⟨some 20, none, .call 192 [(.t 19)]⟩, ⟨some 21, none, .ia 12 (.t 14) (.t 15)⟩, ⟨none, none, .st 12 (.t 21) (.t 20)⟩])) (.reg [⟨some 12, none, .mv (.t 4)⟩, ⟨some 13, none, .bin .add (.t 12) (.c (.int .i64 1))⟩, ⟨some 4, none, .mv (.t 13)⟩]))
def F_laws_toActorS : RF := ⟨23, 1, [.t 2],
  .seq (.reg [⟨some 2, none, .mv (.c (.nil 12))⟩]) (.seq (.reg [⟨some 5, none, .mv (.t 0)⟩, ⟨some 6, none, .len false (.t 5)⟩, ⟨some 7, none, .mk 12 [(.tree 1 []), (.tree 1 []), (.tree 1 []), (.int .i64 0), (.tree 1 []), (.tree 1 []), (.tree 1 []), (.int .i64 0), (.int .i64 0), (.int .i64 0), (.bool false), (.bool false)] 184 (.t 6) (.t 6)⟩, ⟨some 3, none, .mv (.t 7)⟩]) (.seq (.seq (.reg [⟨some 4, none, .mv (.c (.int .i64 0))⟩]) (.block 0 (.loop [0, 3, 4] [(1, [3])] B0_laws_toActorS))) (.seq (.reg [⟨some 22, none, .mv (.t 3)⟩, ⟨some 2, none, .mv (.t 22)⟩]) (.ret))))⟩
def K_laws_toActorS : Keeps := [([0, 3, 4], [(1, [3])])]
theorem r_laws_toActorS : resolveF Try.prog Try.f136 K_laws_toActorS = some F_laws_toActorS := by kernel_rfl
noncomputable def X_laws_toActorS : Ctx := Ctx.cons 192 G_laws_toActor (fun _ => none)
theorem co_laws_toActorS : CtxOk Try.prog X_laws_toActorS := CtxOk.cons (CtxOk.nil) ok_laws_toActor
theorem cx_laws_toActorS : ((∀ args hp, callX X_laws_toActorS 192 args hp = callS G_laws_toActor args hp) ∧ (trC (X_laws_toActorS 192) = false)) := ⟨fun _ _ => rfl, rfl⟩
noncomputable def S_laws_toActorS : ByV := ⟨none, false, semF X_laws_toActorS F_laws_toActorS none false⟩
noncomputable def G_laws_toActorS : CK := .byv S_laws_toActorS
theorem sg_laws_toActorS (args : List AV) : S_laws_toActorS.sem args = semF X_laws_toActorS F_laws_toActorS none false args := rfl
theorem cl_laws_toActorS (args : List AV) (hp : Hp) : callS G_laws_toActorS args hp = byvS S_laws_toActorS args hp := callS_byv rfl rfl args hp
theorem ok_laws_toActorS : InlOk Try.prog 136 (callS G_laws_toActorS) := byv_none co_laws_toActorS Try.func136 r_laws_toActorS rfl (fun _ _ h => h)
/- 193 laws_toGate calls [laws_toIntS]  -/
def F_laws_toGate : RF := ⟨16, 1, [.cell 2 3 true],
  .seq (.reg [⟨some 1, none, .box (.t 0)⟩, ⟨some 2, none, .new [(.int .i64 0), (.nil 1), (.nil 1)]⟩]) (.seq (.reg [⟨some 3, none, .new [(.int .i64 0), (.nil 1), (.nil 1)]⟩]) (.seq (.reg [⟨some 4, none, .fa 0 (.t 1)⟩, ⟨some 5, none, .ld 1 false (.t 4)⟩, ⟨some 6, none, .fa 0 (.t 3)⟩, ⟨none, none, .st 1 (.t 6) (.t 5)⟩]) (.seq (.reg [⟨some 7, none, .fa 1 (.t 1)⟩, ⟨some 8, none, .ld 1 false (.t 7)⟩, ⟨some 9, none, .call 120 [(.t 8)]⟩, ⟨some 10, none, .fa 1 (.t 3)⟩, ⟨none, none, .st 1 (.t 10) (.t 9)⟩]) (.seq (.reg [⟨some 11, none, .fa 2 (.t 1)⟩, ⟨some 12, none, .ld 1 false (.t 11)⟩, ⟨some 13, none, .call 120 [(.t 12)]⟩, ⟨some 14, none, .fa 2 (.t 3)⟩, ⟨none, none, .st 1 (.t 14) (.t 13)⟩]) (.seq (.reg [⟨some 15, none, .ld 3 true (.t 3)⟩, ⟨none, none, .st 3 (.t 2) (.t 15)⟩]) (.ret))))))⟩
def K_laws_toGate : Keeps := []
theorem r_laws_toGate : resolveF Try.prog Try.f193 K_laws_toGate = some F_laws_toGate := by kernel_rfl
noncomputable def X_laws_toGate : Ctx := Ctx.cons 120 G_laws_toIntS (fun _ => none)
theorem co_laws_toGate : CtxOk Try.prog X_laws_toGate := CtxOk.cons (CtxOk.nil) ok_laws_toIntS
theorem cx_laws_toGate : ((∀ args hp, callX X_laws_toGate 120 args hp = callS G_laws_toIntS args hp) ∧ (trC (X_laws_toGate 120) = false)) := ⟨fun _ _ => rfl, rfl⟩
noncomputable def S_laws_toGate : ByV := ⟨none, false, semF X_laws_toGate F_laws_toGate none false⟩
noncomputable def G_laws_toGate : CK := .byv S_laws_toGate
theorem sg_laws_toGate (args : List AV) : S_laws_toGate.sem args = semF X_laws_toGate F_laws_toGate none false args := rfl
theorem cl_laws_toGate (args : List AV) (hp : Hp) : callS G_laws_toGate args hp = byvS S_laws_toGate args hp := callS_byv rfl rfl args hp
theorem ok_laws_toGate : InlOk Try.prog 193 (callS G_laws_toGate) := byv_none co_laws_toGate Try.func193 r_laws_toGate rfl (fun _ _ h => h)
/- 137 laws_toGateS calls [laws_toGate]  -/
def B0_laws_toGateS : RC :=
  .seq (.seq (.reg [⟨some 8, none, .mv (.t 4)⟩, ⟨some 9, none, .mv (.t 0)⟩, ⟨some 10, none, .len false (.t 9)⟩, ⟨some 11, none, .bin .lss (.t 8) (.t 10)⟩]) (.cond (.t 11) (.skip) (.exit 0))) (.seq (.block 1 (.reg [⟨some 14, none, .mv (.t 3)⟩, ⟨some 15, none, .mv (.t 4)⟩, ⟨some 16, none, .mv (.t 0)⟩, ⟨some 17, none, .mv (.t 4)⟩, ⟨some 18, none, .ia 3 (.t 16) (.t 17)⟩, ⟨some 19, none, .ld 3 true (.t 18)⟩, ⟨some 20, none, .call 193 [(.t 19)]⟩, ⟨some 21, none, .ia 3 (.t 14) (.t 15)⟩, ⟨none, none, .st 3 (.t 21) (.t 20)⟩])) (.reg [⟨some 12, none, .mv (.t 4)⟩, ⟨some 13, none, .bin .add (.t 12) (.c (.int .i64 1))⟩, ⟨some 4, none, .mv (.t 13)⟩]))
def F_laws_toGateS : RF := ⟨23, 1, [.t 2],
  .seq (.reg [⟨some 2, none, .mv (.c (.nil 3))⟩]) (.seq (.reg [⟨some 5, none, .mv (.t 0)⟩, ⟨some 6, none, .len false (.t 5)⟩, ⟨some 7, none, .mk 3 [(.int .i64 0), (.tree 1 []), (.tree 1 [])] 56 (.t 6) (.t 6)⟩, ⟨some 3, none, .mv (.t 7)⟩]) (.seq (.seq (.reg [⟨some 4, none, .mv (.c (.int .i64 0))⟩]) (.block 0 (.loop [0, 3, 4] [(1, [3])] B0_laws_toGateS))) (.seq (.reg [⟨some 22, none, .mv (.t 3)⟩, ⟨some 2, none, .mv (.t 22)⟩]) (.ret))))⟩
def K_laws_toGateS : Keeps := [([0, 3, 4], [(1, [3])])]
theorem r_laws_toGateS : resolveF Try.prog Try.f137 K_laws_toGateS = some F_laws_toGateS := by kernel_rfl
noncomputable def X_laws_toGateS : Ctx := Ctx.cons 193 G_laws_toGate (fun _ => none)
theorem co_laws_toGateS : CtxOk Try.prog X_laws_toGateS := CtxOk.cons (CtxOk.nil) ok_laws_toGate
theorem cx_laws_toGateS : ((∀ args hp, callX X_laws_toGateS 193 args hp = callS G_laws_toGate args hp) ∧ (trC (X_laws_toGateS 193) = false)) := ⟨fun _ _ => rfl, rfl⟩
noncomputable def S_laws_toGateS : ByV := ⟨none, false, semF X_laws_toGateS F_laws_toGateS none false⟩
noncomputable def G_laws_toGateS : CK := .byv S_laws_toGateS
theorem sg_laws_toGateS (args : List AV) : S_laws_toGateS.sem args = semF X_laws_toGateS F_laws_toGateS none false args := rfl
theorem cl_laws_toGateS (args : List AV) (hp : Hp) : callS G_laws_toGateS args hp = byvS S_laws_toGateS args hp := callS_byv rfl rfl args hp
theorem ok_laws_toGateS : InlOk Try.prog 137 (callS G_laws_toGateS) := byv_none co_laws_toGateS Try.func137 r_laws_toGateS rfl (fun _ _ h => h)
/- 138 laws_toEnvS calls [laws_toEnv]  -/
def B0_laws_toEnvS : RC :=
  .seq (.seq (.reg [⟨some 8, none, .mv (.t 4)⟩, ⟨some 9, none, .mv (.t 0)⟩, ⟨some 10, none, .len false (.t 9)⟩, ⟨some 11, none, .bin .lss (.t 8) (.t 10)⟩]) (.cond (.t 11) (.skip) (.exit 0))) (.seq (.block 1 (.reg [⟨some 14, none, .mv (.t 3)⟩, ⟨some 15, none, .mv (.t 4)⟩, ⟨some 16, none, .mv (.t 0)⟩, ⟨some 17, none, .mv (.t 4)⟩, ⟨some 18, none, .ia 2 (.t 16) (.t 17)⟩, ⟨some 19, none, .ld 2 true (.t 18)⟩, ⟨some 20, none, .call 194 [(.t 19)]⟩, ⟨some 21, none, .ia 2 (.t 14) (.t 15)⟩, ⟨none, none, .st 2 (.t 21) (.t 20)⟩])) (.reg [⟨some 12, none, .mv (.t 4)⟩, ⟨some 13, none, .bin .add (.t 12) (.c (.int .i64 1))⟩, ⟨some 4, none, .mv (.t 13)⟩]))
def F_laws_toEnvS : RF := ⟨23, 1, [.t 2],
  .seq (.reg [⟨some 2, none, .mv (.c (.nil 2))⟩]) (.seq (.reg [⟨some 5, none, .mv (.t 0)⟩, ⟨some 6, none, .len false (.t 5)⟩, ⟨some 7, none, .mk 2 [(.tree 1 []), (.tree 1 [])] 48 (.t 6) (.t 6)⟩, ⟨some 3, none, .mv (.t 7)⟩]) (.seq (.seq (.reg [⟨some 4, none, .mv (.c (.int .i64 0))⟩]) (.block 0 (.loop [0, 3, 4] [(1, [3])] B0_laws_toEnvS))) (.seq (.reg [⟨some 22, none, .mv (.t 3)⟩, ⟨some 2, none, .mv (.t 22)⟩]) (.ret))))⟩
def K_laws_toEnvS : Keeps := [([0, 3, 4], [(1, [3])])]
theorem r_laws_toEnvS : resolveF Try.prog Try.f138 K_laws_toEnvS = some F_laws_toEnvS := by kernel_rfl
noncomputable def X_laws_toEnvS : Ctx := Ctx.cons 194 G_laws_toEnv (fun _ => none)
theorem co_laws_toEnvS : CtxOk Try.prog X_laws_toEnvS := CtxOk.cons (CtxOk.nil) ok_laws_toEnv
theorem cx_laws_toEnvS : ((∀ args hp, callX X_laws_toEnvS 194 args hp = callS G_laws_toEnv args hp) ∧ (trC (X_laws_toEnvS 194) = false)) := ⟨fun _ _ => rfl, rfl⟩
noncomputable def S_laws_toEnvS : ByV := ⟨none, false, semF X_laws_toEnvS F_laws_toEnvS none false⟩
noncomputable def G_laws_toEnvS : CK := .byv S_laws_toEnvS
theorem sg_laws_toEnvS (args : List AV) : S_laws_toEnvS.sem args = semF X_laws_toEnvS F_laws_toEnvS none false args := rfl
theorem cl_laws_toEnvS (args : List AV) (hp : Hp) : callS G_laws_toEnvS args hp = byvS S_laws_toEnvS args hp := callS_byv rfl rfl args hp
theorem ok_laws_toEnvS : InlOk Try.prog 138 (callS G_laws_toEnvS) := byv_none co_laws_toEnvS Try.func138 r_laws_toEnvS rfl (fun _ _ h => h)
/- 195 laws_toEvent calls []  -/
def F_laws_toEvent : RF := ⟨14, 1, [.cell 2 3 true],
  .seq (.reg [⟨some 1, none, .box (.t 0)⟩, ⟨some 2, none, .new [(.int .i64 0), (.int .i64 0), (.int .i64 0)]⟩]) (.seq (.reg [⟨some 3, none, .new [(.int .i64 0), (.int .i64 0), (.int .i64 0)]⟩]) (.seq (.reg [⟨some 4, none, .fa 0 (.t 1)⟩, ⟨some 5, none, .ld 1 false (.t 4)⟩, ⟨some 6, none, .fa 0 (.t 3)⟩, ⟨none, none, .st 1 (.t 6) (.t 5)⟩]) (.seq (.reg [⟨some 7, none, .fa 1 (.t 1)⟩, ⟨some 8, none, .ld 1 false (.t 7)⟩, ⟨some 9, none, .fa 1 (.t 3)⟩, ⟨none, none, .st 1 (.t 9) (.t 8)⟩]) (.seq (.reg [⟨some 10, none, .fa 2 (.t 1)⟩, ⟨some 11, none, .ld 1 false (.t 10)⟩, ⟨some 12, none, .fa 2 (.t 3)⟩, ⟨none, none, .st 1 (.t 12) (.t 11)⟩]) (.seq (.reg [⟨some 13, none, .ld 3 true (.t 3)⟩, ⟨none, none, .st 3 (.t 2) (.t 13)⟩]) (.ret))))))⟩
def K_laws_toEvent : Keeps := []
theorem r_laws_toEvent : resolveF Try.prog Try.f195 K_laws_toEvent = some F_laws_toEvent := by kernel_rfl
noncomputable def X_laws_toEvent : Ctx := fun _ => none
theorem co_laws_toEvent : CtxOk Try.prog X_laws_toEvent := CtxOk.nil
theorem cx_laws_toEvent : True := trivial
noncomputable def S_laws_toEvent : ByV := ⟨none, false, semF X_laws_toEvent F_laws_toEvent none false⟩
noncomputable def G_laws_toEvent : CK := .byv S_laws_toEvent
theorem sg_laws_toEvent (args : List AV) : S_laws_toEvent.sem args = semF X_laws_toEvent F_laws_toEvent none false args := rfl
theorem cl_laws_toEvent (args : List AV) (hp : Hp) : callS G_laws_toEvent args hp = byvS S_laws_toEvent args hp := callS_byv rfl rfl args hp
theorem ok_laws_toEvent : InlOk Try.prog 195 (callS G_laws_toEvent) := byv_none co_laws_toEvent Try.func195 r_laws_toEvent rfl (fun _ _ h => h)
/- 139 laws_toEventS calls [laws_toEvent]  -/
def B0_laws_toEventS : RC :=
  .seq (.seq (.reg [⟨some 8, none, .mv (.t 4)⟩, ⟨some 9, none, .mv (.t 0)⟩, ⟨some 10, none, .len false (.t 9)⟩, ⟨some 11, none, .bin .lss (.t 8) (.t 10)⟩]) (.cond (.t 11) (.skip) (.exit 0))) (.seq (.block 1 (.reg [⟨some 14, none, .mv (.t 3)⟩, ⟨some 15, none, .mv (.t 4)⟩, ⟨some 16, none, .mv (.t 0)⟩, ⟨some 17, none, .mv (.t 4)⟩, ⟨some 18, none, .ia 3 (.t 16) (.t 17)⟩, ⟨some 19, none, .ld 3 true (.t 18)⟩, ⟨some 20, none, .call 195 [(.t 19)]⟩, ⟨some 21, none, .ia 3 (.t 14) (.t 15)⟩, ⟨none, none, .st 3 (.t 21) (.t 20)⟩])) (.reg [⟨some 12, none, .mv (.t 4)⟩, ⟨some 13, none, .bin .add (.t 12) (.c (.int .i64 1))⟩, ⟨some 4, none, .mv (.t 13)⟩]))
def F_laws_toEventS : RF := ⟨23, 1, [.t 2],
  .seq (.reg [⟨some 2, none, .mv (.c (.nil 3))⟩]) (.seq (.reg [⟨some 5, none, .mv (.t 0)⟩, ⟨some 6, none, .len false (.t 5)⟩, ⟨some 7, none, .mk 3 [(.int .i64 0), (.int .i64 0), (.int .i64 0)] 24 (.t 6) (.t 6)⟩, ⟨some 3, none, .mv (.t 7)⟩]) (.seq (.seq (.reg [⟨some 4, none, .mv (.c (.int .i64 0))⟩]) (.block 0 (.loop [0, 3, 4] [(1, [3])] B0_laws_toEventS))) (.seq (.reg [⟨some 22, none, .mv (.t 3)⟩, ⟨some 2, none, .mv (.t 22)⟩]) (.ret))))⟩
def K_laws_toEventS : Keeps := [([0, 3, 4], [(1, [3])])]
theorem r_laws_toEventS : resolveF Try.prog Try.f139 K_laws_toEventS = some F_laws_toEventS := by kernel_rfl
noncomputable def X_laws_toEventS : Ctx := Ctx.cons 195 G_laws_toEvent (fun _ => none)
theorem co_laws_toEventS : CtxOk Try.prog X_laws_toEventS := CtxOk.cons (CtxOk.nil) ok_laws_toEvent
theorem cx_laws_toEventS : ((∀ args hp, callX X_laws_toEventS 195 args hp = callS G_laws_toEvent args hp) ∧ (trC (X_laws_toEventS 195) = false)) := ⟨fun _ _ => rfl, rfl⟩
noncomputable def S_laws_toEventS : ByV := ⟨none, false, semF X_laws_toEventS F_laws_toEventS none false⟩
noncomputable def G_laws_toEventS : CK := .byv S_laws_toEventS
theorem sg_laws_toEventS (args : List AV) : S_laws_toEventS.sem args = semF X_laws_toEventS F_laws_toEventS none false args := rfl
theorem cl_laws_toEventS (args : List AV) (hp : Hp) : callS G_laws_toEventS args hp = byvS S_laws_toEventS args hp := callS_byv rfl rfl args hp
theorem ok_laws_toEventS : InlOk Try.prog 139 (callS G_laws_toEventS) := byv_none co_laws_toEventS Try.func139 r_laws_toEventS rfl (fun _ _ h => h)
/- 49 laws_toModel calls [laws_toProgram, laws_toActorS, laws_toGateS, laws_toEnvS, laws_toIntS, laws_toEventS]  -/
def F_laws_toModel : RF := ⟨32, 1, [.cell 2 9 true],
  .seq (.reg [⟨some 1, none, .box (.t 0)⟩, ⟨some 2, none, .new [(.nil 6), (.nil 4), (.nil 4), (.nil 12), (.nil 3), (.nil 2), (.nil 1), (.nil 3), (.bool false)]⟩]) (.seq (.reg [⟨some 3, none, .new [(.nil 6), (.nil 4), (.nil 4), (.nil 12), (.nil 3), (.nil 2), (.nil 1), (.nil 3), (.bool false)]⟩]) (.seq (.reg [⟨some 4, none, .fa 0 (.t 1)⟩, ⟨some 5, none, .ld 3 true (.t 4)⟩, ⟨some 6, none, .call 23 [(.t 5)]⟩, ⟨some 7, none, .fa 0 (.t 3)⟩, ⟨none, none, .st 3 (.t 7) (.t 6)⟩]) (.seq (.reg [⟨some 8, none, .fa 3 (.t 1)⟩, ⟨some 9, none, .ld 1 false (.t 8)⟩, ⟨some 10, none, .call 136 [(.t 9)]⟩, ⟨some 11, none, .fa 3 (.t 3)⟩, ⟨none, none, .st 1 (.t 11) (.t 10)⟩]) (.seq (.reg [⟨some 12, none, .fa 4 (.t 1)⟩, ⟨some 13, none, .ld 1 false (.t 12)⟩, ⟨some 14, none, .call 137 [(.t 13)]⟩, ⟨some 15, none, .fa 4 (.t 3)⟩, ⟨none, none, .st 1 (.t 15) (.t 14)⟩]) (.seq (.reg [⟨some 16, none, .fa 5 (.t 1)⟩, ⟨some 17, none, .ld 1 false (.t 16)⟩, ⟨some 18, none, .call 138 [(.t 17)]⟩, ⟨some 19, none, .fa 5 (.t 3)⟩, ⟨none, none, .st 1 (.t 19) (.t 18)⟩]) (.seq (.reg [⟨some 20, none, .fa 6 (.t 1)⟩, ⟨some 21, none, .ld 1 false (.t 20)⟩, ⟨some 22, none, .call 120 [(.t 21)]⟩, ⟨some 23, none, .fa 6 (.t 3)⟩, ⟨none, none, .st 1 (.t 23) (.t 22)⟩]) (.seq (.reg [⟨some 24, none, .fa 7 (.t 1)⟩, ⟨some 25, none, .ld 1 false (.t 24)⟩, ⟨some 26, none, .call 139 [(.t 25)]⟩, ⟨some 27, none, .fa 7 (.t 3)⟩, ⟨none, none, .st 1 (.t 27) (.t 26)⟩]) (.seq (.reg [⟨some 28, none, .fa 8 (.t 1)⟩, ⟨some 29, none, .ld 1 false (.t 28)⟩, ⟨some 30, none, .fa 8 (.t 3)⟩, ⟨none, none, .st 1 (.t 30) (.t 29)⟩]) (.seq (.reg [⟨some 31, none, .ld 9 true (.t 3)⟩, ⟨none, none, .st 9 (.t 2) (.t 31)⟩]) (.ret))))))))))⟩
def K_laws_toModel : Keeps := []
theorem r_laws_toModel : resolveF Try.prog Try.f49 K_laws_toModel = some F_laws_toModel := by kernel_rfl
noncomputable def X_laws_toModel : Ctx := Ctx.cons 23 G_laws_toProgram (Ctx.cons 136 G_laws_toActorS (Ctx.cons 137 G_laws_toGateS (Ctx.cons 138 G_laws_toEnvS (Ctx.cons 120 G_laws_toIntS (Ctx.cons 139 G_laws_toEventS (fun _ => none))))))
theorem co_laws_toModel : CtxOk Try.prog X_laws_toModel := CtxOk.cons (CtxOk.cons (CtxOk.cons (CtxOk.cons (CtxOk.cons (CtxOk.cons (CtxOk.nil) ok_laws_toEventS) ok_laws_toIntS) ok_laws_toEnvS) ok_laws_toGateS) ok_laws_toActorS) ok_laws_toProgram
theorem cx_laws_toModel : ((∀ args hp, callX X_laws_toModel 23 args hp = callS G_laws_toProgram args hp) ∧ (trC (X_laws_toModel 23) = false)) ∧ ((∀ args hp, callX X_laws_toModel 136 args hp = callS G_laws_toActorS args hp) ∧ (trC (X_laws_toModel 136) = false)) ∧ ((∀ args hp, callX X_laws_toModel 137 args hp = callS G_laws_toGateS args hp) ∧ (trC (X_laws_toModel 137) = false)) ∧ ((∀ args hp, callX X_laws_toModel 138 args hp = callS G_laws_toEnvS args hp) ∧ (trC (X_laws_toModel 138) = false)) ∧ ((∀ args hp, callX X_laws_toModel 120 args hp = callS G_laws_toIntS args hp) ∧ (trC (X_laws_toModel 120) = false)) ∧ ((∀ args hp, callX X_laws_toModel 139 args hp = callS G_laws_toEventS args hp) ∧ (trC (X_laws_toModel 139) = false)) := ⟨⟨fun _ _ => rfl, rfl⟩, ⟨fun _ _ => rfl, rfl⟩, ⟨fun _ _ => rfl, rfl⟩, ⟨fun _ _ => rfl, rfl⟩, ⟨fun _ _ => rfl, rfl⟩, ⟨fun _ _ => rfl, rfl⟩⟩
noncomputable def S_laws_toModel : ByV := ⟨none, false, semF X_laws_toModel F_laws_toModel none false⟩
noncomputable def G_laws_toModel : CK := .byv S_laws_toModel
theorem sg_laws_toModel (args : List AV) : S_laws_toModel.sem args = semF X_laws_toModel F_laws_toModel none false args := rfl
theorem cl_laws_toModel (args : List AV) (hp : Hp) : callS G_laws_toModel args hp = byvS S_laws_toModel args hp := callS_byv rfl rfl args hp
theorem ok_laws_toModel : InlOk Try.prog 49 (callS G_laws_toModel) := byv_none co_laws_toModel Try.func49 r_laws_toModel rfl (fun _ _ h => h)
/- 52 spec_Able calls []  -/
def B0_spec_Able : RC :=
  .seq (.seq (.reg [⟨some 6, none, .mv (.t 4)⟩, ⟨some 7, none, .fa 3 (.t 1)⟩, ⟨some 8, none, .ld 1 false (.t 7)⟩, ⟨some 9, none, .len false (.t 8)⟩, ⟨some 10, none, .bin .lss (.t 6) (.t 9)⟩, ⟨some 11, none, .mv (.t 10)⟩, ⟨some 12, some (11, true), .fa 8 (.t 1)⟩, ⟨some 13, some (11, true), .ld 1 false (.t 12)⟩, ⟨some 14, some (11, true), .un .not (.t 13)⟩, ⟨some 15, none, .pick (.t 11) (.t 14) (.c (.bool false))⟩]) (.cond (.t 15) (.skip) (.exit 0))) (.seq (.block 1 (.seq (.reg [⟨some 18, none, .fa 3 (.t 1)⟩, ⟨some 19, none, .ld 1 false (.t 18)⟩, ⟨some 20, none, .mv (.t 4)⟩, ⟨some 21, none, .ia 12 (.t 19) (.t 20)⟩, ⟨some 22, none, .fa 10 (.t 21)⟩, ⟨some 23, none, .ld 1 false (.t 22)⟩]) (.cond (.t 23) (.reg [⟨some 24, none, .mv (.t 3)⟩, ⟨some 25, none, .mv (.t 4)⟩, ⟨some 26, none, .bsl 1 [(.t 25)]⟩, ⟨some 27, none, .app true 1 8 (.t 24) (.t 26)⟩, ⟨some 3, none, .mv (.t 27)⟩]) (.skip)))) (.reg [⟨some 16, none, .mv (.t 4)⟩, ⟨some 17, none, .bin .add (.t 16) (.c (.int .i64 1))⟩, ⟨some 4, none, .mv (.t 17)⟩]))
def F_spec_Able : RF := ⟨29, 1, [.t 2],
  .seq (.reg [⟨some 1, none, .box (.t 0)⟩, ⟨some 2, none, .mv (.c (.nil 1))⟩]) (.seq (.reg [⟨some 5, none, .bsl 1 []⟩, ⟨some 3, none, .mv (.t 5)⟩]) (.seq (.seq (.reg [⟨some 4, none, .mv (.c (.int .i64 0))⟩]) (.block 0 (.loop [1, 3, 4] [(1, [3])] B0_spec_Able))) (.seq (.reg [⟨some 28, none, .mv (.t 3)⟩, ⟨some 2, none, .mv (.t 28)⟩]) (.ret))))⟩
def K_spec_Able : Keeps := [([1, 3, 4], [(1, [3])])]
theorem r_spec_Able : resolveF Try.prog Try.f52 K_spec_Able = some F_spec_Able := by kernel_rfl
noncomputable def X_spec_Able : Ctx := fun _ => none
theorem co_spec_Able : CtxOk Try.prog X_spec_Able := CtxOk.nil
theorem cx_spec_Able : True := trivial
noncomputable def S_spec_Able : ByV := ⟨none, false, semF X_spec_Able F_spec_Able none false⟩
noncomputable def G_spec_Able : CK := .byv S_spec_Able
theorem sg_spec_Able (args : List AV) : S_spec_Able.sem args = semF X_spec_Able F_spec_Able none false args := rfl
theorem cl_spec_Able (args : List AV) (hp : Hp) : callS G_spec_Able args hp = byvS S_spec_Able args hp := callS_byv rfl rfl args hp
theorem ok_spec_Able : InlOk Try.prog 52 (callS G_spec_Able) := byv_none co_spec_Able Try.func52 r_spec_Able rfl (fun _ _ h => h)
/- 48 spec_VerdictOf calls [spec_Able]  -/
def B0_spec_VerdictOf : RC :=
  .seq (.seq (.reg [⟨some 7, none, .mv (.t 4)⟩, ⟨some 8, none, .fa 3 (.t 1)⟩, ⟨some 9, none, .ld 1 false (.t 8)⟩, ⟨some 10, none, .len false (.t 9)⟩, ⟨some 11, none, .bin .lss (.t 7) (.t 10)⟩]) (.cond (.t 11) (.skip) (.exit 0))) (.seq (.block 1 (.reg [⟨some 14, none, .mv (.t 3)⟩, ⟨some 15, none, .mv (.t 14)⟩, ⟨some 16, some (15, true), .fa 3 (.t 1)⟩, ⟨some 17, some (15, true), .ld 1 false (.t 16)⟩, ⟨some 18, some (15, true), .mv (.t 4)⟩, ⟨some 19, some (15, true), .ia 12 (.t 17) (.t 18)⟩, ⟨some 20, some (15, true), .fa 11 (.t 19)⟩, ⟨some 21, some (15, true), .ld 1 false (.t 20)⟩, ⟨some 22, none, .pick (.t 15) (.t 21) (.c (.bool false))⟩, ⟨some 3, none, .mv (.t 22)⟩])) (.reg [⟨some 12, none, .mv (.t 4)⟩, ⟨some 13, none, .bin .add (.t 12) (.c (.int .i64 1))⟩, ⟨some 4, none, .mv (.t 13)⟩]))
def F_spec_VerdictOf : RF := ⟨28, 1, [.t 2],
  .seq (.reg [⟨some 1, none, .box (.t 0)⟩, ⟨some 2, none, .mv (.c (.int .i64 0))⟩]) (.seq (.seq (.reg [⟨some 5, none, .fa 8 (.t 1)⟩, ⟨some 6, none, .ld 1 false (.t 5)⟩]) (.cond (.t 6) (.seq (.reg [⟨some 2, none, .mv (.c (.int .i64 3))⟩]) (.ret)) (.skip))) (.seq (.reg [⟨some 3, none, .mv (.c (.bool true))⟩]) (.seq (.seq (.reg [⟨some 4, none, .mv (.c (.int .i64 0))⟩]) (.block 0 (.loop [1, 3, 4] [(1, [1, 3])] B0_spec_VerdictOf))) (.seq (.seq (.reg [⟨some 23, none, .mv (.t 3)⟩]) (.cond (.t 23) (.seq (.reg [⟨some 2, none, .mv (.c (.int .i64 1))⟩]) (.ret)) (.skip))) (.seq (.seq (.reg [⟨some 24, none, .ld 9 true (.t 1)⟩, ⟨some 25, none, .call 52 [(.t 24)]⟩, ⟨some 26, none, .len false (.t 25)⟩, ⟨some 27, none, .bin .eql (.t 26) (.c (.int .i64 0))⟩]) (.cond (.t 27) (.seq (.reg [⟨some 2, none, .mv (.c (.int .i64 2))⟩]) (.ret)) (.skip))) (.seq (.reg [⟨some 2, none, .mv (.c (.int .i64 0))⟩]) (.ret)))))))⟩
def K_spec_VerdictOf : Keeps := [([1, 3, 4], [(1, [1, 3])])]
theorem r_spec_VerdictOf : resolveF Try.prog Try.f48 K_spec_VerdictOf = some F_spec_VerdictOf := by kernel_rfl
noncomputable def X_spec_VerdictOf : Ctx := Ctx.cons 52 G_spec_Able (fun _ => none)
theorem co_spec_VerdictOf : CtxOk Try.prog X_spec_VerdictOf := CtxOk.cons (CtxOk.nil) ok_spec_Able
theorem cx_spec_VerdictOf : ((∀ args hp, callX X_spec_VerdictOf 52 args hp = callS G_spec_Able args hp) ∧ (trC (X_spec_VerdictOf 52) = false)) := ⟨fun _ _ => rfl, rfl⟩
noncomputable def S_spec_VerdictOf : ByV := ⟨none, false, semF X_spec_VerdictOf F_spec_VerdictOf none false⟩
noncomputable def G_spec_VerdictOf : CK := .byv S_spec_VerdictOf
theorem sg_spec_VerdictOf (args : List AV) : S_spec_VerdictOf.sem args = semF X_spec_VerdictOf F_spec_VerdictOf none false args := rfl
theorem cl_spec_VerdictOf (args : List AV) (hp : Hp) : callS G_spec_VerdictOf args hp = byvS S_spec_VerdictOf args hp := callS_byv rfl rfl args hp
theorem ok_spec_VerdictOf : InlOk Try.prog 48 (callS G_spec_VerdictOf) := byv_none co_spec_VerdictOf Try.func48 r_spec_VerdictOf rfl (fun _ _ h => h)
/- 141 impl_VerdictOf_1 calls []  -/
def F_impl_VerdictOf_1 : RF := ⟨6, 1, [.t 2],
  .seq (.reg [⟨some 1, none, .box (.t 0)⟩, ⟨some 2, none, .mv (.c (.bool false))⟩]) (.seq (.reg [⟨some 3, none, .fa 11 (.t 1)⟩, ⟨some 4, none, .ld 1 false (.t 3)⟩, ⟨some 5, none, .un .not (.t 4)⟩, ⟨some 2, none, .mv (.t 5)⟩]) (.ret))⟩
def K_impl_VerdictOf_1 : Keeps := []
theorem r_impl_VerdictOf_1 : resolveF Try.prog Try.f141 K_impl_VerdictOf_1 = some F_impl_VerdictOf_1 := by kernel_rfl
noncomputable def X_impl_VerdictOf_1 : Ctx := fun _ => none
theorem co_impl_VerdictOf_1 : CtxOk Try.prog X_impl_VerdictOf_1 := CtxOk.nil
theorem cx_impl_VerdictOf_1 : True := trivial
noncomputable def S_impl_VerdictOf_1 : ByV := ⟨none, false, semF X_impl_VerdictOf_1 F_impl_VerdictOf_1 none false⟩
noncomputable def G_impl_VerdictOf_1 : CK := .byv S_impl_VerdictOf_1
theorem sg_impl_VerdictOf_1 (args : List AV) : S_impl_VerdictOf_1.sem args = semF X_impl_VerdictOf_1 F_impl_VerdictOf_1 none false args := rfl
theorem cl_impl_VerdictOf_1 (args : List AV) (hp : Hp) : callS G_impl_VerdictOf_1 args hp = byvS S_impl_VerdictOf_1 args hp := callS_byv rfl rfl args hp
theorem ok_impl_VerdictOf_1 : InlOk Try.prog 141 (callS G_impl_VerdictOf_1) := byv_none co_impl_VerdictOf_1 Try.func141 r_impl_VerdictOf_1 rfl (fun _ _ h => h)
/- 196 slices_IndexFunc_impl_Actor_impl_Actor calls [impl_VerdictOf_1]  -/
def B0_slices_IndexFunc_impl_Actor_impl_Actor : RC :=
  .seq (.reg [⟨some 9, none, .bin .lss (.t 8) (.t 7)⟩]) (.seq (.cond (.t 9) (.skip) (.exit 0)) (.seq (.block 1 (.seq (.reg [⟨some 10, none, .mv (.t 8)⟩, ⟨some 5, none, .mv (.t 10)⟩]) (.seq (.reg [⟨some 11, none, .mv (.t 1)⟩, ⟨some 12, none, .mv (.t 0)⟩, ⟨some 13, none, .mv (.t 5)⟩, ⟨some 14, none, .ia 12 (.t 12) (.t 13)⟩, ⟨some 15, none, .ld 12 true (.t 14)⟩, ⟨some 16, none, .callv (.t 11) [(.t 15)]⟩]) (.cond (.t 16) (.seq (.reg [⟨some 17, none, .mv (.t 5)⟩, ⟨some 4, none, .mv (.t 17)⟩]) (.ret)) (.skip))))) (.reg [⟨some 18, none, .bin .add (.t 8) (.c (.int .i64 1))⟩, ⟨some 8, none, .mv (.t 18)⟩])))
def F_slices_IndexFunc_impl_Actor_impl_Actor : RF := ⟨19, 2, [.t 4],
  .seq (.reg [⟨some 4, none, .mv (.c (.int .i64 0))⟩]) (.seq (.seq (.reg [⟨some 6, none, .mv (.t 0)⟩, ⟨some 7, none, .len false (.t 6)⟩, ⟨some 8, none, .mv (.c (.int .i64 0))⟩]) (.block 0 (.loop [0, 1, 7, 8] [(1, []), (0, [4])] B0_slices_IndexFunc_impl_Actor_impl_Actor))) (.seq (.reg [⟨some 4, none, .mv (.c (.int .i64 (-1)))⟩]) (.ret)))⟩
def K_slices_IndexFunc_impl_Actor_impl_Actor : Keeps := [([0, 1, 7, 8], [(1, []), (0, [4])])]
theorem r_slices_IndexFunc_impl_Actor_impl_Actor : resolveF Try.prog Try.f196 K_slices_IndexFunc_impl_Actor_impl_Actor = some F_slices_IndexFunc_impl_Actor_impl_Actor := by kernel_rfl
noncomputable def X_slices_IndexFunc_impl_Actor_impl_Actor : Ctx := Ctx.cons 141 G_impl_VerdictOf_1 (fun _ => none)
theorem co_slices_IndexFunc_impl_Actor_impl_Actor : CtxOk Try.prog X_slices_IndexFunc_impl_Actor_impl_Actor := CtxOk.cons (CtxOk.nil) ok_impl_VerdictOf_1
theorem cx_slices_IndexFunc_impl_Actor_impl_Actor : ((∀ args hp, callX X_slices_IndexFunc_impl_Actor_impl_Actor 141 args hp = callS G_impl_VerdictOf_1 args hp) ∧ (trC (X_slices_IndexFunc_impl_Actor_impl_Actor 141) = false)) := ⟨fun _ _ => rfl, rfl⟩
noncomputable def S_slices_IndexFunc_impl_Actor_impl_Actor : ByV := ⟨none, false, semF X_slices_IndexFunc_impl_Actor_impl_Actor F_slices_IndexFunc_impl_Actor_impl_Actor none false⟩
noncomputable def G_slices_IndexFunc_impl_Actor_impl_Actor : CK := .byv S_slices_IndexFunc_impl_Actor_impl_Actor
theorem sg_slices_IndexFunc_impl_Actor_impl_Actor (args : List AV) : S_slices_IndexFunc_impl_Actor_impl_Actor.sem args = semF X_slices_IndexFunc_impl_Actor_impl_Actor F_slices_IndexFunc_impl_Actor_impl_Actor none false args := rfl
theorem cl_slices_IndexFunc_impl_Actor_impl_Actor (args : List AV) (hp : Hp) : callS G_slices_IndexFunc_impl_Actor_impl_Actor args hp = byvS S_slices_IndexFunc_impl_Actor_impl_Actor args hp := callS_byv rfl rfl args hp
theorem ok_slices_IndexFunc_impl_Actor_impl_Actor : InlOk Try.prog 196 (callS G_slices_IndexFunc_impl_Actor_impl_Actor) := byv_none co_slices_IndexFunc_impl_Actor_impl_Actor Try.func196 r_slices_IndexFunc_impl_Actor_impl_Actor rfl (fun _ _ h => h)
/- 140 slices_ContainsFunc_impl_Actor_impl_Actor calls [slices_IndexFunc_impl_Actor_impl_Actor]  -/
def F_slices_ContainsFunc_impl_Actor_impl_Actor : RF := ⟨9, 2, [.t 4],
  .seq (.reg [⟨some 4, none, .mv (.c (.bool false))⟩]) (.seq (.reg [⟨some 5, none, .mv (.t 0)⟩, ⟨some 6, none, .mv (.t 1)⟩, ⟨some 7, none, .call 196 [(.t 5), (.t 6)]⟩, ⟨some 8, none, .bin .geq (.t 7) (.c (.int .i64 0))⟩, ⟨some 4, none, .mv (.t 8)⟩]) (.ret))⟩
def K_slices_ContainsFunc_impl_Actor_impl_Actor : Keeps := []
theorem r_slices_ContainsFunc_impl_Actor_impl_Actor : resolveF Try.prog Try.f140 K_slices_ContainsFunc_impl_Actor_impl_Actor = some F_slices_ContainsFunc_impl_Actor_impl_Actor := by kernel_rfl
noncomputable def X_slices_ContainsFunc_impl_Actor_impl_Actor : Ctx := Ctx.cons 196 G_slices_IndexFunc_impl_Actor_impl_Actor (fun _ => none)
theorem co_slices_ContainsFunc_impl_Actor_impl_Actor : CtxOk Try.prog X_slices_ContainsFunc_impl_Actor_impl_Actor := CtxOk.cons (CtxOk.nil) ok_slices_IndexFunc_impl_Actor_impl_Actor
theorem cx_slices_ContainsFunc_impl_Actor_impl_Actor : ((∀ args hp, callX X_slices_ContainsFunc_impl_Actor_impl_Actor 196 args hp = callS G_slices_IndexFunc_impl_Actor_impl_Actor args hp) ∧ (trC (X_slices_ContainsFunc_impl_Actor_impl_Actor 196) = false)) := ⟨fun _ _ => rfl, rfl⟩
noncomputable def S_slices_ContainsFunc_impl_Actor_impl_Actor : ByV := ⟨none, false, semF X_slices_ContainsFunc_impl_Actor_impl_Actor F_slices_ContainsFunc_impl_Actor_impl_Actor none false⟩
noncomputable def G_slices_ContainsFunc_impl_Actor_impl_Actor : CK := .byv S_slices_ContainsFunc_impl_Actor_impl_Actor
theorem sg_slices_ContainsFunc_impl_Actor_impl_Actor (args : List AV) : S_slices_ContainsFunc_impl_Actor_impl_Actor.sem args = semF X_slices_ContainsFunc_impl_Actor_impl_Actor F_slices_ContainsFunc_impl_Actor_impl_Actor none false args := rfl
theorem cl_slices_ContainsFunc_impl_Actor_impl_Actor (args : List AV) (hp : Hp) : callS G_slices_ContainsFunc_impl_Actor_impl_Actor args hp = byvS S_slices_ContainsFunc_impl_Actor_impl_Actor args hp := callS_byv rfl rfl args hp
theorem ok_slices_ContainsFunc_impl_Actor_impl_Actor : InlOk Try.prog 140 (callS G_slices_ContainsFunc_impl_Actor_impl_Actor) := byv_none co_slices_ContainsFunc_impl_Actor_impl_Actor Try.func140 r_slices_ContainsFunc_impl_Actor_impl_Actor rfl (fun _ _ h => h)
/- 53 impl_Able calls []  -/
def B0_impl_Able : RC :=
  .seq (.reg [⟨some 10, none, .bin .lss (.t 9) (.t 8)⟩]) (.seq (.cond (.t 10) (.skip) (.exit 0)) (.seq (.block 1 (.seq (.reg [⟨some 11, none, .mv (.t 9)⟩, ⟨some 12, none, .ia 12 (.t 7) (.t 9)⟩, ⟨some 13, none, .ld 12 true (.t 12)⟩, ⟨some 5, none, .new [(.nil 1), (.nil 1), (.nil 1), (.int .i64 0), (.nil 1), (.nil 1), (.nil 1), (.int .i64 0), (.int .i64 0), (.int .i64 0), (.bool false), (.bool false)]⟩, ⟨some 4, none, .mv (.t 11)⟩, ⟨none, none, .st 12 (.t 5) (.t 13)⟩]) (.seq (.reg [⟨some 14, none, .fa 10 (.t 5)⟩, ⟨some 15, none, .ld 1 false (.t 14)⟩, ⟨some 16, none, .mv (.t 15)⟩, ⟨some 17, some (16, true), .fa 8 (.t 1)⟩, ⟨some 18, some (16, true), .ld 1 false (.t 17)⟩, ⟨some 19, some (16, true), .un .not (.t 18)⟩, ⟨some 20, none, .pick (.t 16) (.t 19) (.c (.bool false))⟩]) (.cond (.t 20) (.reg [⟨some 21, none, .mv (.t 3)⟩, ⟨some 22, none, .mv (.t 4)⟩, ⟨some 23, none, .bsl 1 [(.t 22)]⟩, ⟨some 24, none, .app true 1 8 (.t 21) (.t 23)⟩, ⟨some 3, none, .mv (.t 24)⟩]) (.skip))))) (.reg [⟨some 25, none, .bin .add (.t 9) (.c (.int .i64 1))⟩, ⟨some 9, none, .mv (.t 25)⟩])))
def F_impl_Able : RF := ⟨27, 1, [.t 2],
  .seq (.reg [⟨some 1, none, .box (.t 0)⟩, ⟨some 2, none, .mv (.c (.nil 1))⟩]) (.seq (.reg [⟨some 3, none, .mv (.c (.nil 1))⟩]) (.seq (.seq (.reg [⟨some 6, none, .fa 3 (.t 1)⟩, ⟨some 7, none, .ld 1 false (.t 6)⟩, ⟨some 8, none, .len false (.t 7)⟩, ⟨some 9, none, .mv (.c (.int .i64 0))⟩]) (.block 0 (.loop [1, 3, 7, 8, 9] [(1, [3])] B0_impl_Able))) (.seq (.reg [⟨some 26, none, .mv (.t 3)⟩, ⟨some 2, none, .mv (.t 26)⟩]) (.ret))))⟩
def K_impl_Able : Keeps := [([1, 3, 7, 8, 9], [(1, [3])])]
theorem r_impl_Able : resolveF Try.prog Try.f53 K_impl_Able = some F_impl_Able := by kernel_rfl
noncomputable def X_impl_Able : Ctx := fun _ => none
theorem co_impl_Able : CtxOk Try.prog X_impl_Able := CtxOk.nil
theorem cx_impl_Able : True := trivial
noncomputable def S_impl_Able : ByV := ⟨none, false, semF X_impl_Able F_impl_Able none false⟩
noncomputable def G_impl_Able : CK := .byv S_impl_Able
theorem sg_impl_Able (args : List AV) : S_impl_Able.sem args = semF X_impl_Able F_impl_Able none false args := rfl
theorem cl_impl_Able (args : List AV) (hp : Hp) : callS G_impl_Able args hp = byvS S_impl_Able args hp := callS_byv rfl rfl args hp
theorem ok_impl_Able : InlOk Try.prog 53 (callS G_impl_Able) := byv_none co_impl_Able Try.func53 r_impl_Able rfl (fun _ _ h => h)
/- 50 impl_VerdictOf calls [slices_ContainsFunc_impl_Actor_impl_Actor, impl_Able]  -/
def F_impl_VerdictOf : RF := ⟨16, 1, [.t 2],
  .seq (.reg [⟨some 1, none, .box (.t 0)⟩, ⟨some 2, none, .mv (.c (.int .i64 0))⟩]) (.seq (.block 0 (.seq (.reg [⟨some 4, none, .fa 8 (.t 1)⟩, ⟨some 5, none, .ld 1 false (.t 4)⟩, ⟨some 3, none, .mv (.t 5)⟩]) (.cond (.t 3) (.seq (.reg [⟨some 2, none, .mv (.c (.int .i64 3))⟩]) (.ret)) (.seq (.reg [⟨some 7, none, .fa 3 (.t 1)⟩, ⟨some 8, none, .ld 1 false (.t 7)⟩, ⟨some 9, none, .call 140 [(.t 8), (.fn 141)]⟩, ⟨some 10, none, .un .not (.t 9)⟩, ⟨some 6, none, .mv (.t 10)⟩]) (.cond (.t 6) (.seq (.reg [⟨some 2, none, .mv (.c (.int .i64 1))⟩]) (.ret)) (.seq (.reg [⟨some 12, none, .ld 9 true (.t 1)⟩, ⟨some 13, none, .call 53 [(.t 12)]⟩, ⟨some 14, none, .len false (.t 13)⟩, ⟨some 15, none, .bin .eql (.t 14) (.c (.int .i64 0))⟩, ⟨some 11, none, .mv (.t 15)⟩]) (.cond (.t 11) (.seq (.reg [⟨some 2, none, .mv (.c (.int .i64 2))⟩]) (.ret)) (.skip)))))))) (.seq (.reg [⟨some 2, none, .mv (.c (.int .i64 0))⟩]) (.ret)))⟩
def K_impl_VerdictOf : Keeps := []
theorem r_impl_VerdictOf : resolveF Try.prog Try.f50 K_impl_VerdictOf = some F_impl_VerdictOf := by kernel_rfl
noncomputable def X_impl_VerdictOf : Ctx := Ctx.cons 140 G_slices_ContainsFunc_impl_Actor_impl_Actor (Ctx.cons 53 G_impl_Able (fun _ => none))
theorem co_impl_VerdictOf : CtxOk Try.prog X_impl_VerdictOf := CtxOk.cons (CtxOk.cons (CtxOk.nil) ok_impl_Able) ok_slices_ContainsFunc_impl_Actor_impl_Actor
theorem cx_impl_VerdictOf : ((∀ args hp, callX X_impl_VerdictOf 140 args hp = callS G_slices_ContainsFunc_impl_Actor_impl_Actor args hp) ∧ (trC (X_impl_VerdictOf 140) = false)) ∧ ((∀ args hp, callX X_impl_VerdictOf 53 args hp = callS G_impl_Able args hp) ∧ (trC (X_impl_VerdictOf 53) = false)) := ⟨⟨fun _ _ => rfl, rfl⟩, ⟨fun _ _ => rfl, rfl⟩⟩
noncomputable def S_impl_VerdictOf : ByV := ⟨none, false, semF X_impl_VerdictOf F_impl_VerdictOf none false⟩
noncomputable def G_impl_VerdictOf : CK := .byv S_impl_VerdictOf
theorem sg_impl_VerdictOf (args : List AV) : S_impl_VerdictOf.sem args = semF X_impl_VerdictOf F_impl_VerdictOf none false args := rfl
theorem cl_impl_VerdictOf (args : List AV) (hp : Hp) : callS G_impl_VerdictOf args hp = byvS S_impl_VerdictOf args hp := callS_byv rfl rfl args hp
theorem ok_impl_VerdictOf : InlOk Try.prog 50 (callS G_impl_VerdictOf) := byv_none co_impl_VerdictOf Try.func50 r_impl_VerdictOf rfl (fun _ _ h => h)
/- 54 laws_eqIntS calls []  -/
def B0_laws_eqIntS : RC :=
  .seq (.seq (.reg [⟨some 11, none, .mv (.t 5)⟩, ⟨some 12, none, .mv (.t 0)⟩, ⟨some 13, none, .len false (.t 12)⟩, ⟨some 14, none, .bin .lss (.t 11) (.t 13)⟩]) (.cond (.t 14) (.skip) (.exit 0))) (.seq (.block 1 (.seq (.regd [(0, ⟨some 17, none, .mv (.t 0)⟩), (0, ⟨some 18, none, .mv (.t 5)⟩), (1, ⟨some 19, none, .ia 1 (.t 17) (.t 18)⟩), (1, ⟨some 20, none, .ld 1 false (.t 19)⟩), (0, ⟨some 21, none, .mv (.t 1)⟩), (0, ⟨some 22, none, .mv (.t 5)⟩), (1, ⟨some 23, none, .ia 1 (.t 21) (.t 22)⟩), (1, ⟨some 24, none, .ld 1 false (.t 23)⟩), (0, ⟨some 25, none, .bin .neq (.t 20) (.t 24)⟩)] []) (.cond (.t 25) (.seq (.reg [⟨some 4, none, .mv (.c (.bool false))⟩]) (.ret)) (.skip)))) (.reg [⟨some 15, none, .mv (.t 5)⟩, ⟨some 16, none, .bin .add (.t 15) (.c (.int .i64 1))⟩, ⟨some 5, none, .mv (.t 16)⟩]))
def F_laws_eqIntS : RF := ⟨26, 2, [.t 4],
  .seq (.reg [⟨some 4, none, .mv (.c (.bool false))⟩]) (.seq (.seq (.reg [⟨some 6, none, .mv (.t 0)⟩, ⟨some 7, none, .len false (.t 6)⟩, ⟨some 8, none, .mv (.t 1)⟩, ⟨some 9, none, .len false (.t 8)⟩, ⟨some 10, none, .bin .neq (.t 7) (.t 9)⟩]) (.cond (.t 10) (.seq (.reg [⟨some 4, none, .mv (.c (.bool false))⟩]) (.ret)) (.skip))) (.seq (.seq (.reg [⟨some 5, none, .mv (.c (.int .i64 0))⟩]) (.block 0 (.loop [0, 1, 5] [(1, []), (0, [4])] B0_laws_eqIntS))) (.seq (.reg [⟨some 4, none, .mv (.c (.bool true))⟩]) (.ret))))⟩
def K_laws_eqIntS : Keeps := [([0, 1, 5], [(1, []), (0, [4])])]
theorem r_laws_eqIntS : resolveF Try.prog Try.f54 K_laws_eqIntS = some F_laws_eqIntS := by kernel_rfl
noncomputable def X_laws_eqIntS : Ctx := fun _ => none
theorem co_laws_eqIntS : CtxOk Try.prog X_laws_eqIntS := CtxOk.nil
theorem cx_laws_eqIntS : True := trivial
noncomputable def S_laws_eqIntS : ByV := ⟨none, false, semF X_laws_eqIntS F_laws_eqIntS none false⟩
noncomputable def G_laws_eqIntS : CK := .byv S_laws_eqIntS
theorem sg_laws_eqIntS (args : List AV) : S_laws_eqIntS.sem args = semF X_laws_eqIntS F_laws_eqIntS none false args := rfl
theorem cl_laws_eqIntS (args : List AV) (hp : Hp) : callS G_laws_eqIntS args hp = byvS S_laws_eqIntS args hp := callS_byv rfl rfl args hp
theorem ok_laws_eqIntS : InlOk Try.prog 54 (callS G_laws_eqIntS) := byv_none co_laws_eqIntS Try.func54 r_laws_eqIntS rfl (fun _ _ h => h)
/- 180 laws_eqNode calls [laws_eqIntS]  -/
def F_laws_eqNode : RF := ⟨36, 2, [.t 4],
  .seq (.reg [⟨some 2, none, .box (.t 0)⟩, ⟨some 3, none, .box (.t 1)⟩, ⟨some 4, none, .mv (.c (.bool false))⟩]) (.seq (.seq (.reg [⟨some 5, none, .fa 0 (.t 2)⟩, ⟨some 6, none, .ld 1 false (.t 5)⟩, ⟨some 7, none, .fa 0 (.t 3)⟩, ⟨some 8, none, .ld 1 false (.t 7)⟩, ⟨some 9, none, .bin .neq (.t 6) (.t 8)⟩]) (.cond (.t 9) (.seq (.reg [⟨some 4, none, .mv (.c (.bool false))⟩]) (.ret)) (.skip))) (.seq (.seq (.reg [⟨some 10, none, .fa 1 (.t 2)⟩, ⟨some 11, none, .ld 1 false (.t 10)⟩, ⟨some 12, none, .fa 1 (.t 3)⟩, ⟨some 13, none, .ld 1 false (.t 12)⟩, ⟨some 14, none, .bin .neq (.t 11) (.t 13)⟩]) (.cond (.t 14) (.seq (.reg [⟨some 4, none, .mv (.c (.bool false))⟩]) (.ret)) (.skip))) (.seq (.seq (.reg [⟨some 15, none, .fa 2 (.t 2)⟩, ⟨some 16, none, .ld 1 false (.t 15)⟩, ⟨some 17, none, .fa 2 (.t 3)⟩, ⟨some 18, none, .ld 1 false (.t 17)⟩, ⟨some 19, none, .bin .neq (.t 16) (.t 18)⟩]) (.cond (.t 19) (.seq (.reg [⟨some 4, none, .mv (.c (.bool false))⟩]) (.ret)) (.skip))) (.seq (.seq (.reg [⟨some 20, none, .fa 3 (.t 2)⟩, ⟨some 21, none, .ld 1 false (.t 20)⟩, ⟨some 22, none, .fa 3 (.t 3)⟩, ⟨some 23, none, .ld 1 false (.t 22)⟩, ⟨some 24, none, .bin .neq (.t 21) (.t 23)⟩]) (.cond (.t 24) (.seq (.reg [⟨some 4, none, .mv (.c (.bool false))⟩]) (.ret)) (.skip))) (.seq (.seq (.reg [⟨some 25, none, .fa 4 (.t 2)⟩, ⟨some 26, none, .ld 1 false (.t 25)⟩, ⟨some 27, none, .fa 4 (.t 3)⟩, ⟨some 28, none, .ld 1 false (.t 27)⟩, ⟨some 29, none, .bin .neq (.t 26) (.t 28)⟩]) (.cond (.t 29) (.seq (.reg [⟨some 4, none, .mv (.c (.bool false))⟩]) (.ret)) (.skip))) (.seq (.seq (.reg [⟨some 30, none, .fa 5 (.t 2)⟩, ⟨some 31, none, .ld 1 false (.t 30)⟩, ⟨some 32, none, .fa 5 (.t 3)⟩, ⟨some 33, none, .ld 1 false (.t 32)⟩, ⟨some 34, none, .call 54 [(.t 31), (.t 33)]⟩, ⟨some 35, none, .un .not (.t 34)⟩]) (.cond (.t 35) (.seq (.reg [⟨some 4, none, .mv (.c (.bool false))⟩]) (.ret)) (.skip))) (.seq (.reg [⟨some 4, none, .mv (.c (.bool true))⟩]) (.ret))))))))⟩
def K_laws_eqNode : Keeps := []
theorem r_laws_eqNode : resolveF Try.prog Try.f180 K_laws_eqNode = some F_laws_eqNode := by kernel_rfl
noncomputable def X_laws_eqNode : Ctx := Ctx.cons 54 G_laws_eqIntS (fun _ => none)
theorem co_laws_eqNode : CtxOk Try.prog X_laws_eqNode := CtxOk.cons (CtxOk.nil) ok_laws_eqIntS
theorem cx_laws_eqNode : ((∀ args hp, callX X_laws_eqNode 54 args hp = callS G_laws_eqIntS args hp) ∧ (trC (X_laws_eqNode 54) = false)) := ⟨fun _ _ => rfl, rfl⟩
noncomputable def S_laws_eqNode : ByV := ⟨none, false, semF X_laws_eqNode F_laws_eqNode none false⟩
noncomputable def G_laws_eqNode : CK := .byv S_laws_eqNode
theorem sg_laws_eqNode (args : List AV) : S_laws_eqNode.sem args = semF X_laws_eqNode F_laws_eqNode none false args := rfl
theorem cl_laws_eqNode (args : List AV) (hp : Hp) : callS G_laws_eqNode args hp = byvS S_laws_eqNode args hp := callS_byv rfl rfl args hp
theorem ok_laws_eqNode : InlOk Try.prog 180 (callS G_laws_eqNode) := byv_none co_laws_eqNode Try.func180 r_laws_eqNode rfl (fun _ _ h => h)
/- 98 laws_eqNodeS calls [laws_eqNode]  -/
def B0_laws_eqNodeS : RC :=
  .seq (.seq (.reg [⟨some 11, none, .mv (.t 5)⟩, ⟨some 12, none, .mv (.t 0)⟩, ⟨some 13, none, .len false (.t 12)⟩, ⟨some 14, none, .bin .lss (.t 11) (.t 13)⟩]) (.cond (.t 14) (.skip) (.exit 0))) (.seq (.block 1 (.seq (.regd [(0, ⟨some 17, none, .mv (.t 0)⟩), (0, ⟨some 18, none, .mv (.t 5)⟩), (1, ⟨some 19, none, .ia 6 (.t 17) (.t 18)⟩), (1, ⟨some 20, none, .ld 6 true (.t 19)⟩), (0, ⟨some 21, none, .mv (.t 1)⟩), (0, ⟨some 22, none, .mv (.t 5)⟩), (1, ⟨some 23, none, .ia 6 (.t 21) (.t 22)⟩), (1, ⟨some 24, none, .ld 6 true (.t 23)⟩), (1, ⟨some 25, none, .call 180 [(.t 20), (.t 24)]⟩), (0, ⟨some 26, none, .un .not (.t 25)⟩)] []) (.cond (.t 26) (.seq (.reg [⟨some 4, none, .mv (.c (.bool false))⟩]) (.ret)) (.skip)))) (.reg [⟨some 15, none, .mv (.t 5)⟩, ⟨some 16, none, .bin .add (.t 15) (.c (.int .i64 1))⟩, ⟨some 5, none, .mv (.t 16)⟩]))
def F_laws_eqNodeS : RF := ⟨27, 2, [.t 4],
  .seq (.reg [⟨some 4, none, .mv (.c (.bool false))⟩]) (.seq (.seq (.reg [⟨some 6, none, .mv (.t 0)⟩, ⟨some 7, none, .len false (.t 6)⟩, ⟨some 8, none, .mv (.t 1)⟩, ⟨some 9, none, .len false (.t 8)⟩, ⟨some 10, none, .bin .neq (.t 7) (.t 9)⟩]) (.cond (.t 10) (.seq (.reg [⟨some 4, none, .mv (.c (.bool false))⟩]) (.ret)) (.skip))) (.seq (.seq (.reg [⟨some 5, none, .mv (.c (.int .i64 0))⟩]) (.block 0 (.loop [0, 1, 5] [(1, []), (0, [4])] B0_laws_eqNodeS))) (.seq (.reg [⟨some 4, none, .mv (.c (.bool true))⟩]) (.ret))))⟩
def K_laws_eqNodeS : Keeps := [([0, 1, 5], [(1, []), (0, [4])])]
theorem r_laws_eqNodeS : resolveF Try.prog Try.f98 K_laws_eqNodeS = some F_laws_eqNodeS := by kernel_rfl
noncomputable def X_laws_eqNodeS : Ctx := Ctx.cons 180 G_laws_eqNode (fun _ => none)
theorem co_laws_eqNodeS : CtxOk Try.prog X_laws_eqNodeS := CtxOk.cons (CtxOk.nil) ok_laws_eqNode
theorem cx_laws_eqNodeS : ((∀ args hp, callX X_laws_eqNodeS 180 args hp = callS G_laws_eqNode args hp) ∧ (trC (X_laws_eqNodeS 180) = false)) := ⟨fun _ _ => rfl, rfl⟩
noncomputable def S_laws_eqNodeS : ByV := ⟨none, false, semF X_laws_eqNodeS F_laws_eqNodeS none false⟩
noncomputable def G_laws_eqNodeS : CK := .byv S_laws_eqNodeS
theorem sg_laws_eqNodeS (args : List AV) : S_laws_eqNodeS.sem args = semF X_laws_eqNodeS F_laws_eqNodeS none false args := rfl
theorem cl_laws_eqNodeS (args : List AV) (hp : Hp) : callS G_laws_eqNodeS args hp = byvS S_laws_eqNodeS args hp := callS_byv rfl rfl args hp
theorem ok_laws_eqNodeS : InlOk Try.prog 98 (callS G_laws_eqNodeS) := byv_none co_laws_eqNodeS Try.func98 r_laws_eqNodeS rfl (fun _ _ h => h)
/- 101 laws_eqStringS calls []  -/
def B0_laws_eqStringS : RC :=
  .seq (.seq (.reg [⟨some 11, none, .mv (.t 5)⟩, ⟨some 12, none, .mv (.t 0)⟩, ⟨some 13, none, .len false (.t 12)⟩, ⟨some 14, none, .bin .lss (.t 11) (.t 13)⟩]) (.cond (.t 14) (.skip) (.exit 0))) (.seq (.block 1 (.seq (.regd [(0, ⟨some 17, none, .mv (.t 0)⟩), (0, ⟨some 18, none, .mv (.t 5)⟩), (1, ⟨some 19, none, .ia 1 (.t 17) (.t 18)⟩), (1, ⟨some 20, none, .ld 1 false (.t 19)⟩), (0, ⟨some 21, none, .mv (.t 1)⟩), (0, ⟨some 22, none, .mv (.t 5)⟩), (1, ⟨some 23, none, .ia 1 (.t 21) (.t 22)⟩), (1, ⟨some 24, none, .ld 1 false (.t 23)⟩), (0, ⟨some 25, none, .bin .neq (.t 20) (.t 24)⟩)] []) (.cond (.t 25) (.seq (.reg [⟨some 4, none, .mv (.c (.bool false))⟩]) (.ret)) (.skip)))) (.reg [⟨some 15, none, .mv (.t 5)⟩, ⟨some 16, none, .bin .add (.t 15) (.c (.int .i64 1))⟩, ⟨some 5, none, .mv (.t 16)⟩]))
def F_laws_eqStringS : RF := ⟨26, 2, [.t 4],
  .seq (.reg [⟨some 4, none, .mv (.c (.bool false))⟩]) (.seq (.seq (.reg [⟨some 6, none, .mv (.t 0)⟩, ⟨some 7, none, .len false (.t 6)⟩, ⟨some 8, none, .mv (.t 1)⟩, ⟨some 9, none, .len false (.t 8)⟩, ⟨some 10, none, .bin .neq (.t 7) (.t 9)⟩]) (.cond (.t 10) (.seq (.reg [⟨some 4, none, .mv (.c (.bool false))⟩]) (.ret)) (.skip))) (.seq (.seq (.reg [⟨some 5, none, .mv (.c (.int .i64 0))⟩]) (.block 0 (.loop [0, 1, 5] [(1, []), (0, [4])] B0_laws_eqStringS))) (.seq (.reg [⟨some 4, none, .mv (.c (.bool true))⟩]) (.ret))))⟩
def K_laws_eqStringS : Keeps := [([0, 1, 5], [(1, []), (0, [4])])]
theorem r_laws_eqStringS : resolveF Try.prog Try.f101 K_laws_eqStringS = some F_laws_eqStringS := by kernel_rfl
noncomputable def X_laws_eqStringS : Ctx := fun _ => none
theorem co_laws_eqStringS : CtxOk Try.prog X_laws_eqStringS := CtxOk.nil
theorem cx_laws_eqStringS : True := trivial
noncomputable def S_laws_eqStringS : ByV := ⟨none, false, semF X_laws_eqStringS F_laws_eqStringS none false⟩
noncomputable def G_laws_eqStringS : CK := .byv S_laws_eqStringS
theorem sg_laws_eqStringS (args : List AV) : S_laws_eqStringS.sem args = semF X_laws_eqStringS F_laws_eqStringS none false args := rfl
theorem cl_laws_eqStringS (args : List AV) (hp : Hp) : callS G_laws_eqStringS args hp = byvS S_laws_eqStringS args hp := callS_byv rfl rfl args hp
theorem ok_laws_eqStringS : InlOk Try.prog 101 (callS G_laws_eqStringS) := byv_none co_laws_eqStringS Try.func101 r_laws_eqStringS rfl (fun _ _ h => h)
/- 243 laws_eqEntry calls []  -/
def F_laws_eqEntry : RF := ⟨20, 2, [.t 4],
  .seq (.reg [⟨some 2, none, .box (.t 0)⟩, ⟨some 3, none, .box (.t 1)⟩, ⟨some 4, none, .mv (.c (.bool false))⟩]) (.seq (.seq (.reg [⟨some 5, none, .fa 0 (.t 2)⟩, ⟨some 6, none, .ld 1 false (.t 5)⟩, ⟨some 7, none, .fa 0 (.t 3)⟩, ⟨some 8, none, .ld 1 false (.t 7)⟩, ⟨some 9, none, .bin .neq (.t 6) (.t 8)⟩]) (.cond (.t 9) (.seq (.reg [⟨some 4, none, .mv (.c (.bool false))⟩]) (.ret)) (.skip))) (.seq (.seq (.reg [⟨some 10, none, .fa 1 (.t 2)⟩, ⟨some 11, none, .ld 1 false (.t 10)⟩, ⟨some 12, none, .fa 1 (.t 3)⟩, ⟨some 13, none, .ld 1 false (.t 12)⟩, ⟨some 14, none, .bin .neq (.t 11) (.t 13)⟩]) (.cond (.t 14) (.seq (.reg [⟨some 4, none, .mv (.c (.bool false))⟩]) (.ret)) (.skip))) (.seq (.seq (.reg [⟨some 15, none, .fa 2 (.t 2)⟩, ⟨some 16, none, .ld 1 false (.t 15)⟩, ⟨some 17, none, .fa 2 (.t 3)⟩, ⟨some 18, none, .ld 1 false (.t 17)⟩, ⟨some 19, none, .bin .neq (.t 16) (.t 18)⟩]) (.cond (.t 19) (.seq (.reg [⟨some 4, none, .mv (.c (.bool false))⟩]) (.ret)) (.skip))) (.seq (.reg [⟨some 4, none, .mv (.c (.bool true))⟩]) (.ret)))))⟩
def K_laws_eqEntry : Keeps := []
theorem r_laws_eqEntry : resolveF Try.prog Try.f243 K_laws_eqEntry = some F_laws_eqEntry := by kernel_rfl
noncomputable def X_laws_eqEntry : Ctx := fun _ => none
theorem co_laws_eqEntry : CtxOk Try.prog X_laws_eqEntry := CtxOk.nil
theorem cx_laws_eqEntry : True := trivial
noncomputable def S_laws_eqEntry : ByV := ⟨none, false, semF X_laws_eqEntry F_laws_eqEntry none false⟩
noncomputable def G_laws_eqEntry : CK := .byv S_laws_eqEntry
theorem sg_laws_eqEntry (args : List AV) : S_laws_eqEntry.sem args = semF X_laws_eqEntry F_laws_eqEntry none false args := rfl
theorem cl_laws_eqEntry (args : List AV) (hp : Hp) : callS G_laws_eqEntry args hp = byvS S_laws_eqEntry args hp := callS_byv rfl rfl args hp
theorem ok_laws_eqEntry : InlOk Try.prog 243 (callS G_laws_eqEntry) := byv_none co_laws_eqEntry Try.func243 r_laws_eqEntry rfl (fun _ _ h => h)
/- 223 laws_eqEntryS calls [laws_eqEntry]  -/
def B0_laws_eqEntryS : RC :=
  .seq (.seq (.reg [⟨some 11, none, .mv (.t 5)⟩, ⟨some 12, none, .mv (.t 0)⟩, ⟨some 13, none, .len false (.t 12)⟩, ⟨some 14, none, .bin .lss (.t 11) (.t 13)⟩]) (.cond (.t 14) (.skip) (.exit 0))) (.seq (.block 1 (.seq (.regd [(0, ⟨some 17, none, .mv (.t 0)⟩), (0, ⟨some 18, none, .mv (.t 5)⟩), (1, ⟨some 19, none, .ia 3 (.t 17) (.t 18)⟩), (1, ⟨some 20, none, .ld 3 true (.t 19)⟩), (0, ⟨some 21, none, .mv (.t 1)⟩), (0, ⟨some 22, none, .mv (.t 5)⟩), (1, ⟨some 23, none, .ia 3 (.t 21) (.t 22)⟩), (1, ⟨some 24, none, .ld 3 true (.t 23)⟩), (1, ⟨some 25, none, .call 243 [(.t 20), (.t 24)]⟩), (0, ⟨some 26, none, .un .not (.t 25)⟩)] []) (.cond (.t 26) (.seq (.reg [⟨some 4, none, .mv (.c (.bool false))⟩]) (.ret)) (.skip)))) (.reg [⟨some 15, none, .mv (.t 5)⟩, ⟨some 16, none, .bin .add (.t 15) (.c (.int .i64 1))⟩, ⟨some 5, none, .mv (.t 16)⟩]))
def F_laws_eqEntryS : RF := ⟨27, 2, [.t 4],
  .seq (.reg [⟨some 4, none, .mv (.c (.bool false))⟩]) (.seq (.seq (.reg [⟨some 6, none, .mv (.t 0)⟩, ⟨some 7, none, .len false (.t 6)⟩, ⟨some 8, none, .mv (.t 1)⟩, ⟨some 9, none, .len false (.t 8)⟩, ⟨some 10, none, .bin .neq (.t 7) (.t 9)⟩]) (.cond (.t 10) (.seq (.reg [⟨some 4, none, .mv (.c (.bool false))⟩]) (.ret)) (.skip))) (.seq (.seq (.reg [⟨some 5, none, .mv (.c (.int .i64 0))⟩]) (.block 0 (.loop [0, 1, 5] [(1, []), (0, [4])] B0_laws_eqEntryS))) (.seq (.reg [⟨some 4, none, .mv (.c (.bool true))⟩]) (.ret))))⟩
def K_laws_eqEntryS : Keeps := [([0, 1, 5], [(1, []), (0, [4])])]
theorem r_laws_eqEntryS : resolveF Try.prog Try.f223 K_laws_eqEntryS = some F_laws_eqEntryS := by kernel_rfl
noncomputable def X_laws_eqEntryS : Ctx := Ctx.cons 243 G_laws_eqEntry (fun _ => none)
theorem co_laws_eqEntryS : CtxOk Try.prog X_laws_eqEntryS := CtxOk.cons (CtxOk.nil) ok_laws_eqEntry
theorem cx_laws_eqEntryS : ((∀ args hp, callX X_laws_eqEntryS 243 args hp = callS G_laws_eqEntry args hp) ∧ (trC (X_laws_eqEntryS 243) = false)) := ⟨fun _ _ => rfl, rfl⟩
noncomputable def S_laws_eqEntryS : ByV := ⟨none, false, semF X_laws_eqEntryS F_laws_eqEntryS none false⟩
noncomputable def G_laws_eqEntryS : CK := .byv S_laws_eqEntryS
theorem sg_laws_eqEntryS (args : List AV) : S_laws_eqEntryS.sem args = semF X_laws_eqEntryS F_laws_eqEntryS none false args := rfl
theorem cl_laws_eqEntryS (args : List AV) (hp : Hp) : callS G_laws_eqEntryS args hp = byvS S_laws_eqEntryS args hp := callS_byv rfl rfl args hp
theorem ok_laws_eqEntryS : InlOk Try.prog 223 (callS G_laws_eqEntryS) := byv_none co_laws_eqEntryS Try.func223 r_laws_eqEntryS rfl (fun _ _ h => h)
/- 181 laws_eqMonitor calls [laws_eqStringS, laws_eqEntryS]  -/
def F_laws_eqMonitor : RF := ⟨28, 2, [.t 4],
  .seq (.reg [⟨some 2, none, .box (.t 0)⟩, ⟨some 3, none, .box (.t 1)⟩, ⟨some 4, none, .mv (.c (.bool false))⟩]) (.seq (.seq (.reg [⟨some 5, none, .fa 0 (.t 2)⟩, ⟨some 6, none, .ld 1 false (.t 5)⟩, ⟨some 7, none, .fa 0 (.t 3)⟩, ⟨some 8, none, .ld 1 false (.t 7)⟩, ⟨some 9, none, .bin .neq (.t 6) (.t 8)⟩]) (.cond (.t 9) (.seq (.reg [⟨some 4, none, .mv (.c (.bool false))⟩]) (.ret)) (.skip))) (.seq (.seq (.reg [⟨some 10, none, .fa 1 (.t 2)⟩, ⟨some 11, none, .ld 1 false (.t 10)⟩, ⟨some 12, none, .fa 1 (.t 3)⟩, ⟨some 13, none, .ld 1 false (.t 12)⟩, ⟨some 14, none, .call 101 [(.t 11), (.t 13)]⟩, ⟨some 15, none, .un .not (.t 14)⟩]) (.cond (.t 15) (.seq (.reg [⟨some 4, none, .mv (.c (.bool false))⟩]) (.ret)) (.skip))) (.seq (.seq (.reg [⟨some 16, none, .fa 2 (.t 2)⟩, ⟨some 17, none, .ld 1 false (.t 16)⟩, ⟨some 18, none, .fa 2 (.t 3)⟩, ⟨some 19, none, .ld 1 false (.t 18)⟩, ⟨some 20, none, .call 101 [(.t 17), (.t 19)]⟩, ⟨some 21, none, .un .not (.t 20)⟩]) (.cond (.t 21) (.seq (.reg [⟨some 4, none, .mv (.c (.bool false))⟩]) (.ret)) (.skip))) (.seq (.seq (.reg [⟨some 22, none, .fa 3 (.t 2)⟩, ⟨some 23, none, .ld 1 false (.t 22)⟩, ⟨some 24, none, .fa 3 (.t 3)⟩, ⟨some 25, none, .ld 1 false (.t 24)⟩, ⟨some 26, none, .call 223 [(.t 23), (.t 25)]⟩, ⟨some 27, none, .un .not (.t 26)⟩]) (.cond (.t 27) (.seq (.reg [⟨some 4, none, .mv (.c (.bool false))⟩]) (.ret)) (.skip))) (.seq (.reg [⟨some 4, none, .mv (.c (.bool true))⟩]) (.ret))))))⟩
def K_laws_eqMonitor : Keeps := []
theorem r_laws_eqMonitor : resolveF Try.prog Try.f181 K_laws_eqMonitor = some F_laws_eqMonitor := by kernel_rfl
noncomputable def X_laws_eqMonitor : Ctx := Ctx.cons 101 G_laws_eqStringS (Ctx.cons 223 G_laws_eqEntryS (fun _ => none))
theorem co_laws_eqMonitor : CtxOk Try.prog X_laws_eqMonitor := CtxOk.cons (CtxOk.cons (CtxOk.nil) ok_laws_eqEntryS) ok_laws_eqStringS
theorem cx_laws_eqMonitor : ((∀ args hp, callX X_laws_eqMonitor 101 args hp = callS G_laws_eqStringS args hp) ∧ (trC (X_laws_eqMonitor 101) = false)) ∧ ((∀ args hp, callX X_laws_eqMonitor 223 args hp = callS G_laws_eqEntryS args hp) ∧ (trC (X_laws_eqMonitor 223) = false)) := ⟨⟨fun _ _ => rfl, rfl⟩, ⟨fun _ _ => rfl, rfl⟩⟩
noncomputable def S_laws_eqMonitor : ByV := ⟨none, false, semF X_laws_eqMonitor F_laws_eqMonitor none false⟩
noncomputable def G_laws_eqMonitor : CK := .byv S_laws_eqMonitor
theorem sg_laws_eqMonitor (args : List AV) : S_laws_eqMonitor.sem args = semF X_laws_eqMonitor F_laws_eqMonitor none false args := rfl
theorem cl_laws_eqMonitor (args : List AV) (hp : Hp) : callS G_laws_eqMonitor args hp = byvS S_laws_eqMonitor args hp := callS_byv rfl rfl args hp
theorem ok_laws_eqMonitor : InlOk Try.prog 181 (callS G_laws_eqMonitor) := byv_none co_laws_eqMonitor Try.func181 r_laws_eqMonitor rfl (fun _ _ h => h)
/- 99 laws_eqMonitorS calls [laws_eqMonitor]  -/
def B0_laws_eqMonitorS : RC :=
  .seq (.seq (.reg [⟨some 11, none, .mv (.t 5)⟩, ⟨some 12, none, .mv (.t 0)⟩, ⟨some 13, none, .len false (.t 12)⟩, ⟨some 14, none, .bin .lss (.t 11) (.t 13)⟩]) (.cond (.t 14) (.skip) (.exit 0))) (.seq (.block 1 (.seq (.regd [(0, ⟨some 17, none, .mv (.t 0)⟩), (0, ⟨some 18, none, .mv (.t 5)⟩), (1, ⟨some 19, none, .ia 4 (.t 17) (.t 18)⟩), (1, ⟨some 20, none, .ld 4 true (.t 19)⟩), (0, ⟨some 21, none, .mv (.t 1)⟩), (0, ⟨some 22, none, .mv (.t 5)⟩), (1, ⟨some 23, none, .ia 4 (.t 21) (.t 22)⟩), (1, ⟨some 24, none, .ld 4 true (.t 23)⟩), (1, ⟨some 25, none, .call 181 [(.t 20), (.t 24)]⟩), (0, ⟨some 26, none, .un .not (.t 25)⟩)] []) (.cond (.t 26) (.seq (.reg [⟨some 4, none, .mv (.c (.bool false))⟩]) (.ret)) (.skip)))) (.reg [⟨some 15, none, .mv (.t 5)⟩, ⟨some 16, none, .bin .add (.t 15) (.c (.int .i64 1))⟩, ⟨some 5, none, .mv (.t 16)⟩]))
def F_laws_eqMonitorS : RF := ⟨27, 2, [.t 4],
  .seq (.reg [⟨some 4, none, .mv (.c (.bool false))⟩]) (.seq (.seq (.reg [⟨some 6, none, .mv (.t 0)⟩, ⟨some 7, none, .len false (.t 6)⟩, ⟨some 8, none, .mv (.t 1)⟩, ⟨some 9, none, .len false (.t 8)⟩, ⟨some 10, none, .bin .neq (.t 7) (.t 9)⟩]) (.cond (.t 10) (.seq (.reg [⟨some 4, none, .mv (.c (.bool false))⟩]) (.ret)) (.skip))) (.seq (.seq (.reg [⟨some 5, none, .mv (.c (.int .i64 0))⟩]) (.block 0 (.loop [0, 1, 5] [(1, []), (0, [4])] B0_laws_eqMonitorS))) (.seq (.reg [⟨some 4, none, .mv (.c (.bool true))⟩]) (.ret))))⟩
def K_laws_eqMonitorS : Keeps := [([0, 1, 5], [(1, []), (0, [4])])]
theorem r_laws_eqMonitorS : resolveF Try.prog Try.f99 K_laws_eqMonitorS = some F_laws_eqMonitorS := by kernel_rfl
noncomputable def X_laws_eqMonitorS : Ctx := Ctx.cons 181 G_laws_eqMonitor (fun _ => none)
theorem co_laws_eqMonitorS : CtxOk Try.prog X_laws_eqMonitorS := CtxOk.cons (CtxOk.nil) ok_laws_eqMonitor
theorem cx_laws_eqMonitorS : ((∀ args hp, callX X_laws_eqMonitorS 181 args hp = callS G_laws_eqMonitor args hp) ∧ (trC (X_laws_eqMonitorS 181) = false)) := ⟨fun _ _ => rfl, rfl⟩
noncomputable def S_laws_eqMonitorS : ByV := ⟨none, false, semF X_laws_eqMonitorS F_laws_eqMonitorS none false⟩
noncomputable def G_laws_eqMonitorS : CK := .byv S_laws_eqMonitorS
theorem sg_laws_eqMonitorS (args : List AV) : S_laws_eqMonitorS.sem args = semF X_laws_eqMonitorS F_laws_eqMonitorS none false args := rfl
theorem cl_laws_eqMonitorS (args : List AV) (hp : Hp) : callS G_laws_eqMonitorS args hp = byvS S_laws_eqMonitorS args hp := callS_byv rfl rfl args hp
theorem ok_laws_eqMonitorS : InlOk Try.prog 99 (callS G_laws_eqMonitorS) := byv_none co_laws_eqMonitorS Try.func99 r_laws_eqMonitorS rfl (fun _ _ h => h)
/- 182 laws_eqProcess calls [laws_eqStringS]  -/
def F_laws_eqProcess : RF := ⟨27, 2, [.t 4],
  .seq (.reg [⟨some 2, none, .box (.t 0)⟩, ⟨some 3, none, .box (.t 1)⟩, ⟨some 4, none, .mv (.c (.bool false))⟩]) (.seq (.seq (.reg [⟨some 5, none, .fa 0 (.t 2)⟩, ⟨some 6, none, .ld 1 false (.t 5)⟩, ⟨some 7, none, .fa 0 (.t 3)⟩, ⟨some 8, none, .ld 1 false (.t 7)⟩, ⟨some 9, none, .bin .neq (.t 6) (.t 8)⟩]) (.cond (.t 9) (.seq (.reg [⟨some 4, none, .mv (.c (.bool false))⟩]) (.ret)) (.skip))) (.seq (.seq (.reg [⟨some 10, none, .fa 1 (.t 2)⟩, ⟨some 11, none, .ld 1 false (.t 10)⟩, ⟨some 12, none, .fa 1 (.t 3)⟩, ⟨some 13, none, .ld 1 false (.t 12)⟩, ⟨some 14, none, .call 101 [(.t 11), (.t 13)]⟩, ⟨some 15, none, .un .not (.t 14)⟩]) (.cond (.t 15) (.seq (.reg [⟨some 4, none, .mv (.c (.bool false))⟩]) (.ret)) (.skip))) (.seq (.seq (.reg [⟨some 16, none, .fa 2 (.t 2)⟩, ⟨some 17, none, .ld 1 false (.t 16)⟩, ⟨some 18, none, .fa 2 (.t 3)⟩, ⟨some 19, none, .ld 1 false (.t 18)⟩, ⟨some 20, none, .call 101 [(.t 17), (.t 19)]⟩, ⟨some 21, none, .un .not (.t 20)⟩]) (.cond (.t 21) (.seq (.reg [⟨some 4, none, .mv (.c (.bool false))⟩]) (.ret)) (.skip))) (.seq (.seq (.reg [⟨some 22, none, .fa 3 (.t 2)⟩, ⟨some 23, none, .ld 1 false (.t 22)⟩, ⟨some 24, none, .fa 3 (.t 3)⟩, ⟨some 25, none, .ld 1 false (.t 24)⟩, ⟨some 26, none, .bin .neq (.t 23) (.t 25)⟩]) (.cond (.t 26) (.seq (.reg [⟨some 4, none, .mv (.c (.bool false))⟩]) (.ret)) (.skip))) (.seq (.reg [⟨some 4, none, .mv (.c (.bool true))⟩]) (.ret))))))⟩
def K_laws_eqProcess : Keeps := []
theorem r_laws_eqProcess : resolveF Try.prog Try.f182 K_laws_eqProcess = some F_laws_eqProcess := by kernel_rfl
noncomputable def X_laws_eqProcess : Ctx := Ctx.cons 101 G_laws_eqStringS (fun _ => none)
theorem co_laws_eqProcess : CtxOk Try.prog X_laws_eqProcess := CtxOk.cons (CtxOk.nil) ok_laws_eqStringS
theorem cx_laws_eqProcess : ((∀ args hp, callX X_laws_eqProcess 101 args hp = callS G_laws_eqStringS args hp) ∧ (trC (X_laws_eqProcess 101) = false)) := ⟨fun _ _ => rfl, rfl⟩
noncomputable def S_laws_eqProcess : ByV := ⟨none, false, semF X_laws_eqProcess F_laws_eqProcess none false⟩
noncomputable def G_laws_eqProcess : CK := .byv S_laws_eqProcess
theorem sg_laws_eqProcess (args : List AV) : S_laws_eqProcess.sem args = semF X_laws_eqProcess F_laws_eqProcess none false args := rfl
theorem cl_laws_eqProcess (args : List AV) (hp : Hp) : callS G_laws_eqProcess args hp = byvS S_laws_eqProcess args hp := callS_byv rfl rfl args hp
theorem ok_laws_eqProcess : InlOk Try.prog 182 (callS G_laws_eqProcess) := byv_none co_laws_eqProcess Try.func182 r_laws_eqProcess rfl (fun _ _ h => h)
/- 100 laws_eqProcessS calls [laws_eqProcess]  -/
def B0_laws_eqProcessS : RC :=
  .seq (.seq (.reg [⟨some 11, none, .mv (.t 5)⟩, ⟨some 12, none, .mv (.t 0)⟩, ⟨some 13, none, .len false (.t 12)⟩, ⟨some 14, none, .bin .lss (.t 11) (.t 13)⟩]) (.cond (.t 14) (.skip) (.exit 0))) (.seq (.block 1 (.seq (.regd [(0, ⟨some 17, none, .mv (.t 0)⟩), (0, ⟨some 18, none, .mv (.t 5)⟩), (1, ⟨some 19, none, .ia 4 (.t 17) (.t 18)⟩), (1, ⟨some 20, none, .ld 4 true (.t 19)⟩), (0, ⟨some 21, none, .mv (.t 1)⟩), (0, ⟨some 22, none, .mv (.t 5)⟩), (1, ⟨some 23, none, .ia 4 (.t 21) (.t 22)⟩), (1, ⟨some 24, none, .ld 4 true (.t 23)⟩), (1, ⟨some 25, none, .call 182 [(.t 20), (.t 24)]⟩), (0, ⟨some 26, none, .un .not (.t 25)⟩)] []) (.cond (.t 26) (.seq (.reg [⟨some 4, none, .mv (.c (.bool false))⟩]) (.ret)) (.skip)))) (.reg [⟨some 15, none, .mv (.t 5)⟩, ⟨some 16, none, .bin .add (.t 15) (.c (.int .i64 1))⟩, ⟨some 5, none, .mv (.t 16)⟩]))
def F_laws_eqProcessS : RF := ⟨27, 2, [.t 4],
  .seq (.reg [⟨some 4, none, .mv (.c (.bool false))⟩]) (.seq (.seq (.reg [⟨some 6, none, .mv (.t 0)⟩, ⟨some 7, none, .len false (.t 6)⟩, ⟨some 8, none, .mv (.t 1)⟩, ⟨some 9, none, .len false (.t 8)⟩, ⟨some 10, none, .bin .neq (.t 7) (.t 9)⟩]) (.cond (.t 10) (.seq (.reg [⟨some 4, none, .mv (.c (.bool false))⟩]) (.ret)) (.skip))) (.seq (.seq (.reg [⟨some 5, none, .mv (.c (.int .i64 0))⟩]) (.block 0 (.loop [0, 1, 5] [(1, []), (0, [4])] B0_laws_eqProcessS))) (.seq (.reg [⟨some 4, none, .mv (.c (.bool true))⟩]) (.ret))))⟩
def K_laws_eqProcessS : Keeps := [([0, 1, 5], [(1, []), (0, [4])])]
theorem r_laws_eqProcessS : resolveF Try.prog Try.f100 K_laws_eqProcessS = some F_laws_eqProcessS := by kernel_rfl
noncomputable def X_laws_eqProcessS : Ctx := Ctx.cons 182 G_laws_eqProcess (fun _ => none)
theorem co_laws_eqProcessS : CtxOk Try.prog X_laws_eqProcessS := CtxOk.cons (CtxOk.nil) ok_laws_eqProcess
theorem cx_laws_eqProcessS : ((∀ args hp, callX X_laws_eqProcessS 182 args hp = callS G_laws_eqProcess args hp) ∧ (trC (X_laws_eqProcessS 182) = false)) := ⟨fun _ _ => rfl, rfl⟩
noncomputable def S_laws_eqProcessS : ByV := ⟨none, false, semF X_laws_eqProcessS F_laws_eqProcessS none false⟩
noncomputable def G_laws_eqProcessS : CK := .byv S_laws_eqProcessS
theorem sg_laws_eqProcessS (args : List AV) : S_laws_eqProcessS.sem args = semF X_laws_eqProcessS F_laws_eqProcessS none false args := rfl
theorem cl_laws_eqProcessS (args : List AV) (hp : Hp) : callS G_laws_eqProcessS args hp = byvS S_laws_eqProcessS args hp := callS_byv rfl rfl args hp
theorem ok_laws_eqProcessS : InlOk Try.prog 100 (callS G_laws_eqProcessS) := byv_none co_laws_eqProcessS Try.func100 r_laws_eqProcessS rfl (fun _ _ h => h)
/- 25 laws_eqProgram calls [laws_eqNodeS, laws_eqMonitorS, laws_eqProcessS]  -/
def F_laws_eqProgram : RF := ⟨23, 2, [.t 4],
  .seq (.reg [⟨some 2, none, .box (.t 0)⟩, ⟨some 3, none, .box (.t 1)⟩, ⟨some 4, none, .mv (.c (.bool false))⟩]) (.seq (.seq (.reg [⟨some 5, none, .fa 0 (.t 2)⟩, ⟨some 6, none, .ld 1 false (.t 5)⟩, ⟨some 7, none, .fa 0 (.t 3)⟩, ⟨some 8, none, .ld 1 false (.t 7)⟩, ⟨some 9, none, .call 98 [(.t 6), (.t 8)]⟩, ⟨some 10, none, .un .not (.t 9)⟩]) (.cond (.t 10) (.seq (.reg [⟨some 4, none, .mv (.c (.bool false))⟩]) (.ret)) (.skip))) (.seq (.seq (.reg [⟨some 11, none, .fa 1 (.t 2)⟩, ⟨some 12, none, .ld 1 false (.t 11)⟩, ⟨some 13, none, .fa 1 (.t 3)⟩, ⟨some 14, none, .ld 1 false (.t 13)⟩, ⟨some 15, none, .call 99 [(.t 12), (.t 14)]⟩, ⟨some 16, none, .un .not (.t 15)⟩]) (.cond (.t 16) (.seq (.reg [⟨some 4, none, .mv (.c (.bool false))⟩]) (.ret)) (.skip))) (.seq (.seq (.reg [⟨some 17, none, .fa 2 (.t 2)⟩, ⟨some 18, none, .ld 1 false (.t 17)⟩, ⟨some 19, none, .fa 2 (.t 3)⟩, ⟨some 20, none, .ld 1 false (.t 19)⟩, ⟨some 21, none, .call 100 [(.t 18), (.t 20)]⟩, ⟨some 22, none, .un .not (.t 21)⟩]) (.cond (.t 22) (.seq (.reg [⟨some 4, none, .mv (.c (.bool false))⟩]) (.ret)) (.skip))) (.seq (.reg [⟨some 4, none, .mv (.c (.bool true))⟩]) (.ret)))))⟩
def K_laws_eqProgram : Keeps := []
theorem r_laws_eqProgram : resolveF Try.prog Try.f25 K_laws_eqProgram = some F_laws_eqProgram := by kernel_rfl
noncomputable def X_laws_eqProgram : Ctx := Ctx.cons 98 G_laws_eqNodeS (Ctx.cons 99 G_laws_eqMonitorS (Ctx.cons 100 G_laws_eqProcessS (fun _ => none)))
theorem co_laws_eqProgram : CtxOk Try.prog X_laws_eqProgram := CtxOk.cons (CtxOk.cons (CtxOk.cons (CtxOk.nil) ok_laws_eqProcessS) ok_laws_eqMonitorS) ok_laws_eqNodeS
theorem cx_laws_eqProgram : ((∀ args hp, callX X_laws_eqProgram 98 args hp = callS G_laws_eqNodeS args hp) ∧ (trC (X_laws_eqProgram 98) = false)) ∧ ((∀ args hp, callX X_laws_eqProgram 99 args hp = callS G_laws_eqMonitorS args hp) ∧ (trC (X_laws_eqProgram 99) = false)) ∧ ((∀ args hp, callX X_laws_eqProgram 100 args hp = callS G_laws_eqProcessS args hp) ∧ (trC (X_laws_eqProgram 100) = false)) := ⟨⟨fun _ _ => rfl, rfl⟩, ⟨fun _ _ => rfl, rfl⟩, ⟨fun _ _ => rfl, rfl⟩⟩
noncomputable def S_laws_eqProgram : ByV := ⟨none, false, semF X_laws_eqProgram F_laws_eqProgram none false⟩
noncomputable def G_laws_eqProgram : CK := .byv S_laws_eqProgram
theorem sg_laws_eqProgram (args : List AV) : S_laws_eqProgram.sem args = semF X_laws_eqProgram F_laws_eqProgram none false args := rfl
theorem cl_laws_eqProgram (args : List AV) (hp : Hp) : callS G_laws_eqProgram args hp = byvS S_laws_eqProgram args hp := callS_byv rfl rfl args hp
theorem ok_laws_eqProgram : InlOk Try.prog 25 (callS G_laws_eqProgram) := byv_none co_laws_eqProgram Try.func25 r_laws_eqProgram rfl (fun _ _ h => h)
/- 198 laws_eqEnv calls [laws_eqStringS, laws_eqIntS]  -/
def F_laws_eqEnv : RF := ⟨17, 2, [.t 4],
  .seq (.reg [⟨some 2, none, .box (.t 0)⟩, ⟨some 3, none, .box (.t 1)⟩, ⟨some 4, none, .mv (.c (.bool false))⟩]) (.seq (.seq (.reg [⟨some 5, none, .fa 0 (.t 2)⟩, ⟨some 6, none, .ld 1 false (.t 5)⟩, ⟨some 7, none, .fa 0 (.t 3)⟩, ⟨some 8, none, .ld 1 false (.t 7)⟩, ⟨some 9, none, .call 101 [(.t 6), (.t 8)]⟩, ⟨some 10, none, .un .not (.t 9)⟩]) (.cond (.t 10) (.seq (.reg [⟨some 4, none, .mv (.c (.bool false))⟩]) (.ret)) (.skip))) (.seq (.seq (.reg [⟨some 11, none, .fa 1 (.t 2)⟩, ⟨some 12, none, .ld 1 false (.t 11)⟩, ⟨some 13, none, .fa 1 (.t 3)⟩, ⟨some 14, none, .ld 1 false (.t 13)⟩, ⟨some 15, none, .call 54 [(.t 12), (.t 14)]⟩, ⟨some 16, none, .un .not (.t 15)⟩]) (.cond (.t 16) (.seq (.reg [⟨some 4, none, .mv (.c (.bool false))⟩]) (.ret)) (.skip))) (.seq (.reg [⟨some 4, none, .mv (.c (.bool true))⟩]) (.ret))))⟩
def K_laws_eqEnv : Keeps := []
theorem r_laws_eqEnv : resolveF Try.prog Try.f198 K_laws_eqEnv = some F_laws_eqEnv := by kernel_rfl
noncomputable def X_laws_eqEnv : Ctx := Ctx.cons 101 G_laws_eqStringS (Ctx.cons 54 G_laws_eqIntS (fun _ => none))
theorem co_laws_eqEnv : CtxOk Try.prog X_laws_eqEnv := CtxOk.cons (CtxOk.cons (CtxOk.nil) ok_laws_eqIntS) ok_laws_eqStringS
theorem cx_laws_eqEnv : ((∀ args hp, callX X_laws_eqEnv 101 args hp = callS G_laws_eqStringS args hp) ∧ (trC (X_laws_eqEnv 101) = false)) ∧ ((∀ args hp, callX X_laws_eqEnv 54 args hp = callS G_laws_eqIntS args hp) ∧ (trC (X_laws_eqEnv 54) = false)) := ⟨⟨fun _ _ => rfl, rfl⟩, ⟨fun _ _ => rfl, rfl⟩⟩
noncomputable def S_laws_eqEnv : ByV := ⟨none, false, semF X_laws_eqEnv F_laws_eqEnv none false⟩
noncomputable def G_laws_eqEnv : CK := .byv S_laws_eqEnv
theorem sg_laws_eqEnv (args : List AV) : S_laws_eqEnv.sem args = semF X_laws_eqEnv F_laws_eqEnv none false args := rfl
theorem cl_laws_eqEnv (args : List AV) (hp : Hp) : callS G_laws_eqEnv args hp = byvS S_laws_eqEnv args hp := callS_byv rfl rfl args hp
theorem ok_laws_eqEnv : InlOk Try.prog 198 (callS G_laws_eqEnv) := byv_none co_laws_eqEnv Try.func198 r_laws_eqEnv rfl (fun _ _ h => h)
/- 227 laws_eqThread calls [laws_eqIntS, laws_eqEnv]  -/
def F_laws_eqThread : RF := ⟨22, 2, [.t 4],
  .seq (.reg [⟨some 2, none, .box (.t 0)⟩, ⟨some 3, none, .box (.t 1)⟩, ⟨some 4, none, .mv (.c (.bool false))⟩]) (.seq (.seq (.reg [⟨some 5, none, .fa 0 (.t 2)⟩, ⟨some 6, none, .ld 1 false (.t 5)⟩, ⟨some 7, none, .fa 0 (.t 3)⟩, ⟨some 8, none, .ld 1 false (.t 7)⟩, ⟨some 9, none, .call 54 [(.t 6), (.t 8)]⟩, ⟨some 10, none, .un .not (.t 9)⟩]) (.cond (.t 10) (.seq (.reg [⟨some 4, none, .mv (.c (.bool false))⟩]) (.ret)) (.skip))) (.seq (.seq (.reg [⟨some 11, none, .fa 1 (.t 2)⟩, ⟨some 12, none, .ld 2 true (.t 11)⟩, ⟨some 13, none, .fa 1 (.t 3)⟩, ⟨some 14, none, .ld 2 true (.t 13)⟩, ⟨some 15, none, .call 198 [(.t 12), (.t 14)]⟩, ⟨some 16, none, .un .not (.t 15)⟩]) (.cond (.t 16) (.seq (.reg [⟨some 4, none, .mv (.c (.bool false))⟩]) (.ret)) (.skip))) (.seq (.seq (.reg [⟨some 17, none, .fa 3 (.t 2)⟩, ⟨some 18, none, .ld 1 false (.t 17)⟩, ⟨some 19, none, .fa 3 (.t 3)⟩, ⟨some 20, none, .ld 1 false (.t 19)⟩, ⟨some 21, none, .bin .neq (.t 18) (.t 20)⟩]) (.cond (.t 21) (.seq (.reg [⟨some 4, none, .mv (.c (.bool false))⟩]) (.ret)) (.skip))) (.seq (.reg [⟨some 4, none, .mv (.c (.bool true))⟩]) (.ret)))))⟩
def K_laws_eqThread : Keeps := []
theorem r_laws_eqThread : resolveF Try.prog Try.f227 K_laws_eqThread = some F_laws_eqThread := by kernel_rfl
noncomputable def X_laws_eqThread : Ctx := Ctx.cons 54 G_laws_eqIntS (Ctx.cons 198 G_laws_eqEnv (fun _ => none))
theorem co_laws_eqThread : CtxOk Try.prog X_laws_eqThread := CtxOk.cons (CtxOk.cons (CtxOk.nil) ok_laws_eqEnv) ok_laws_eqIntS
theorem cx_laws_eqThread : ((∀ args hp, callX X_laws_eqThread 54 args hp = callS G_laws_eqIntS args hp) ∧ (trC (X_laws_eqThread 54) = false)) ∧ ((∀ args hp, callX X_laws_eqThread 198 args hp = callS G_laws_eqEnv args hp) ∧ (trC (X_laws_eqThread 198) = false)) := ⟨⟨fun _ _ => rfl, rfl⟩, ⟨fun _ _ => rfl, rfl⟩⟩
noncomputable def S_laws_eqThread : ByV := ⟨none, false, semF X_laws_eqThread F_laws_eqThread none false⟩
noncomputable def G_laws_eqThread : CK := .byv S_laws_eqThread
theorem sg_laws_eqThread (args : List AV) : S_laws_eqThread.sem args = semF X_laws_eqThread F_laws_eqThread none false args := rfl
theorem cl_laws_eqThread (args : List AV) (hp : Hp) : callS G_laws_eqThread args hp = byvS S_laws_eqThread args hp := callS_byv rfl rfl args hp
theorem ok_laws_eqThread : InlOk Try.prog 227 (callS G_laws_eqThread) := byv_none co_laws_eqThread Try.func227 r_laws_eqThread rfl (fun _ _ h => h)
/- 197 laws_eqActor calls [laws_eqThread]  -/
def F_laws_eqActor : RF := ⟨37, 2, [.t 4],
  .seq (.reg [⟨some 2, none, .box (.t 0)⟩, ⟨some 3, none, .box (.t 1)⟩, ⟨some 4, none, .mv (.c (.bool false))⟩]) (.seq (.seq (.reg [⟨some 5, none, .fa 0 (.t 2)⟩, ⟨some 6, none, .ld 4 true (.t 5)⟩, ⟨some 7, none, .fa 0 (.t 3)⟩, ⟨some 8, none, .ld 4 true (.t 7)⟩, ⟨some 9, none, .call 227 [(.t 6), (.t 8)]⟩, ⟨some 10, none, .un .not (.t 9)⟩]) (.cond (.t 10) (.seq (.reg [⟨some 4, none, .mv (.c (.bool false))⟩]) (.ret)) (.skip))) (.seq (.seq (.reg [⟨some 11, none, .fa 4 (.t 2)⟩, ⟨some 12, none, .ld 4 true (.t 11)⟩, ⟨some 13, none, .fa 4 (.t 3)⟩, ⟨some 14, none, .ld 4 true (.t 13)⟩, ⟨some 15, none, .call 227 [(.t 12), (.t 14)]⟩, ⟨some 16, none, .un .not (.t 15)⟩]) (.cond (.t 16) (.seq (.reg [⟨some 4, none, .mv (.c (.bool false))⟩]) (.ret)) (.skip))) (.seq (.seq (.reg [⟨some 17, none, .fa 8 (.t 2)⟩, ⟨some 18, none, .ld 1 false (.t 17)⟩, ⟨some 19, none, .fa 8 (.t 3)⟩, ⟨some 20, none, .ld 1 false (.t 19)⟩, ⟨some 21, none, .bin .neq (.t 18) (.t 20)⟩]) (.cond (.t 21) (.seq (.reg [⟨some 4, none, .mv (.c (.bool false))⟩]) (.ret)) (.skip))) (.seq (.seq (.reg [⟨some 22, none, .fa 9 (.t 2)⟩, ⟨some 23, none, .ld 1 false (.t 22)⟩, ⟨some 24, none, .fa 9 (.t 3)⟩, ⟨some 25, none, .ld 1 false (.t 24)⟩, ⟨some 26, none, .bin .neq (.t 23) (.t 25)⟩]) (.cond (.t 26) (.seq (.reg [⟨some 4, none, .mv (.c (.bool false))⟩]) (.ret)) (.skip))) (.seq (.seq (.reg [⟨some 27, none, .fa 10 (.t 2)⟩, ⟨some 28, none, .ld 1 false (.t 27)⟩, ⟨some 29, none, .fa 10 (.t 3)⟩, ⟨some 30, none, .ld 1 false (.t 29)⟩, ⟨some 31, none, .bib .neq (.t 28) (.t 30)⟩]) (.cond (.t 31) (.seq (.reg [⟨some 4, none, .mv (.c (.bool false))⟩]) (.ret)) (.skip))) (.seq (.seq (.reg [⟨some 32, none, .fa 11 (.t 2)⟩, ⟨some 33, none, .ld 1 false (.t 32)⟩, ⟨some 34, none, .fa 11 (.t 3)⟩, ⟨some 35, none, .ld 1 false (.t 34)⟩, ⟨some 36, none, .bib .neq (.t 33) (.t 35)⟩]) (.cond (.t 36) (.seq (.reg [⟨some 4, none, .mv (.c (.bool false))⟩]) (.ret)) (.skip))) (.seq (.reg [⟨some 4, none, .mv (.c (.bool true))⟩]) (.ret))))))))⟩
def K_laws_eqActor : Keeps := []
theorem r_laws_eqActor : resolveF Try.prog Try.f197 K_laws_eqActor = some F_laws_eqActor := by kernel_rfl
noncomputable def X_laws_eqActor : Ctx := Ctx.cons 227 G_laws_eqThread (fun _ => none)
theorem co_laws_eqActor : CtxOk Try.prog X_laws_eqActor := CtxOk.cons (CtxOk.nil) ok_laws_eqThread
theorem cx_laws_eqActor : ((∀ args hp, callX X_laws_eqActor 227 args hp = callS G_laws_eqThread args hp) ∧ (trC (X_laws_eqActor 227) = false)) := ⟨fun _ _ => rfl, rfl⟩
noncomputable def S_laws_eqActor : ByV := ⟨none, false, semF X_laws_eqActor F_laws_eqActor none false⟩
noncomputable def G_laws_eqActor : CK := .byv S_laws_eqActor
theorem sg_laws_eqActor (args : List AV) : S_laws_eqActor.sem args = semF X_laws_eqActor F_laws_eqActor none false args := rfl
theorem cl_laws_eqActor (args : List AV) (hp : Hp) : callS G_laws_eqActor args hp = byvS S_laws_eqActor args hp := callS_byv rfl rfl args hp
theorem ok_laws_eqActor : InlOk Try.prog 197 (callS G_laws_eqActor) := byv_none co_laws_eqActor Try.func197 r_laws_eqActor rfl (fun _ _ h => h)
/- 142 laws_eqActorS calls [laws_eqActor]  -/
def B0_laws_eqActorS : RC :=
  .seq (.seq (.reg [⟨some 11, none, .mv (.t 5)⟩, ⟨some 12, none, .mv (.t 0)⟩, ⟨some 13, none, .len false (.t 12)⟩, ⟨some 14, none, .bin .lss (.t 11) (.t 13)⟩]) (.cond (.t 14) (.skip) (.exit 0))) (.seq (.block 1 (.seq (.regd [(0, ⟨some 17, none, .mv (.t 0)⟩), (0, ⟨some 18, none, .mv (.t 5)⟩), (1, ⟨some 19, none, .ia 12 (.t 17) (.t 18)⟩), (1, ⟨some 20, none, .ld 12 true (.t 19)⟩), (0, ⟨some 21, none, .mv (.t 1)⟩), (0, ⟨some 22, none, .mv (.t 5)⟩), (1, ⟨some 23, none, .ia 12 (.t 21) (.t 22)⟩), (1, ⟨some 24, none, .ld 12 true (.t 23)⟩), (1, ⟨some 25, none, .call 197 [(.t 20), (.t 24)]⟩), (0, ⟨some 26, none, .un .not (.t 25)⟩)] []) (.cond (.t 26) (.seq (.reg [⟨some 4, none, .mv (.c (.bool false))⟩]) (.ret)) (.skip)))) (.reg [⟨some 15, none, .mv (.t 5)⟩, ⟨some 16, none, .bin .add (.t 15) (.c (.int .i64 1))⟩, ⟨some 5, none, .mv (.t 16)⟩]))
def F_laws_eqActorS : RF := ⟨27, 2, [.t 4],
  .seq (.reg [⟨some 4, none, .mv (.c (.bool false))⟩]) (.seq (.seq (.reg [⟨some 6, none, .mv (.t 0)⟩, ⟨some 7, none, .len false (.t 6)⟩, ⟨some 8, none, .mv (.t 1)⟩, ⟨some 9, none, .len false (.t 8)⟩, ⟨some 10, none, .bin .neq (.t 7) (.t 9)⟩]) (.cond (.t 10) (.seq (.reg [⟨some 4, none, .mv (.c (.bool false))⟩]) (.ret)) (.skip))) (.seq (.seq (.reg [⟨some 5, none, .mv (.c (.int .i64 0))⟩]) (.block 0 (.loop [0, 1, 5] [(1, []), (0, [4])] B0_laws_eqActorS))) (.seq (.reg [⟨some 4, none, .mv (.c (.bool true))⟩]) (.ret))))⟩
def K_laws_eqActorS : Keeps := [([0, 1, 5], [(1, []), (0, [4])])]
theorem r_laws_eqActorS : resolveF Try.prog Try.f142 K_laws_eqActorS = some F_laws_eqActorS := by kernel_rfl
noncomputable def X_laws_eqActorS : Ctx := Ctx.cons 197 G_laws_eqActor (fun _ => none)
theorem co_laws_eqActorS : CtxOk Try.prog X_laws_eqActorS := CtxOk.cons (CtxOk.nil) ok_laws_eqActor
theorem cx_laws_eqActorS : ((∀ args hp, callX X_laws_eqActorS 197 args hp = callS G_laws_eqActor args hp) ∧ (trC (X_laws_eqActorS 197) = false)) := ⟨fun _ _ => rfl, rfl⟩
noncomputable def S_laws_eqActorS : ByV := ⟨none, false, semF X_laws_eqActorS F_laws_eqActorS none false⟩
noncomputable def G_laws_eqActorS : CK := .byv S_laws_eqActorS
theorem sg_laws_eqActorS (args : List AV) : S_laws_eqActorS.sem args = semF X_laws_eqActorS F_laws_eqActorS none false args := rfl
theorem cl_laws_eqActorS (args : List AV) (hp : Hp) : callS G_laws_eqActorS args hp = byvS S_laws_eqActorS args hp := callS_byv rfl rfl args hp
theorem ok_laws_eqActorS : InlOk Try.prog 142 (callS G_laws_eqActorS) := byv_none co_laws_eqActorS Try.func142 r_laws_eqActorS rfl (fun _ _ h => h)
/- 187 laws_eqGate calls [laws_eqIntS]  -/
def F_laws_eqGate : RF := ⟨22, 2, [.t 4],
  .seq (.reg [⟨some 2, none, .box (.t 0)⟩, ⟨some 3, none, .box (.t 1)⟩, ⟨some 4, none, .mv (.c (.bool false))⟩]) (.seq (.seq (.reg [⟨some 5, none, .fa 0 (.t 2)⟩, ⟨some 6, none, .ld 1 false (.t 5)⟩, ⟨some 7, none, .fa 0 (.t 3)⟩, ⟨some 8, none, .ld 1 false (.t 7)⟩, ⟨some 9, none, .bin .neq (.t 6) (.t 8)⟩]) (.cond (.t 9) (.seq (.reg [⟨some 4, none, .mv (.c (.bool false))⟩]) (.ret)) (.skip))) (.seq (.seq (.reg [⟨some 10, none, .fa 1 (.t 2)⟩, ⟨some 11, none, .ld 1 false (.t 10)⟩, ⟨some 12, none, .fa 1 (.t 3)⟩, ⟨some 13, none, .ld 1 false (.t 12)⟩, ⟨some 14, none, .call 54 [(.t 11), (.t 13)]⟩, ⟨some 15, none, .un .not (.t 14)⟩]) (.cond (.t 15) (.seq (.reg [⟨some 4, none, .mv (.c (.bool false))⟩]) (.ret)) (.skip))) (.seq (.seq (.reg [⟨some 16, none, .fa 2 (.t 2)⟩, ⟨some 17, none, .ld 1 false (.t 16)⟩, ⟨some 18, none, .fa 2 (.t 3)⟩, ⟨some 19, none, .ld 1 false (.t 18)⟩, ⟨some 20, none, .call 54 [(.t 17), (.t 19)]⟩, ⟨some 21, none, .un .not (.t 20)⟩]) (.cond (.t 21) (.seq (.reg [⟨some 4, none, .mv (.c (.bool false))⟩]) (.ret)) (.skip))) (.seq (.reg [⟨some 4, none, .mv (.c (.bool true))⟩]) (.ret)))))⟩
def K_laws_eqGate : Keeps := []
theorem r_laws_eqGate : resolveF Try.prog Try.f187 K_laws_eqGate = some F_laws_eqGate := by kernel_rfl
noncomputable def X_laws_eqGate : Ctx := Ctx.cons 54 G_laws_eqIntS (fun _ => none)
theorem co_laws_eqGate : CtxOk Try.prog X_laws_eqGate := CtxOk.cons (CtxOk.nil) ok_laws_eqIntS
theorem cx_laws_eqGate : ((∀ args hp, callX X_laws_eqGate 54 args hp = callS G_laws_eqIntS args hp) ∧ (trC (X_laws_eqGate 54) = false)) := ⟨fun _ _ => rfl, rfl⟩
noncomputable def S_laws_eqGate : ByV := ⟨none, false, semF X_laws_eqGate F_laws_eqGate none false⟩
noncomputable def G_laws_eqGate : CK := .byv S_laws_eqGate
theorem sg_laws_eqGate (args : List AV) : S_laws_eqGate.sem args = semF X_laws_eqGate F_laws_eqGate none false args := rfl
theorem cl_laws_eqGate (args : List AV) (hp : Hp) : callS G_laws_eqGate args hp = byvS S_laws_eqGate args hp := callS_byv rfl rfl args hp
theorem ok_laws_eqGate : InlOk Try.prog 187 (callS G_laws_eqGate) := byv_none co_laws_eqGate Try.func187 r_laws_eqGate rfl (fun _ _ h => h)
/- 123 laws_eqGateS calls [laws_eqGate]  -/
def B0_laws_eqGateS : RC :=
  .seq (.seq (.reg [⟨some 11, none, .mv (.t 5)⟩, ⟨some 12, none, .mv (.t 0)⟩, ⟨some 13, none, .len false (.t 12)⟩, ⟨some 14, none, .bin .lss (.t 11) (.t 13)⟩]) (.cond (.t 14) (.skip) (.exit 0))) (.seq (.block 1 (.seq (.regd [(0, ⟨some 17, none, .mv (.t 0)⟩), (0, ⟨some 18, none, .mv (.t 5)⟩), (1, ⟨some 19, none, .ia 3 (.t 17) (.t 18)⟩), (1, ⟨some 20, none, .ld 3 true (.t 19)⟩), (0, ⟨some 21, none, .mv (.t 1)⟩), (0, ⟨some 22, none, .mv (.t 5)⟩), (1, ⟨some 23, none, .ia 3 (.t 21) (.t 22)⟩), (1, ⟨some 24, none, .ld 3 true (.t 23)⟩), (1, ⟨some 25, none, .call 187 [(.t 20), (.t 24)]⟩), (0, ⟨some 26, none, .un .not (.t 25)⟩)] []) (.cond (.t 26) (.seq (.reg [⟨some 4, none, .mv (.c (.bool false))⟩]) (.ret)) (.skip)))) (.reg [⟨some 15, none, .mv (.t 5)⟩, ⟨some 16, none, .bin .add (.t 15) (.c (.int .i64 1))⟩, ⟨some 5, none, .mv (.t 16)⟩]))
def F_laws_eqGateS : RF := ⟨27, 2, [.t 4],
  .seq (.reg [⟨some 4, none, .mv (.c (.bool false))⟩]) (.seq (.seq (.reg [⟨some 6, none, .mv (.t 0)⟩, ⟨some 7, none, .len false (.t 6)⟩, ⟨some 8, none, .mv (.t 1)⟩, ⟨some 9, none, .len false (.t 8)⟩, ⟨some 10, none, .bin .neq (.t 7) (.t 9)⟩]) (.cond (.t 10) (.seq (.reg [⟨some 4, none, .mv (.c (.bool false))⟩]) (.ret)) (.skip))) (.seq (.seq (.reg [⟨some 5, none, .mv (.c (.int .i64 0))⟩]) (.block 0 (.loop [0, 1, 5] [(1, []), (0, [4])] B0_laws_eqGateS))) (.seq (.reg [⟨some 4, none, .mv (.c (.bool true))⟩]) (.ret))))⟩
def K_laws_eqGateS : Keeps := [([0, 1, 5], [(1, []), (0, [4])])]
theorem r_laws_eqGateS : resolveF Try.prog Try.f123 K_laws_eqGateS = some F_laws_eqGateS := by kernel_rfl
noncomputable def X_laws_eqGateS : Ctx := Ctx.cons 187 G_laws_eqGate (fun _ => none)
theorem co_laws_eqGateS : CtxOk Try.prog X_laws_eqGateS := CtxOk.cons (CtxOk.nil) ok_laws_eqGate
theorem cx_laws_eqGateS : ((∀ args hp, callX X_laws_eqGateS 187 args hp = callS G_laws_eqGate args hp) ∧ (trC (X_laws_eqGateS 187) = false)) := ⟨fun _ _ => rfl, rfl⟩
noncomputable def S_laws_eqGateS : ByV := ⟨none, false, semF X_laws_eqGateS F_laws_eqGateS none false⟩
noncomputable def G_laws_eqGateS : CK := .byv S_laws_eqGateS
theorem sg_laws_eqGateS (args : List AV) : S_laws_eqGateS.sem args = semF X_laws_eqGateS F_laws_eqGateS none false args := rfl
theorem cl_laws_eqGateS (args : List AV) (hp : Hp) : callS G_laws_eqGateS args hp = byvS S_laws_eqGateS args hp := callS_byv rfl rfl args hp
theorem ok_laws_eqGateS : InlOk Try.prog 123 (callS G_laws_eqGateS) := byv_none co_laws_eqGateS Try.func123 r_laws_eqGateS rfl (fun _ _ h => h)
/- 143 laws_eqEnvS calls [laws_eqEnv]  -/
def B0_laws_eqEnvS : RC :=
  .seq (.seq (.reg [⟨some 11, none, .mv (.t 5)⟩, ⟨some 12, none, .mv (.t 0)⟩, ⟨some 13, none, .len false (.t 12)⟩, ⟨some 14, none, .bin .lss (.t 11) (.t 13)⟩]) (.cond (.t 14) (.skip) (.exit 0))) (.seq (.block 1 (.seq (.regd [(0, ⟨some 17, none, .mv (.t 0)⟩), (0, ⟨some 18, none, .mv (.t 5)⟩), (1, ⟨some 19, none, .ia 2 (.t 17) (.t 18)⟩), (1, ⟨some 20, none, .ld 2 true (.t 19)⟩), (0, ⟨some 21, none, .mv (.t 1)⟩), (0, ⟨some 22, none, .mv (.t 5)⟩), (1, ⟨some 23, none, .ia 2 (.t 21) (.t 22)⟩), (1, ⟨some 24, none, .ld 2 true (.t 23)⟩), (1, ⟨some 25, none, .call 198 [(.t 20), (.t 24)]⟩), (0, ⟨some 26, none, .un .not (.t 25)⟩)] []) (.cond (.t 26) (.seq (.reg [⟨some 4, none, .mv (.c (.bool false))⟩]) (.ret)) (.skip)))) (.reg [⟨some 15, none, .mv (.t 5)⟩, ⟨some 16, none, .bin .add (.t 15) (.c (.int .i64 1))⟩, ⟨some 5, none, .mv (.t 16)⟩]))
def F_laws_eqEnvS : RF := ⟨27, 2, [.t 4],
  .seq (.reg [⟨some 4, none, .mv (.c (.bool false))⟩]) (.seq (.seq (.reg [⟨some 6, none, .mv (.t 0)⟩, ⟨some 7, none, .len false (.t 6)⟩, ⟨some 8, none, .mv (.t 1)⟩, ⟨some 9, none, .len false (.t 8)⟩, ⟨some 10, none, .bin .neq (.t 7) (.t 9)⟩]) (.cond (.t 10) (.seq (.reg [⟨some 4, none, .mv (.c (.bool false))⟩]) (.ret)) (.skip))) (.seq (.seq (.reg [⟨some 5, none, .mv (.c (.int .i64 0))⟩]) (.block 0 (.loop [0, 1, 5] [(1, []), (0, [4])] B0_laws_eqEnvS))) (.seq (.reg [⟨some 4, none, .mv (.c (.bool true))⟩]) (.ret))))⟩
def K_laws_eqEnvS : Keeps := [([0, 1, 5], [(1, []), (0, [4])])]
theorem r_laws_eqEnvS : resolveF Try.prog Try.f143 K_laws_eqEnvS = some F_laws_eqEnvS := by kernel_rfl
noncomputable def X_laws_eqEnvS : Ctx := Ctx.cons 198 G_laws_eqEnv (fun _ => none)
theorem co_laws_eqEnvS : CtxOk Try.prog X_laws_eqEnvS := CtxOk.cons (CtxOk.nil) ok_laws_eqEnv
theorem cx_laws_eqEnvS : ((∀ args hp, callX X_laws_eqEnvS 198 args hp = callS G_laws_eqEnv args hp) ∧ (trC (X_laws_eqEnvS 198) = false)) := ⟨fun _ _ => rfl, rfl⟩
noncomputable def S_laws_eqEnvS : ByV := ⟨none, false, semF X_laws_eqEnvS F_laws_eqEnvS none false⟩
noncomputable def G_laws_eqEnvS : CK := .byv S_laws_eqEnvS
theorem sg_laws_eqEnvS (args : List AV) : S_laws_eqEnvS.sem args = semF X_laws_eqEnvS F_laws_eqEnvS none false args := rfl
theorem cl_laws_eqEnvS (args : List AV) (hp : Hp) : callS G_laws_eqEnvS args hp = byvS S_laws_eqEnvS args hp := callS_byv rfl rfl args hp
theorem ok_laws_eqEnvS : InlOk Try.prog 143 (callS G_laws_eqEnvS) := byv_none co_laws_eqEnvS Try.func143 r_laws_eqEnvS rfl (fun _ _ h => h)
/- 199 laws_eqEvent calls []  -/
def F_laws_eqEvent : RF := ⟨20, 2, [.t 4],
  .seq (.reg [⟨some 2, none, .box (.t 0)⟩, ⟨some 3, none, .box (.t 1)⟩, ⟨some 4, none, .mv (.c (.bool false))⟩]) (.seq (.seq (.reg [⟨some 5, none, .fa 0 (.t 2)⟩, ⟨some 6, none, .ld 1 false (.t 5)⟩, ⟨some 7, none, .fa 0 (.t 3)⟩, ⟨some 8, none, .ld 1 false (.t 7)⟩, ⟨some 9, none, .bin .neq (.t 6) (.t 8)⟩]) (.cond (.t 9) (.seq (.reg [⟨some 4, none, .mv (.c (.bool false))⟩]) (.ret)) (.skip))) (.seq (.seq (.reg [⟨some 10, none, .fa 1 (.t 2)⟩, ⟨some 11, none, .ld 1 false (.t 10)⟩, ⟨some 12, none, .fa 1 (.t 3)⟩, ⟨some 13, none, .ld 1 false (.t 12)⟩, ⟨some 14, none, .bin .neq (.t 11) (.t 13)⟩]) (.cond (.t 14) (.seq (.reg [⟨some 4, none, .mv (.c (.bool false))⟩]) (.ret)) (.skip))) (.seq (.seq (.reg [⟨some 15, none, .fa 2 (.t 2)⟩, ⟨some 16, none, .ld 1 false (.t 15)⟩, ⟨some 17, none, .fa 2 (.t 3)⟩, ⟨some 18, none, .ld 1 false (.t 17)⟩, ⟨some 19, none, .bin .neq (.t 16) (.t 18)⟩]) (.cond (.t 19) (.seq (.reg [⟨some 4, none, .mv (.c (.bool false))⟩]) (.ret)) (.skip))) (.seq (.reg [⟨some 4, none, .mv (.c (.bool true))⟩]) (.ret)))))⟩
def K_laws_eqEvent : Keeps := []
theorem r_laws_eqEvent : resolveF Try.prog Try.f199 K_laws_eqEvent = some F_laws_eqEvent := by kernel_rfl
noncomputable def X_laws_eqEvent : Ctx := fun _ => none
theorem co_laws_eqEvent : CtxOk Try.prog X_laws_eqEvent := CtxOk.nil
theorem cx_laws_eqEvent : True := trivial
noncomputable def S_laws_eqEvent : ByV := ⟨none, false, semF X_laws_eqEvent F_laws_eqEvent none false⟩
noncomputable def G_laws_eqEvent : CK := .byv S_laws_eqEvent
theorem sg_laws_eqEvent (args : List AV) : S_laws_eqEvent.sem args = semF X_laws_eqEvent F_laws_eqEvent none false args := rfl
theorem cl_laws_eqEvent (args : List AV) (hp : Hp) : callS G_laws_eqEvent args hp = byvS S_laws_eqEvent args hp := callS_byv rfl rfl args hp
theorem ok_laws_eqEvent : InlOk Try.prog 199 (callS G_laws_eqEvent) := byv_none co_laws_eqEvent Try.func199 r_laws_eqEvent rfl (fun _ _ h => h)
/- 144 laws_eqEventS calls [laws_eqEvent]  -/
def B0_laws_eqEventS : RC :=
  .seq (.seq (.reg [⟨some 11, none, .mv (.t 5)⟩, ⟨some 12, none, .mv (.t 0)⟩, ⟨some 13, none, .len false (.t 12)⟩, ⟨some 14, none, .bin .lss (.t 11) (.t 13)⟩]) (.cond (.t 14) (.skip) (.exit 0))) (.seq (.block 1 (.seq (.regd [(0, ⟨some 17, none, .mv (.t 0)⟩), (0, ⟨some 18, none, .mv (.t 5)⟩), (1, ⟨some 19, none, .ia 3 (.t 17) (.t 18)⟩), (1, ⟨some 20, none, .ld 3 true (.t 19)⟩), (0, ⟨some 21, none, .mv (.t 1)⟩), (0, ⟨some 22, none, .mv (.t 5)⟩), (1, ⟨some 23, none, .ia 3 (.t 21) (.t 22)⟩), (1, ⟨some 24, none, .ld 3 true (.t 23)⟩), (1, ⟨some 25, none, .call 199 [(.t 20), (.t 24)]⟩), (0, ⟨some 26, none, .un .not (.t 25)⟩)] []) (.cond (.t 26) (.seq (.reg [⟨some 4, none, .mv (.c (.bool false))⟩]) (.ret)) (.skip)))) (.reg [⟨some 15, none, .mv (.t 5)⟩, ⟨some 16, none, .bin .add (.t 15) (.c (.int .i64 1))⟩, ⟨some 5, none, .mv (.t 16)⟩]))
def F_laws_eqEventS : RF := ⟨27, 2, [.t 4],
  .seq (.reg [⟨some 4, none, .mv (.c (.bool false))⟩]) (.seq (.seq (.reg [⟨some 6, none, .mv (.t 0)⟩, ⟨some 7, none, .len false (.t 6)⟩, ⟨some 8, none, .mv (.t 1)⟩, ⟨some 9, none, .len false (.t 8)⟩, ⟨some 10, none, .bin .neq (.t 7) (.t 9)⟩]) (.cond (.t 10) (.seq (.reg [⟨some 4, none, .mv (.c (.bool false))⟩]) (.ret)) (.skip))) (.seq (.seq (.reg [⟨some 5, none, .mv (.c (.int .i64 0))⟩]) (.block 0 (.loop [0, 1, 5] [(1, []), (0, [4])] B0_laws_eqEventS))) (.seq (.reg [⟨some 4, none, .mv (.c (.bool true))⟩]) (.ret))))⟩
def K_laws_eqEventS : Keeps := [([0, 1, 5], [(1, []), (0, [4])])]
theorem r_laws_eqEventS : resolveF Try.prog Try.f144 K_laws_eqEventS = some F_laws_eqEventS := by kernel_rfl
noncomputable def X_laws_eqEventS : Ctx := Ctx.cons 199 G_laws_eqEvent (fun _ => none)
theorem co_laws_eqEventS : CtxOk Try.prog X_laws_eqEventS := CtxOk.cons (CtxOk.nil) ok_laws_eqEvent
theorem cx_laws_eqEventS : ((∀ args hp, callX X_laws_eqEventS 199 args hp = callS G_laws_eqEvent args hp) ∧ (trC (X_laws_eqEventS 199) = false)) := ⟨fun _ _ => rfl, rfl⟩
noncomputable def S_laws_eqEventS : ByV := ⟨none, false, semF X_laws_eqEventS F_laws_eqEventS none false⟩
noncomputable def G_laws_eqEventS : CK := .byv S_laws_eqEventS
theorem sg_laws_eqEventS (args : List AV) : S_laws_eqEventS.sem args = semF X_laws_eqEventS F_laws_eqEventS none false args := rfl
theorem cl_laws_eqEventS (args : List AV) (hp : Hp) : callS G_laws_eqEventS args hp = byvS S_laws_eqEventS args hp := callS_byv rfl rfl args hp
theorem ok_laws_eqEventS : InlOk Try.prog 144 (callS G_laws_eqEventS) := byv_none co_laws_eqEventS Try.func144 r_laws_eqEventS rfl (fun _ _ h => h)
/- 51 laws_eqModel calls [laws_eqProgram, laws_eqActorS, laws_eqGateS, laws_eqEnvS, laws_eqIntS, laws_eqEventS]  -/
def F_laws_eqModel : RF := ⟨46, 2, [.t 4],
  .seq (.reg [⟨some 2, none, .box (.t 0)⟩, ⟨some 3, none, .box (.t 1)⟩, ⟨some 4, none, .mv (.c (.bool false))⟩]) (.seq (.seq (.reg [⟨some 5, none, .fa 0 (.t 2)⟩, ⟨some 6, none, .ld 3 true (.t 5)⟩, ⟨some 7, none, .fa 0 (.t 3)⟩, ⟨some 8, none, .ld 3 true (.t 7)⟩, ⟨some 9, none, .call 25 [(.t 6), (.t 8)]⟩, ⟨some 10, none, .un .not (.t 9)⟩]) (.cond (.t 10) (.seq (.reg [⟨some 4, none, .mv (.c (.bool false))⟩]) (.ret)) (.skip))) (.seq (.seq (.reg [⟨some 11, none, .fa 3 (.t 2)⟩, ⟨some 12, none, .ld 1 false (.t 11)⟩, ⟨some 13, none, .fa 3 (.t 3)⟩, ⟨some 14, none, .ld 1 false (.t 13)⟩, ⟨some 15, none, .call 142 [(.t 12), (.t 14)]⟩, ⟨some 16, none, .un .not (.t 15)⟩]) (.cond (.t 16) (.seq (.reg [⟨some 4, none, .mv (.c (.bool false))⟩]) (.ret)) (.skip))) (.seq (.seq (.reg [⟨some 17, none, .fa 4 (.t 2)⟩, ⟨some 18, none, .ld 1 false (.t 17)⟩, ⟨some 19, none, .fa 4 (.t 3)⟩, ⟨some 20, none, .ld 1 false (.t 19)⟩, ⟨some 21, none, .call 123 [(.t 18), (.t 20)]⟩, ⟨some 22, none, .un .not (.t 21)⟩]) (.cond (.t 22) (.seq (.reg [⟨some 4, none, .mv (.c (.bool false))⟩]) (.ret)) (.skip))) (.seq (.seq (.reg [⟨some 23, none, .fa 5 (.t 2)⟩, ⟨some 24, none, .ld 1 false (.t 23)⟩, ⟨some 25, none, .fa 5 (.t 3)⟩, ⟨some 26, none, .ld 1 false (.t 25)⟩, ⟨some 27, none, .call 143 [(.t 24), (.t 26)]⟩, ⟨some 28, none, .un .not (.t 27)⟩]) (.cond (.t 28) (.seq (.reg [⟨some 4, none, .mv (.c (.bool false))⟩]) (.ret)) (.skip))) (.seq (.seq (.reg [⟨some 29, none, .fa 6 (.t 2)⟩, ⟨some 30, none, .ld 1 false (.t 29)⟩, ⟨some 31, none, .fa 6 (.t 3)⟩, ⟨some 32, none, .ld 1 false (.t 31)⟩, ⟨some 33, none, .call 54 [(.t 30), (.t 32)]⟩, ⟨some 34, none, .un .not (.t 33)⟩]) (.cond (.t 34) (.seq (.reg [⟨some 4, none, .mv (.c (.bool false))⟩]) (.ret)) (.skip))) (.seq (.seq (.reg [⟨some 35, none, .fa 7 (.t 2)⟩, ⟨some 36, none, .ld 1 false (.t 35)⟩, ⟨some 37, none, .fa 7 (.t 3)⟩, ⟨some 38, none, .ld 1 false (.t 37)⟩, ⟨some 39, none, .call 144 [(.t 36), (.t 38)]⟩, ⟨some 40, none, .un .not (.t 39)⟩]) (.cond (.t 40) (.seq (.reg [⟨some 4, none, .mv (.c (.bool false))⟩]) (.ret)) (.skip))) (.seq (.seq (.reg [⟨some 41, none, .fa 8 (.t 2)⟩, ⟨some 42, none, .ld 1 false (.t 41)⟩, ⟨some 43, none, .fa 8 (.t 3)⟩, ⟨some 44, none, .ld 1 false (.t 43)⟩, ⟨some 45, none, .bib .neq (.t 42) (.t 44)⟩]) (.cond (.t 45) (.seq (.reg [⟨some 4, none, .mv (.c (.bool false))⟩]) (.ret)) (.skip))) (.seq (.reg [⟨some 4, none, .mv (.c (.bool true))⟩]) (.ret)))))))))⟩
def K_laws_eqModel : Keeps := []
theorem r_laws_eqModel : resolveF Try.prog Try.f51 K_laws_eqModel = some F_laws_eqModel := by kernel_rfl
noncomputable def X_laws_eqModel : Ctx := Ctx.cons 25 G_laws_eqProgram (Ctx.cons 142 G_laws_eqActorS (Ctx.cons 123 G_laws_eqGateS (Ctx.cons 143 G_laws_eqEnvS (Ctx.cons 54 G_laws_eqIntS (Ctx.cons 144 G_laws_eqEventS (fun _ => none))))))
theorem co_laws_eqModel : CtxOk Try.prog X_laws_eqModel := CtxOk.cons (CtxOk.cons (CtxOk.cons (CtxOk.cons (CtxOk.cons (CtxOk.cons (CtxOk.nil) ok_laws_eqEventS) ok_laws_eqIntS) ok_laws_eqEnvS) ok_laws_eqGateS) ok_laws_eqActorS) ok_laws_eqProgram
theorem cx_laws_eqModel : ((∀ args hp, callX X_laws_eqModel 25 args hp = callS G_laws_eqProgram args hp) ∧ (trC (X_laws_eqModel 25) = false)) ∧ ((∀ args hp, callX X_laws_eqModel 142 args hp = callS G_laws_eqActorS args hp) ∧ (trC (X_laws_eqModel 142) = false)) ∧ ((∀ args hp, callX X_laws_eqModel 123 args hp = callS G_laws_eqGateS args hp) ∧ (trC (X_laws_eqModel 123) = false)) ∧ ((∀ args hp, callX X_laws_eqModel 143 args hp = callS G_laws_eqEnvS args hp) ∧ (trC (X_laws_eqModel 143) = false)) ∧ ((∀ args hp, callX X_laws_eqModel 54 args hp = callS G_laws_eqIntS args hp) ∧ (trC (X_laws_eqModel 54) = false)) ∧ ((∀ args hp, callX X_laws_eqModel 144 args hp = callS G_laws_eqEventS args hp) ∧ (trC (X_laws_eqModel 144) = false)) := ⟨⟨fun _ _ => rfl, rfl⟩, ⟨fun _ _ => rfl, rfl⟩, ⟨fun _ _ => rfl, rfl⟩, ⟨fun _ _ => rfl, rfl⟩, ⟨fun _ _ => rfl, rfl⟩, ⟨fun _ _ => rfl, rfl⟩⟩
noncomputable def S_laws_eqModel : ByV := ⟨none, false, semF X_laws_eqModel F_laws_eqModel none false⟩
noncomputable def G_laws_eqModel : CK := .byv S_laws_eqModel
theorem sg_laws_eqModel (args : List AV) : S_laws_eqModel.sem args = semF X_laws_eqModel F_laws_eqModel none false args := rfl
theorem cl_laws_eqModel (args : List AV) (hp : Hp) : callS G_laws_eqModel args hp = byvS S_laws_eqModel args hp := callS_byv rfl rfl args hp
theorem ok_laws_eqModel : InlOk Try.prog 51 (callS G_laws_eqModel) := byv_none co_laws_eqModel Try.func51 r_laws_eqModel rfl (fun _ _ h => h)
/- 10 laws_FnExactVerdictOf calls [laws_szModel, laws_toModel, spec_VerdictOf, impl_VerdictOf, laws_eqModel]  -/
def F_laws_FnExactVerdictOf : RF := ⟨27, 1, [.t 2],
  .seq (.reg [⟨some 1, none, .box (.t 0)⟩, ⟨some 2, none, .mv (.c (.bool false))⟩]) (.seq (.reg [⟨some 3, none, .mv (.c (.int .i64 1048576))⟩]) (.seq (.reg [⟨some 7, none, .ld 9 true (.t 1)⟩, ⟨some 8, none, .mv (.t 3)⟩, ⟨some 9, none, .call 47 [(.t 7), (.t 8)]⟩, ⟨some 3, none, .mv (.t 9)⟩]) (.seq (.seq (.reg [⟨some 10, none, .mv (.t 3)⟩, ⟨some 11, none, .bin .lss (.t 10) (.c (.int .i64 0))⟩]) (.cond (.t 11) (.seq (.reg [⟨some 2, none, .mv (.c (.bool true))⟩]) (.ret)) (.skip))) (.seq (.reg [⟨some 12, none, .ld 9 true (.t 1)⟩, ⟨some 13, none, .call 49 [(.t 12)]⟩, ⟨some 14, none, .call 48 [(.t 13)]⟩, ⟨some 4, none, .mv (.t 14)⟩]) (.seq (.reg [⟨some 15, none, .ld 9 true (.t 1)⟩, ⟨some 16, none, .call 49 [(.t 15)]⟩, ⟨some 5, none, .new [(.nil 6), (.nil 4), (.nil 4), (.nil 12), (.nil 3), (.nil 2), (.nil 1), (.nil 3), (.bool false)]⟩, ⟨none, none, .st 9 (.t 5) (.t 16)⟩]) (.seq (.reg [⟨some 17, none, .ld 9 true (.t 5)⟩, ⟨some 18, none, .call 50 [(.t 17)]⟩, ⟨some 6, none, .mv (.t 18)⟩]) (.seq (.seq (.reg [⟨some 19, none, .mv (.t 6)⟩, ⟨some 20, none, .mv (.t 4)⟩, ⟨some 21, none, .bin .neq (.t 19) (.t 20)⟩]) (.cond (.t 21) (.seq (.reg [⟨some 2, none, .mv (.c (.bool false))⟩]) (.ret)) (.skip))) (.seq (.seq (.regd [(2, ⟨some 22, none, .ld 9 true (.t 5)⟩), (1, ⟨some 23, none, .ld 9 true (.t 1)⟩), (2, ⟨some 24, none, .call 49 [(.t 23)]⟩), (1, ⟨some 25, none, .call 51 [(.t 22), (.t 24)]⟩), (0, ⟨some 26, none, .un .not (.t 25)⟩)] [(0, 2)]) (.cond (.t 26) (.seq (.reg [⟨some 2, none, .mv (.c (.bool false))⟩]) (.ret)) (.skip))) (.seq (.reg [⟨some 2, none, .mv (.c (.bool true))⟩]) (.ret))))))))))⟩
def K_laws_FnExactVerdictOf : Keeps := []
theorem r_laws_FnExactVerdictOf : resolveF Try.prog Try.f10 K_laws_FnExactVerdictOf = some F_laws_FnExactVerdictOf := by kernel_rfl
noncomputable def X_laws_FnExactVerdictOf : Ctx := Ctx.cons 47 G_laws_szModel (Ctx.cons 49 G_laws_toModel (Ctx.cons 48 G_spec_VerdictOf (Ctx.cons 50 G_impl_VerdictOf (Ctx.cons 51 G_laws_eqModel (fun _ => none)))))
theorem co_laws_FnExactVerdictOf : CtxOk Try.prog X_laws_FnExactVerdictOf := CtxOk.cons (CtxOk.cons (CtxOk.cons (CtxOk.cons (CtxOk.cons (CtxOk.nil) ok_laws_eqModel) ok_impl_VerdictOf) ok_spec_VerdictOf) ok_laws_toModel) ok_laws_szModel
theorem cx_laws_FnExactVerdictOf : ((∀ args hp, callX X_laws_FnExactVerdictOf 47 args hp = callS G_laws_szModel args hp) ∧ (trC (X_laws_FnExactVerdictOf 47) = false)) ∧ ((∀ args hp, callX X_laws_FnExactVerdictOf 49 args hp = callS G_laws_toModel args hp) ∧ (trC (X_laws_FnExactVerdictOf 49) = false)) ∧ ((∀ args hp, callX X_laws_FnExactVerdictOf 48 args hp = callS G_spec_VerdictOf args hp) ∧ (trC (X_laws_FnExactVerdictOf 48) = false)) ∧ ((∀ args hp, callX X_laws_FnExactVerdictOf 50 args hp = callS G_impl_VerdictOf args hp) ∧ (trC (X_laws_FnExactVerdictOf 50) = false)) ∧ ((∀ args hp, callX X_laws_FnExactVerdictOf 51 args hp = callS G_laws_eqModel args hp) ∧ (trC (X_laws_FnExactVerdictOf 51) = false)) := ⟨⟨fun _ _ => rfl, rfl⟩, ⟨fun _ _ => rfl, rfl⟩, ⟨fun _ _ => rfl, rfl⟩, ⟨fun _ _ => rfl, rfl⟩, ⟨fun _ _ => rfl, rfl⟩⟩
end Go.Proofs.Ytfecgljlnfoheaa.AI
