/- The functions that the law FnExactEntryPlaces reaches, in the reckoner's words. -/
import Derived.Test.YtfecgljlnfoheaaAOpen2
import Derived.Test.YtfecgljlnfoheaaChecked
import Derived.ProofKit
namespace Go.Proofs.Ytfecgljlnfoheaa.AI
open Go.Proofs
set_option linter.all false
set_option maxRecDepth 100000
/- 117 laws_szIntS calls []  -/
def F_laws_szIntS : RF := ⟨12, 2, [.t 4],
  .seq (.reg [⟨some 4, none, .mv (.c (.int .i64 0))⟩]) (.seq (.reg [⟨some 5, none, .mv (.t 1)⟩, ⟨some 6, none, .mv (.t 0)⟩, ⟨some 7, none, .len false (.t 6)⟩, ⟨some 8, none, .bin .sub (.t 5) (.t 7)⟩, ⟨some 1, none, .mv (.t 8)⟩]) (.seq (.seq (.reg [⟨some 9, none, .mv (.t 1)⟩, ⟨some 10, none, .bin .lss (.t 9) (.c (.int .i64 0))⟩]) (.cond (.t 10) (.seq (.reg [⟨some 4, none, .mv (.c (.int .i64 (-1)))⟩]) (.ret)) (.skip))) (.seq (.reg [⟨some 11, none, .mv (.t 1)⟩, ⟨some 4, none, .mv (.t 11)⟩]) (.ret))))⟩
def K_laws_szIntS : Keeps := []
theorem r_laws_szIntS : resolveF Try.prog Try.f117 K_laws_szIntS = some F_laws_szIntS := by kernel_rfl
noncomputable def X_laws_szIntS : Ctx := fun _ => none
theorem co_laws_szIntS : CtxOk Try.prog X_laws_szIntS := CtxOk.nil
theorem cx_laws_szIntS : True := trivial
noncomputable def S_laws_szIntS : ByV := ⟨none, false, semF X_laws_szIntS F_laws_szIntS none false⟩
noncomputable def G_laws_szIntS : CK := .byv S_laws_szIntS
theorem sg_laws_szIntS (args : List AV) : S_laws_szIntS.sem args = semF X_laws_szIntS F_laws_szIntS none false args := rfl
theorem cl_laws_szIntS (args : List AV) (hp : Hp) : callS G_laws_szIntS args hp = byvS S_laws_szIntS args hp := callS_byv rfl rfl args hp
theorem ok_laws_szIntS : InlOk Try.prog 117 (callS G_laws_szIntS) := byv_none co_laws_szIntS Try.func117 r_laws_szIntS rfl (fun _ _ h => h)
/- 172 laws_szNode calls [laws_szIntS]  -/
def F_laws_szNode : RF := ⟨33, 2, [.t 4],
  .seq (.reg [⟨some 2, none, .box (.t 0)⟩, ⟨some 4, none, .mv (.c (.int .i64 0))⟩]) (.seq (.reg [⟨some 5, none, .mv (.t 1)⟩, ⟨some 6, none, .fa 2 (.t 2)⟩, ⟨some 7, none, .ld 1 false (.t 6)⟩, ⟨some 8, none, .len true (.t 7)⟩, ⟨some 9, none, .bin .sub (.t 5) (.t 8)⟩, ⟨some 1, none, .mv (.t 9)⟩]) (.seq (.seq (.reg [⟨some 10, none, .mv (.t 1)⟩, ⟨some 11, none, .bin .lss (.t 10) (.c (.int .i64 0))⟩]) (.cond (.t 11) (.seq (.reg [⟨some 4, none, .mv (.c (.int .i64 (-1)))⟩]) (.ret)) (.skip))) (.seq (.reg [⟨some 12, none, .mv (.t 1)⟩, ⟨some 13, none, .fa 3 (.t 2)⟩, ⟨some 14, none, .ld 1 false (.t 13)⟩, ⟨some 15, none, .len true (.t 14)⟩, ⟨some 16, none, .bin .sub (.t 12) (.t 15)⟩, ⟨some 1, none, .mv (.t 16)⟩]) (.seq (.seq (.reg [⟨some 17, none, .mv (.t 1)⟩, ⟨some 18, none, .bin .lss (.t 17) (.c (.int .i64 0))⟩]) (.cond (.t 18) (.seq (.reg [⟨some 4, none, .mv (.c (.int .i64 (-1)))⟩]) (.ret)) (.skip))) (.seq (.reg [⟨some 19, none, .mv (.t 1)⟩, ⟨some 20, none, .fa 4 (.t 2)⟩, ⟨some 21, none, .ld 1 false (.t 20)⟩, ⟨some 22, none, .len true (.t 21)⟩, ⟨some 23, none, .bin .sub (.t 19) (.t 22)⟩, ⟨some 1, none, .mv (.t 23)⟩]) (.seq (.seq (.reg [⟨some 24, none, .mv (.t 1)⟩, ⟨some 25, none, .bin .lss (.t 24) (.c (.int .i64 0))⟩]) (.cond (.t 25) (.seq (.reg [⟨some 4, none, .mv (.c (.int .i64 (-1)))⟩]) (.ret)) (.skip))) (.seq (.reg [⟨some 26, none, .fa 5 (.t 2)⟩, ⟨some 27, none, .ld 1 false (.t 26)⟩, ⟨some 28, none, .mv (.t 1)⟩, ⟨some 29, none, .call 117 [(.t 27), (.t 28)]⟩, ⟨some 1, none, .mv (.t 29)⟩]) (.seq (.seq (.reg [⟨some 30, none, .mv (.t 1)⟩, ⟨some 31, none, .bin .lss (.t 30) (.c (.int .i64 0))⟩]) (.cond (.t 31) (.seq (.reg [⟨some 4, none, .mv (.c (.int .i64 (-1)))⟩]) (.ret)) (.skip))) (.seq (.reg [⟨some 32, none, .mv (.t 1)⟩, ⟨some 4, none, .mv (.t 32)⟩]) (.ret))))))))))⟩
def K_laws_szNode : Keeps := []
theorem r_laws_szNode : resolveF Try.prog Try.f172 K_laws_szNode = some F_laws_szNode := by kernel_rfl
noncomputable def X_laws_szNode : Ctx := Ctx.cons 117 G_laws_szIntS (fun _ => none)
theorem co_laws_szNode : CtxOk Try.prog X_laws_szNode := CtxOk.cons (CtxOk.nil) ok_laws_szIntS
theorem cx_laws_szNode : ((∀ args hp, callX X_laws_szNode 117 args hp = callS G_laws_szIntS args hp) ∧ (trC (X_laws_szNode 117) = false)) := ⟨fun _ _ => rfl, rfl⟩
noncomputable def S_laws_szNode : ByV := ⟨none, false, semF X_laws_szNode F_laws_szNode none false⟩
noncomputable def G_laws_szNode : CK := .byv S_laws_szNode
theorem sg_laws_szNode (args : List AV) : S_laws_szNode.sem args = semF X_laws_szNode F_laws_szNode none false args := rfl
theorem cl_laws_szNode (args : List AV) (hp : Hp) : callS G_laws_szNode args hp = byvS S_laws_szNode args hp := callS_byv rfl rfl args hp
theorem ok_laws_szNode : InlOk Try.prog 172 (callS G_laws_szNode) := byv_none co_laws_szNode Try.func172 r_laws_szNode rfl (fun _ _ h => h)
/- 89 laws_szNodeS calls [laws_szNode]  -/
def B0_laws_szNodeS : RC :=
  .seq (.seq (.reg [⟨some 12, none, .mv (.t 5)⟩, ⟨some 13, none, .mv (.t 0)⟩, ⟨some 14, none, .len false (.t 13)⟩, ⟨some 15, none, .bin .lss (.t 12) (.t 14)⟩]) (.cond (.t 15) (.skip) (.exit 0))) (.seq (.block 1 (.seq (.reg [⟨some 18, none, .mv (.t 0)⟩, ⟨some 19, none, .mv (.t 5)⟩, ⟨some 20, none, .ia 6 (.t 18) (.t 19)⟩, ⟨some 21, none, .ld 6 true (.t 20)⟩, ⟨some 22, none, .mv (.t 1)⟩, ⟨some 23, none, .call 172 [(.t 21), (.t 22)]⟩, ⟨some 1, none, .mv (.t 23)⟩]) (.seq (.reg [⟨some 24, none, .mv (.t 1)⟩, ⟨some 25, none, .bin .lss (.t 24) (.c (.int .i64 0))⟩]) (.cond (.t 25) (.seq (.reg [⟨some 4, none, .mv (.c (.int .i64 (-1)))⟩]) (.ret)) (.skip))))) (.reg [⟨some 16, none, .mv (.t 5)⟩, ⟨some 17, none, .bin .add (.t 16) (.c (.int .i64 1))⟩, ⟨some 5, none, .mv (.t 17)⟩]))
def F_laws_szNodeS : RF := ⟨27, 2, [.t 4],
  .seq (.reg [⟨some 4, none, .mv (.c (.int .i64 0))⟩]) (.seq (.reg [⟨some 6, none, .mv (.t 1)⟩, ⟨some 7, none, .mv (.t 0)⟩, ⟨some 8, none, .len false (.t 7)⟩, ⟨some 9, none, .bin .sub (.t 6) (.t 8)⟩, ⟨some 1, none, .mv (.t 9)⟩]) (.seq (.seq (.reg [⟨some 10, none, .mv (.t 1)⟩, ⟨some 11, none, .bin .lss (.t 10) (.c (.int .i64 0))⟩]) (.cond (.t 11) (.seq (.reg [⟨some 4, none, .mv (.c (.int .i64 (-1)))⟩]) (.ret)) (.skip))) (.seq (.seq (.reg [⟨some 5, none, .mv (.c (.int .i64 0))⟩]) (.block 0 (.loop [0, 1, 5] [(1, [1]), (0, [4])] B0_laws_szNodeS))) (.seq (.reg [⟨some 26, none, .mv (.t 1)⟩, ⟨some 4, none, .mv (.t 26)⟩]) (.ret)))))⟩
def K_laws_szNodeS : Keeps := [([0, 1, 5], [(1, [1]), (0, [4])])]
theorem r_laws_szNodeS : resolveF Try.prog Try.f89 K_laws_szNodeS = some F_laws_szNodeS := by kernel_rfl
noncomputable def X_laws_szNodeS : Ctx := Ctx.cons 172 G_laws_szNode (fun _ => none)
theorem co_laws_szNodeS : CtxOk Try.prog X_laws_szNodeS := CtxOk.cons (CtxOk.nil) ok_laws_szNode
theorem cx_laws_szNodeS : ((∀ args hp, callX X_laws_szNodeS 172 args hp = callS G_laws_szNode args hp) ∧ (trC (X_laws_szNodeS 172) = false)) := ⟨fun _ _ => rfl, rfl⟩
noncomputable def S_laws_szNodeS : ByV := ⟨none, false, semF X_laws_szNodeS F_laws_szNodeS none false⟩
noncomputable def G_laws_szNodeS : CK := .byv S_laws_szNodeS
theorem sg_laws_szNodeS (args : List AV) : S_laws_szNodeS.sem args = semF X_laws_szNodeS F_laws_szNodeS none false args := rfl
theorem cl_laws_szNodeS (args : List AV) (hp : Hp) : callS G_laws_szNodeS args hp = byvS S_laws_szNodeS args hp := callS_byv rfl rfl args hp
theorem ok_laws_szNodeS : InlOk Try.prog 89 (callS G_laws_szNodeS) := byv_none co_laws_szNodeS Try.func89 r_laws_szNodeS rfl (fun _ _ h => h)
/- 155 laws_szStringS calls []  -/
def B0_laws_szStringS : RC :=
  .seq (.seq (.reg [⟨some 12, none, .mv (.t 5)⟩, ⟨some 13, none, .mv (.t 0)⟩, ⟨some 14, none, .len false (.t 13)⟩, ⟨some 15, none, .bin .lss (.t 12) (.t 14)⟩]) (.cond (.t 15) (.skip) (.exit 0))) (.seq (.block 1 (.seq (.reg [⟨some 18, none, .mv (.t 1)⟩, ⟨some 19, none, .mv (.t 0)⟩, ⟨some 20, none, .mv (.t 5)⟩, ⟨some 21, none, .ia 1 (.t 19) (.t 20)⟩, ⟨some 22, none, .ld 1 false (.t 21)⟩, ⟨some 23, none, .len true (.t 22)⟩, ⟨some 24, none, .bin .sub (.t 18) (.t 23)⟩, ⟨some 1, none, .mv (.t 24)⟩]) (.seq (.reg [⟨some 25, none, .mv (.t 1)⟩, ⟨some 26, none, .bin .lss (.t 25) (.c (.int .i64 0))⟩]) (.cond (.t 26) (.seq (.reg [⟨some 4, none, .mv (.c (.int .i64 (-1)))⟩]) (.ret)) (.skip))))) (.reg [⟨some 16, none, .mv (.t 5)⟩, ⟨some 17, none, .bin .add (.t 16) (.c (.int .i64 1))⟩, ⟨some 5, none, .mv (.t 17)⟩]))
def F_laws_szStringS : RF := ⟨28, 2, [.t 4],
  .seq (.reg [⟨some 4, none, .mv (.c (.int .i64 0))⟩]) (.seq (.reg [⟨some 6, none, .mv (.t 1)⟩, ⟨some 7, none, .mv (.t 0)⟩, ⟨some 8, none, .len false (.t 7)⟩, ⟨some 9, none, .bin .sub (.t 6) (.t 8)⟩, ⟨some 1, none, .mv (.t 9)⟩]) (.seq (.seq (.reg [⟨some 10, none, .mv (.t 1)⟩, ⟨some 11, none, .bin .lss (.t 10) (.c (.int .i64 0))⟩]) (.cond (.t 11) (.seq (.reg [⟨some 4, none, .mv (.c (.int .i64 (-1)))⟩]) (.ret)) (.skip))) (.seq (.seq (.reg [⟨some 5, none, .mv (.c (.int .i64 0))⟩]) (.block 0 (.loop [0, 1, 5] [(1, [1]), (0, [4])] B0_laws_szStringS))) (.seq (.reg [⟨some 27, none, .mv (.t 1)⟩, ⟨some 4, none, .mv (.t 27)⟩]) (.ret)))))⟩
def K_laws_szStringS : Keeps := [([0, 1, 5], [(1, [1]), (0, [4])])]
theorem r_laws_szStringS : resolveF Try.prog Try.f155 K_laws_szStringS = some F_laws_szStringS := by kernel_rfl
noncomputable def X_laws_szStringS : Ctx := fun _ => none
theorem co_laws_szStringS : CtxOk Try.prog X_laws_szStringS := CtxOk.nil
theorem cx_laws_szStringS : True := trivial
noncomputable def S_laws_szStringS : ByV := ⟨none, false, semF X_laws_szStringS F_laws_szStringS none false⟩
noncomputable def G_laws_szStringS : CK := .byv S_laws_szStringS
theorem sg_laws_szStringS (args : List AV) : S_laws_szStringS.sem args = semF X_laws_szStringS F_laws_szStringS none false args := rfl
theorem cl_laws_szStringS (args : List AV) (hp : Hp) : callS G_laws_szStringS args hp = byvS S_laws_szStringS args hp := callS_byv rfl rfl args hp
theorem ok_laws_szStringS : InlOk Try.prog 155 (callS G_laws_szStringS) := byv_none co_laws_szStringS Try.func155 r_laws_szStringS rfl (fun _ _ h => h)
/- 241 laws_szEntry calls []  -/
def F_laws_szEntry : RF := ⟨20, 2, [.t 4],
  .seq (.reg [⟨some 2, none, .box (.t 0)⟩, ⟨some 4, none, .mv (.c (.int .i64 0))⟩]) (.seq (.reg [⟨some 5, none, .mv (.t 1)⟩, ⟨some 6, none, .fa 0 (.t 2)⟩, ⟨some 7, none, .ld 1 false (.t 6)⟩, ⟨some 8, none, .len true (.t 7)⟩, ⟨some 9, none, .bin .sub (.t 5) (.t 8)⟩, ⟨some 1, none, .mv (.t 9)⟩]) (.seq (.seq (.reg [⟨some 10, none, .mv (.t 1)⟩, ⟨some 11, none, .bin .lss (.t 10) (.c (.int .i64 0))⟩]) (.cond (.t 11) (.seq (.reg [⟨some 4, none, .mv (.c (.int .i64 (-1)))⟩]) (.ret)) (.skip))) (.seq (.reg [⟨some 12, none, .mv (.t 1)⟩, ⟨some 13, none, .fa 1 (.t 2)⟩, ⟨some 14, none, .ld 1 false (.t 13)⟩, ⟨some 15, none, .len true (.t 14)⟩, ⟨some 16, none, .bin .sub (.t 12) (.t 15)⟩, ⟨some 1, none, .mv (.t 16)⟩]) (.seq (.seq (.reg [⟨some 17, none, .mv (.t 1)⟩, ⟨some 18, none, .bin .lss (.t 17) (.c (.int .i64 0))⟩]) (.cond (.t 18) (.seq (.reg [⟨some 4, none, .mv (.c (.int .i64 (-1)))⟩]) (.ret)) (.skip))) (.seq (.reg [⟨some 19, none, .mv (.t 1)⟩, ⟨some 4, none, .mv (.t 19)⟩]) (.ret))))))⟩
def K_laws_szEntry : Keeps := []
theorem r_laws_szEntry : resolveF Try.prog Try.f241 K_laws_szEntry = some F_laws_szEntry := by kernel_rfl
noncomputable def X_laws_szEntry : Ctx := fun _ => none
theorem co_laws_szEntry : CtxOk Try.prog X_laws_szEntry := CtxOk.nil
theorem cx_laws_szEntry : True := trivial
noncomputable def S_laws_szEntry : ByV := ⟨none, false, semF X_laws_szEntry F_laws_szEntry none false⟩
noncomputable def G_laws_szEntry : CK := .byv S_laws_szEntry
theorem sg_laws_szEntry (args : List AV) : S_laws_szEntry.sem args = semF X_laws_szEntry F_laws_szEntry none false args := rfl
theorem cl_laws_szEntry (args : List AV) (hp : Hp) : callS G_laws_szEntry args hp = byvS S_laws_szEntry args hp := callS_byv rfl rfl args hp
theorem ok_laws_szEntry : InlOk Try.prog 241 (callS G_laws_szEntry) := byv_none co_laws_szEntry Try.func241 r_laws_szEntry rfl (fun _ _ h => h)
/- 221 laws_szEntryS calls [laws_szEntry]  -/
def B0_laws_szEntryS : RC :=
  .seq (.seq (.reg [⟨some 12, none, .mv (.t 5)⟩, ⟨some 13, none, .mv (.t 0)⟩, ⟨some 14, none, .len false (.t 13)⟩, ⟨some 15, none, .bin .lss (.t 12) (.t 14)⟩]) (.cond (.t 15) (.skip) (.exit 0))) (.seq (.block 1 (.seq (.reg [⟨some 18, none, .mv (.t 0)⟩, ⟨some 19, none, .mv (.t 5)⟩, ⟨some 20, none, .ia 3 (.t 18) (.t 19)⟩, ⟨some 21, none, .ld 3 true (.t 20)⟩, ⟨some 22, none, .mv (.t 1)⟩, ⟨some 23, none, .call 241 [(.t 21), (.t 22)]⟩, ⟨some 1, none, .mv (.t 23)⟩]) (.seq (.reg [⟨some 24, none, .mv (.t 1)⟩, ⟨some 25, none, .bin .lss (.t 24) (.c (.int .i64 0))⟩]) (.cond (.t 25) (.seq (.reg [⟨some 4, none, .mv (.c (.int .i64 (-1)))⟩]) (.ret)) (.skip))))) (.reg [⟨some 16, none, .mv (.t 5)⟩, ⟨some 17, none, .bin .add (.t 16) (.c (.int .i64 1))⟩, ⟨some 5, none, .mv (.t 17)⟩]))
def F_laws_szEntryS : RF := ⟨27, 2, [.t 4],
  .seq (.reg [⟨some 4, none, .mv (.c (.int .i64 0))⟩]) (.seq (.reg [⟨some 6, none, .mv (.t 1)⟩, ⟨some 7, none, .mv (.t 0)⟩, ⟨some 8, none, .len false (.t 7)⟩, ⟨some 9, none, .bin .sub (.t 6) (.t 8)⟩, ⟨some 1, none, .mv (.t 9)⟩]) (.seq (.seq (.reg [⟨some 10, none, .mv (.t 1)⟩, ⟨some 11, none, .bin .lss (.t 10) (.c (.int .i64 0))⟩]) (.cond (.t 11) (.seq (.reg [⟨some 4, none, .mv (.c (.int .i64 (-1)))⟩]) (.ret)) (.skip))) (.seq (.seq (.reg [⟨some 5, none, .mv (.c (.int .i64 0))⟩]) (.block 0 (.loop [0, 1, 5] [(1, [1]), (0, [4])] B0_laws_szEntryS))) (.seq (.reg [⟨some 26, none, .mv (.t 1)⟩, ⟨some 4, none, .mv (.t 26)⟩]) (.ret)))))⟩
def K_laws_szEntryS : Keeps := [([0, 1, 5], [(1, [1]), (0, [4])])]
theorem r_laws_szEntryS : resolveF Try.prog Try.f221 K_laws_szEntryS = some F_laws_szEntryS := by kernel_rfl
noncomputable def X_laws_szEntryS : Ctx := Ctx.cons 241 G_laws_szEntry (fun _ => none)
theorem co_laws_szEntryS : CtxOk Try.prog X_laws_szEntryS := CtxOk.cons (CtxOk.nil) ok_laws_szEntry
theorem cx_laws_szEntryS : ((∀ args hp, callX X_laws_szEntryS 241 args hp = callS G_laws_szEntry args hp) ∧ (trC (X_laws_szEntryS 241) = false)) := ⟨fun _ _ => rfl, rfl⟩
noncomputable def S_laws_szEntryS : ByV := ⟨none, false, semF X_laws_szEntryS F_laws_szEntryS none false⟩
noncomputable def G_laws_szEntryS : CK := .byv S_laws_szEntryS
theorem sg_laws_szEntryS (args : List AV) : S_laws_szEntryS.sem args = semF X_laws_szEntryS F_laws_szEntryS none false args := rfl
theorem cl_laws_szEntryS (args : List AV) (hp : Hp) : callS G_laws_szEntryS args hp = byvS S_laws_szEntryS args hp := callS_byv rfl rfl args hp
theorem ok_laws_szEntryS : InlOk Try.prog 221 (callS G_laws_szEntryS) := byv_none co_laws_szEntryS Try.func221 r_laws_szEntryS rfl (fun _ _ h => h)
/- 173 laws_szMonitor calls [laws_szStringS, laws_szEntryS]  -/
def F_laws_szMonitor : RF := ⟨31, 2, [.t 4],
  .seq (.reg [⟨some 2, none, .box (.t 0)⟩, ⟨some 4, none, .mv (.c (.int .i64 0))⟩]) (.seq (.reg [⟨some 5, none, .mv (.t 1)⟩, ⟨some 6, none, .fa 0 (.t 2)⟩, ⟨some 7, none, .ld 1 false (.t 6)⟩, ⟨some 8, none, .len true (.t 7)⟩, ⟨some 9, none, .bin .sub (.t 5) (.t 8)⟩, ⟨some 1, none, .mv (.t 9)⟩]) (.seq (.seq (.reg [⟨some 10, none, .mv (.t 1)⟩, ⟨some 11, none, .bin .lss (.t 10) (.c (.int .i64 0))⟩]) (.cond (.t 11) (.seq (.reg [⟨some 4, none, .mv (.c (.int .i64 (-1)))⟩]) (.ret)) (.skip))) (.seq (.reg [⟨some 12, none, .fa 1 (.t 2)⟩, ⟨some 13, none, .ld 1 false (.t 12)⟩, ⟨some 14, none, .mv (.t 1)⟩, ⟨some 15, none, .call 155 [(.t 13), (.t 14)]⟩, ⟨some 1, none, .mv (.t 15)⟩]) (.seq (.seq (.reg [⟨some 16, none, .mv (.t 1)⟩, ⟨some 17, none, .bin .lss (.t 16) (.c (.int .i64 0))⟩]) (.cond (.t 17) (.seq (.reg [⟨some 4, none, .mv (.c (.int .i64 (-1)))⟩]) (.ret)) (.skip))) (.seq (.reg [⟨some 18, none, .fa 2 (.t 2)⟩, ⟨some 19, none, .ld 1 false (.t 18)⟩, ⟨some 20, none, .mv (.t 1)⟩, ⟨some 21, none, .call 155 [(.t 19), (.t 20)]⟩, ⟨some 1, none, .mv (.t 21)⟩]) (.seq (.seq (.reg [⟨some 22, none, .mv (.t 1)⟩, ⟨some 23, none, .bin .lss (.t 22) (.c (.int .i64 0))⟩]) (.cond (.t 23) (.seq (.reg [⟨some 4, none, .mv (.c (.int .i64 (-1)))⟩]) (.ret)) (.skip))) (.seq (.reg [⟨some 24, none, .fa 3 (.t 2)⟩, ⟨some 25, none, .ld 1 false (.t 24)⟩, ⟨some 26, none, .mv (.t 1)⟩, ⟨some 27, none, .call 221 [(.t 25), (.t 26)]⟩, ⟨some 1, none, .mv (.t 27)⟩]) (.seq (.seq (.reg [⟨some 28, none, .mv (.t 1)⟩, ⟨some 29, none, .bin .lss (.t 28) (.c (.int .i64 0))⟩]) (.cond (.t 29) (.seq (.reg [⟨some 4, none, .mv (.c (.int .i64 (-1)))⟩]) (.ret)) (.skip))) (.seq (.reg [⟨some 30, none, .mv (.t 1)⟩, ⟨some 4, none, .mv (.t 30)⟩]) (.ret))))))))))⟩
def K_laws_szMonitor : Keeps := []
theorem r_laws_szMonitor : resolveF Try.prog Try.f173 K_laws_szMonitor = some F_laws_szMonitor := by kernel_rfl
noncomputable def X_laws_szMonitor : Ctx := Ctx.cons 155 G_laws_szStringS (Ctx.cons 221 G_laws_szEntryS (fun _ => none))
theorem co_laws_szMonitor : CtxOk Try.prog X_laws_szMonitor := CtxOk.cons (CtxOk.cons (CtxOk.nil) ok_laws_szEntryS) ok_laws_szStringS
theorem cx_laws_szMonitor : ((∀ args hp, callX X_laws_szMonitor 155 args hp = callS G_laws_szStringS args hp) ∧ (trC (X_laws_szMonitor 155) = false)) ∧ ((∀ args hp, callX X_laws_szMonitor 221 args hp = callS G_laws_szEntryS args hp) ∧ (trC (X_laws_szMonitor 221) = false)) := ⟨⟨fun _ _ => rfl, rfl⟩, ⟨fun _ _ => rfl, rfl⟩⟩
noncomputable def S_laws_szMonitor : ByV := ⟨none, false, semF X_laws_szMonitor F_laws_szMonitor none false⟩
noncomputable def G_laws_szMonitor : CK := .byv S_laws_szMonitor
theorem sg_laws_szMonitor (args : List AV) : S_laws_szMonitor.sem args = semF X_laws_szMonitor F_laws_szMonitor none false args := rfl
theorem cl_laws_szMonitor (args : List AV) (hp : Hp) : callS G_laws_szMonitor args hp = byvS S_laws_szMonitor args hp := callS_byv rfl rfl args hp
theorem ok_laws_szMonitor : InlOk Try.prog 173 (callS G_laws_szMonitor) := byv_none co_laws_szMonitor Try.func173 r_laws_szMonitor rfl (fun _ _ h => h)
/- 90 laws_szMonitorS calls [laws_szMonitor]  -/
def B0_laws_szMonitorS : RC :=
  .seq (.seq (.reg [⟨some 12, none, .mv (.t 5)⟩, ⟨some 13, none, .mv (.t 0)⟩, ⟨some 14, none, .len false (.t 13)⟩, ⟨some 15, none, .bin .lss (.t 12) (.t 14)⟩]) (.cond (.t 15) (.skip) (.exit 0))) (.seq (.block 1 (.seq (.reg [⟨some 18, none, .mv (.t 0)⟩, ⟨some 19, none, .mv (.t 5)⟩, ⟨some 20, none, .ia 4 (.t 18) (.t 19)⟩, ⟨some 21, none, .ld 4 true (.t 20)⟩, ⟨some 22, none, .mv (.t 1)⟩, ⟨some 23, none, .call 173 [(.t 21), (.t 22)]⟩, ⟨some 1, none, .mv (.t 23)⟩]) (.seq (.reg [⟨some 24, none, .mv (.t 1)⟩, ⟨some 25, none, .bin .lss (.t 24) (.c (.int .i64 0))⟩]) (.cond (.t 25) (.seq (.reg [⟨some 4, none, .mv (.c (.int .i64 (-1)))⟩]) (.ret)) (.skip))))) (.reg [⟨some 16, none, .mv (.t 5)⟩, ⟨some 17, none, .bin .add (.t 16) (.c (.int .i64 1))⟩, ⟨some 5, none, .mv (.t 17)⟩]))
def F_laws_szMonitorS : RF := ⟨27, 2, [.t 4],
  .seq (.reg [⟨some 4, none, .mv (.c (.int .i64 0))⟩]) (.seq (.reg [⟨some 6, none, .mv (.t 1)⟩, ⟨some 7, none, .mv (.t 0)⟩, ⟨some 8, none, .len false (.t 7)⟩, ⟨some 9, none, .bin .sub (.t 6) (.t 8)⟩, ⟨some 1, none, .mv (.t 9)⟩]) (.seq (.seq (.reg [⟨some 10, none, .mv (.t 1)⟩, ⟨some 11, none, .bin .lss (.t 10) (.c (.int .i64 0))⟩]) (.cond (.t 11) (.seq (.reg [⟨some 4, none, .mv (.c (.int .i64 (-1)))⟩]) (.ret)) (.skip))) (.seq (.seq (.reg [⟨some 5, none, .mv (.c (.int .i64 0))⟩]) (.block 0 (.loop [0, 1, 5] [(1, [1]), (0, [4])] B0_laws_szMonitorS))) (.seq (.reg [⟨some 26, none, .mv (.t 1)⟩, ⟨some 4, none, .mv (.t 26)⟩]) (.ret)))))⟩
def K_laws_szMonitorS : Keeps := [([0, 1, 5], [(1, [1]), (0, [4])])]
theorem r_laws_szMonitorS : resolveF Try.prog Try.f90 K_laws_szMonitorS = some F_laws_szMonitorS := by kernel_rfl
noncomputable def X_laws_szMonitorS : Ctx := Ctx.cons 173 G_laws_szMonitor (fun _ => none)
theorem co_laws_szMonitorS : CtxOk Try.prog X_laws_szMonitorS := CtxOk.cons (CtxOk.nil) ok_laws_szMonitor
theorem cx_laws_szMonitorS : ((∀ args hp, callX X_laws_szMonitorS 173 args hp = callS G_laws_szMonitor args hp) ∧ (trC (X_laws_szMonitorS 173) = false)) := ⟨fun _ _ => rfl, rfl⟩
noncomputable def S_laws_szMonitorS : ByV := ⟨none, false, semF X_laws_szMonitorS F_laws_szMonitorS none false⟩
noncomputable def G_laws_szMonitorS : CK := .byv S_laws_szMonitorS
theorem sg_laws_szMonitorS (args : List AV) : S_laws_szMonitorS.sem args = semF X_laws_szMonitorS F_laws_szMonitorS none false args := rfl
theorem cl_laws_szMonitorS (args : List AV) (hp : Hp) : callS G_laws_szMonitorS args hp = byvS S_laws_szMonitorS args hp := callS_byv rfl rfl args hp
theorem ok_laws_szMonitorS : InlOk Try.prog 90 (callS G_laws_szMonitorS) := byv_none co_laws_szMonitorS Try.func90 r_laws_szMonitorS rfl (fun _ _ h => h)
/- 174 laws_szProcess calls [laws_szStringS]  -/
def F_laws_szProcess : RF := ⟨25, 2, [.t 4],
  .seq (.reg [⟨some 2, none, .box (.t 0)⟩, ⟨some 4, none, .mv (.c (.int .i64 0))⟩]) (.seq (.reg [⟨some 5, none, .mv (.t 1)⟩, ⟨some 6, none, .fa 0 (.t 2)⟩, ⟨some 7, none, .ld 1 false (.t 6)⟩, ⟨some 8, none, .len true (.t 7)⟩, ⟨some 9, none, .bin .sub (.t 5) (.t 8)⟩, ⟨some 1, none, .mv (.t 9)⟩]) (.seq (.seq (.reg [⟨some 10, none, .mv (.t 1)⟩, ⟨some 11, none, .bin .lss (.t 10) (.c (.int .i64 0))⟩]) (.cond (.t 11) (.seq (.reg [⟨some 4, none, .mv (.c (.int .i64 (-1)))⟩]) (.ret)) (.skip))) (.seq (.reg [⟨some 12, none, .fa 1 (.t 2)⟩, ⟨some 13, none, .ld 1 false (.t 12)⟩, ⟨some 14, none, .mv (.t 1)⟩, ⟨some 15, none, .call 155 [(.t 13), (.t 14)]⟩, ⟨some 1, none, .mv (.t 15)⟩]) (.seq (.seq (.reg [⟨some 16, none, .mv (.t 1)⟩, ⟨some 17, none, .bin .lss (.t 16) (.c (.int .i64 0))⟩]) (.cond (.t 17) (.seq (.reg [⟨some 4, none, .mv (.c (.int .i64 (-1)))⟩]) (.ret)) (.skip))) (.seq (.reg [⟨some 18, none, .fa 2 (.t 2)⟩, ⟨some 19, none, .ld 1 false (.t 18)⟩, ⟨some 20, none, .mv (.t 1)⟩, ⟨some 21, none, .call 155 [(.t 19), (.t 20)]⟩, ⟨some 1, none, .mv (.t 21)⟩]) (.seq (.seq (.reg [⟨some 22, none, .mv (.t 1)⟩, ⟨some 23, none, .bin .lss (.t 22) (.c (.int .i64 0))⟩]) (.cond (.t 23) (.seq (.reg [⟨some 4, none, .mv (.c (.int .i64 (-1)))⟩]) (.ret)) (.skip))) (.seq (.reg [⟨some 24, none, .mv (.t 1)⟩, ⟨some 4, none, .mv (.t 24)⟩]) (.ret))))))))⟩
def K_laws_szProcess : Keeps := []
theorem r_laws_szProcess : resolveF Try.prog Try.f174 K_laws_szProcess = some F_laws_szProcess := by kernel_rfl
noncomputable def X_laws_szProcess : Ctx := Ctx.cons 155 G_laws_szStringS (fun _ => none)
theorem co_laws_szProcess : CtxOk Try.prog X_laws_szProcess := CtxOk.cons (CtxOk.nil) ok_laws_szStringS
theorem cx_laws_szProcess : ((∀ args hp, callX X_laws_szProcess 155 args hp = callS G_laws_szStringS args hp) ∧ (trC (X_laws_szProcess 155) = false)) := ⟨fun _ _ => rfl, rfl⟩
noncomputable def S_laws_szProcess : ByV := ⟨none, false, semF X_laws_szProcess F_laws_szProcess none false⟩
noncomputable def G_laws_szProcess : CK := .byv S_laws_szProcess
theorem sg_laws_szProcess (args : List AV) : S_laws_szProcess.sem args = semF X_laws_szProcess F_laws_szProcess none false args := rfl
theorem cl_laws_szProcess (args : List AV) (hp : Hp) : callS G_laws_szProcess args hp = byvS S_laws_szProcess args hp := callS_byv rfl rfl args hp
theorem ok_laws_szProcess : InlOk Try.prog 174 (callS G_laws_szProcess) := byv_none co_laws_szProcess Try.func174 r_laws_szProcess rfl (fun _ _ h => h)
/- 91 laws_szProcessS calls [laws_szProcess]  -/
def B0_laws_szProcessS : RC :=
  .seq (.seq (.reg [⟨some 12, none, .mv (.t 5)⟩, ⟨some 13, none, .mv (.t 0)⟩, ⟨some 14, none, .len false (.t 13)⟩, ⟨some 15, none, .bin .lss (.t 12) (.t 14)⟩]) (.cond (.t 15) (.skip) (.exit 0))) (.seq (.block 1 (.seq (.reg [⟨some 18, none, .mv (.t 0)⟩, ⟨some 19, none, .mv (.t 5)⟩, ⟨some 20, none, .ia 4 (.t 18) (.t 19)⟩, ⟨some 21, none, .ld 4 true (.t 20)⟩, ⟨some 22, none, .mv (.t 1)⟩, ⟨some 23, none, .call 174 [(.t 21), (.t 22)]⟩, ⟨some 1, none, .mv (.t 23)⟩]) (.seq (.reg [⟨some 24, none, .mv (.t 1)⟩, ⟨some 25, none, .bin .lss (.t 24) (.c (.int .i64 0))⟩]) (.cond (.t 25) (.seq (.reg [⟨some 4, none, .mv (.c (.int .i64 (-1)))⟩]) (.ret)) (.skip))))) (.reg [⟨some 16, none, .mv (.t 5)⟩, ⟨some 17, none, .bin .add (.t 16) (.c (.int .i64 1))⟩, ⟨some 5, none, .mv (.t 17)⟩]))
def F_laws_szProcessS : RF := ⟨27, 2, [.t 4],
  .seq (.reg [⟨some 4, none, .mv (.c (.int .i64 0))⟩]) (.seq (.reg [⟨some 6, none, .mv (.t 1)⟩, ⟨some 7, none, .mv (.t 0)⟩, ⟨some 8, none, .len false (.t 7)⟩, ⟨some 9, none, .bin .sub (.t 6) (.t 8)⟩, ⟨some 1, none, .mv (.t 9)⟩]) (.seq (.seq (.reg [⟨some 10, none, .mv (.t 1)⟩, ⟨some 11, none, .bin .lss (.t 10) (.c (.int .i64 0))⟩]) (.cond (.t 11) (.seq (.reg [⟨some 4, none, .mv (.c (.int .i64 (-1)))⟩]) (.ret)) (.skip))) (.seq (.seq (.reg [⟨some 5, none, .mv (.c (.int .i64 0))⟩]) (.block 0 (.loop [0, 1, 5] [(1, [1]), (0, [4])] B0_laws_szProcessS))) (.seq (.reg [⟨some 26, none, .mv (.t 1)⟩, ⟨some 4, none, .mv (.t 26)⟩]) (.ret)))))⟩
def K_laws_szProcessS : Keeps := [([0, 1, 5], [(1, [1]), (0, [4])])]
theorem r_laws_szProcessS : resolveF Try.prog Try.f91 K_laws_szProcessS = some F_laws_szProcessS := by kernel_rfl
noncomputable def X_laws_szProcessS : Ctx := Ctx.cons 174 G_laws_szProcess (fun _ => none)
theorem co_laws_szProcessS : CtxOk Try.prog X_laws_szProcessS := CtxOk.cons (CtxOk.nil) ok_laws_szProcess
theorem cx_laws_szProcessS : ((∀ args hp, callX X_laws_szProcessS 174 args hp = callS G_laws_szProcess args hp) ∧ (trC (X_laws_szProcessS 174) = false)) := ⟨fun _ _ => rfl, rfl⟩
noncomputable def S_laws_szProcessS : ByV := ⟨none, false, semF X_laws_szProcessS F_laws_szProcessS none false⟩
noncomputable def G_laws_szProcessS : CK := .byv S_laws_szProcessS
theorem sg_laws_szProcessS (args : List AV) : S_laws_szProcessS.sem args = semF X_laws_szProcessS F_laws_szProcessS none false args := rfl
theorem cl_laws_szProcessS (args : List AV) (hp : Hp) : callS G_laws_szProcessS args hp = byvS S_laws_szProcessS args hp := callS_byv rfl rfl args hp
theorem ok_laws_szProcessS : InlOk Try.prog 91 (callS G_laws_szProcessS) := byv_none co_laws_szProcessS Try.func91 r_laws_szProcessS rfl (fun _ _ h => h)
/- 21 laws_szProgram calls [laws_szNodeS, laws_szMonitorS, laws_szProcessS]  -/
def F_laws_szProgram : RF := ⟨24, 2, [.t 4],
  .seq (.reg [⟨some 2, none, .box (.t 0)⟩, ⟨some 4, none, .mv (.c (.int .i64 0))⟩]) (.seq (.reg [⟨some 5, none, .fa 0 (.t 2)⟩, ⟨some 6, none, .ld 1 false (.t 5)⟩, ⟨some 7, none, .mv (.t 1)⟩, ⟨some 8, none, .call 89 [(.t 6), (.t 7)]⟩, ⟨some 1, none, .mv (.t 8)⟩]) (.seq (.seq (.reg [⟨some 9, none, .mv (.t 1)⟩, ⟨some 10, none, .bin .lss (.t 9) (.c (.int .i64 0))⟩]) (.cond (.t 10) (.seq (.reg [⟨some 4, none, .mv (.c (.int .i64 (-1)))⟩]) (.ret)) (.skip))) (.seq (.reg [⟨some 11, none, .fa 1 (.t 2)⟩, ⟨some 12, none, .ld 1 false (.t 11)⟩, ⟨some 13, none, .mv (.t 1)⟩, ⟨some 14, none, .call 90 [(.t 12), (.t 13)]⟩, ⟨some 1, none, .mv (.t 14)⟩]) (.seq (.seq (.reg [⟨some 15, none, .mv (.t 1)⟩, ⟨some 16, none, .bin .lss (.t 15) (.c (.int .i64 0))⟩]) (.cond (.t 16) (.seq (.reg [⟨some 4, none, .mv (.c (.int .i64 (-1)))⟩]) (.ret)) (.skip))) (.seq (.reg [⟨some 17, none, .fa 2 (.t 2)⟩, ⟨some 18, none, .ld 1 false (.t 17)⟩, ⟨some 19, none, .mv (.t 1)⟩, ⟨some 20, none, .call 91 [(.t 18), (.t 19)]⟩, ⟨some 1, none, .mv (.t 20)⟩]) (.seq (.seq (.reg [⟨some 21, none, .mv (.t 1)⟩, ⟨some 22, none, .bin .lss (.t 21) (.c (.int .i64 0))⟩]) (.cond (.t 22) (.seq (.reg [⟨some 4, none, .mv (.c (.int .i64 (-1)))⟩]) (.ret)) (.skip))) (.seq (.reg [⟨some 23, none, .mv (.t 1)⟩, ⟨some 4, none, .mv (.t 23)⟩]) (.ret))))))))⟩
def K_laws_szProgram : Keeps := []
theorem r_laws_szProgram : resolveF Try.prog Try.f21 K_laws_szProgram = some F_laws_szProgram := by kernel_rfl
noncomputable def X_laws_szProgram : Ctx := Ctx.cons 89 G_laws_szNodeS (Ctx.cons 90 G_laws_szMonitorS (Ctx.cons 91 G_laws_szProcessS (fun _ => none)))
theorem co_laws_szProgram : CtxOk Try.prog X_laws_szProgram := CtxOk.cons (CtxOk.cons (CtxOk.cons (CtxOk.nil) ok_laws_szProcessS) ok_laws_szMonitorS) ok_laws_szNodeS
theorem cx_laws_szProgram : ((∀ args hp, callX X_laws_szProgram 89 args hp = callS G_laws_szNodeS args hp) ∧ (trC (X_laws_szProgram 89) = false)) ∧ ((∀ args hp, callX X_laws_szProgram 90 args hp = callS G_laws_szMonitorS args hp) ∧ (trC (X_laws_szProgram 90) = false)) ∧ ((∀ args hp, callX X_laws_szProgram 91 args hp = callS G_laws_szProcessS args hp) ∧ (trC (X_laws_szProgram 91) = false)) := ⟨⟨fun _ _ => rfl, rfl⟩, ⟨fun _ _ => rfl, rfl⟩, ⟨fun _ _ => rfl, rfl⟩⟩
noncomputable def S_laws_szProgram : ByV := ⟨none, false, semF X_laws_szProgram F_laws_szProgram none false⟩
noncomputable def G_laws_szProgram : CK := .byv S_laws_szProgram
theorem sg_laws_szProgram (args : List AV) : S_laws_szProgram.sem args = semF X_laws_szProgram F_laws_szProgram none false args := rfl
theorem cl_laws_szProgram (args : List AV) (hp : Hp) : callS G_laws_szProgram args hp = byvS S_laws_szProgram args hp := callS_byv rfl rfl args hp
theorem ok_laws_szProgram : InlOk Try.prog 21 (callS G_laws_szProgram) := byv_none co_laws_szProgram Try.func21 r_laws_szProgram rfl (fun _ _ h => h)
/- 120 laws_toIntS calls []  -/
def B0_laws_toIntS : RC :=
  .seq (.seq (.reg [⟨some 8, none, .mv (.t 4)⟩, ⟨some 9, none, .mv (.t 0)⟩, ⟨some 10, none, .len false (.t 9)⟩, ⟨some 11, none, .bin .lss (.t 8) (.t 10)⟩]) (.cond (.t 11) (.skip) (.exit 0))) (.seq (.block 1 (.reg [⟨some 14, none, .mv (.t 3)⟩, ⟨some 15, none, .mv (.t 4)⟩, ⟨some 16, none, .mv (.t 0)⟩, ⟨some 17, none, .mv (.t 4)⟩, ⟨some 18, none, .ia 1 (.t 16) (.t 17)⟩, ⟨some 19, none, .ld 1 false (.t 18)⟩, ⟨some 20, none, .ia 1 (.t 14) (.t 15)⟩, ⟨none, none, .st 1 (.t 20) (.t 19)⟩])) (.reg [⟨some 12, none, .mv (.t 4)⟩, ⟨some 13, none, .bin .add (.t 12) (.c (.int .i64 1))⟩, ⟨some 4, none, .mv (.t 13)⟩]))
def F_laws_toIntS : RF := ⟨22, 1, [.t 2],
  .seq (.reg [⟨some 2, none, .mv (.c (.nil 1))⟩]) (.seq (.reg [⟨some 5, none, .mv (.t 0)⟩, ⟨some 6, none, .len false (.t 5)⟩, ⟨some 7, none, .mk 1 [(.int .i64 0)] 8 (.t 6) (.t 6)⟩, ⟨some 3, none, .mv (.t 7)⟩]) (.seq (.seq (.reg [⟨some 4, none, .mv (.c (.int .i64 0))⟩]) (.block 0 (.loop [0, 3, 4] [(1, [3])] B0_laws_toIntS))) (.seq (.reg [⟨some 21, none, .mv (.t 3)⟩, ⟨some 2, none, .mv (.t 21)⟩]) (.ret))))⟩
def K_laws_toIntS : Keeps := [([0, 3, 4], [(1, [3])])]
theorem r_laws_toIntS : resolveF Try.prog Try.f120 K_laws_toIntS = some F_laws_toIntS := by kernel_rfl
noncomputable def X_laws_toIntS : Ctx := fun _ => none
theorem co_laws_toIntS : CtxOk Try.prog X_laws_toIntS := CtxOk.nil
theorem cx_laws_toIntS : True := trivial
noncomputable def S_laws_toIntS : ByV := ⟨none, false, semF X_laws_toIntS F_laws_toIntS none false⟩
noncomputable def G_laws_toIntS : CK := .byv S_laws_toIntS
theorem sg_laws_toIntS (args : List AV) : S_laws_toIntS.sem args = semF X_laws_toIntS F_laws_toIntS none false args := rfl
theorem cl_laws_toIntS (args : List AV) (hp : Hp) : callS G_laws_toIntS args hp = byvS S_laws_toIntS args hp := callS_byv rfl rfl args hp
theorem ok_laws_toIntS : InlOk Try.prog 120 (callS G_laws_toIntS) := byv_none co_laws_toIntS Try.func120 r_laws_toIntS rfl (fun _ _ h => h)
/- 176 laws_toNode calls [laws_toIntS]  -/
def F_laws_toNode : RF := ⟨24, 1, [.cell 2 6 true],
  .seq (.reg [⟨some 1, none, .box (.t 0)⟩, ⟨some 2, none, .new [(.int .i64 0), (.int .i64 0), (.str ⟨#[]⟩), (.str ⟨#[]⟩), (.str ⟨#[]⟩), (.nil 1)]⟩]) (.seq (.reg [⟨some 3, none, .new [(.int .i64 0), (.int .i64 0), (.str ⟨#[]⟩), (.str ⟨#[]⟩), (.str ⟨#[]⟩), (.nil 1)]⟩]) (.seq (.reg [⟨some 4, none, .fa 0 (.t 1)⟩, ⟨some 5, none, .ld 1 false (.t 4)⟩, ⟨some 6, none, .fa 0 (.t 3)⟩, ⟨none, none, .st 1 (.t 6) (.t 5)⟩]) (.seq (.reg [⟨some 7, none, .fa 1 (.t 1)⟩, ⟨some 8, none, .ld 1 false (.t 7)⟩, ⟨some 9, none, .fa 1 (.t 3)⟩, ⟨none, none, .st 1 (.t 9) (.t 8)⟩]) (.seq (.reg [⟨some 10, none, .fa 2 (.t 1)⟩, ⟨some 11, none, .ld 1 false (.t 10)⟩, ⟨some 12, none, .fa 2 (.t 3)⟩, ⟨none, none, .st 1 (.t 12) (.t 11)⟩]) (.seq (.reg [⟨some 13, none, .fa 3 (.t 1)⟩, ⟨some 14, none, .ld 1 false (.t 13)⟩, ⟨some 15, none, .fa 3 (.t 3)⟩, ⟨none, none, .st 1 (.t 15) (.t 14)⟩]) (.seq (.reg [⟨some 16, none, .fa 4 (.t 1)⟩, ⟨some 17, none, .ld 1 false (.t 16)⟩, ⟨some 18, none, .fa 4 (.t 3)⟩, ⟨none, none, .st 1 (.t 18) (.t 17)⟩]) (.seq (.reg [⟨some 19, none, .fa 5 (.t 1)⟩, ⟨some 20, none, .ld 1 false (.t 19)⟩, ⟨some 21, none, .call 120 [(.t 20)]⟩, ⟨some 22, none, .fa 5 (.t 3)⟩, ⟨none, none, .st 1 (.t 22) (.t 21)⟩]) (.seq (.reg [⟨some 23, none, .ld 6 true (.t 3)⟩, ⟨none, none, .st 6 (.t 2) (.t 23)⟩]) (.ret)))))))))⟩
def K_laws_toNode : Keeps := []
theorem r_laws_toNode : resolveF Try.prog Try.f176 K_laws_toNode = some F_laws_toNode := by kernel_rfl
noncomputable def X_laws_toNode : Ctx := Ctx.cons 120 G_laws_toIntS (fun _ => none)
theorem co_laws_toNode : CtxOk Try.prog X_laws_toNode := CtxOk.cons (CtxOk.nil) ok_laws_toIntS
theorem cx_laws_toNode : ((∀ args hp, callX X_laws_toNode 120 args hp = callS G_laws_toIntS args hp) ∧ (trC (X_laws_toNode 120) = false)) := ⟨fun _ _ => rfl, rfl⟩
noncomputable def S_laws_toNode : ByV := ⟨none, false, semF X_laws_toNode F_laws_toNode none false⟩
noncomputable def G_laws_toNode : CK := .byv S_laws_toNode
theorem sg_laws_toNode (args : List AV) : S_laws_toNode.sem args = semF X_laws_toNode F_laws_toNode none false args := rfl
theorem cl_laws_toNode (args : List AV) (hp : Hp) : callS G_laws_toNode args hp = byvS S_laws_toNode args hp := callS_byv rfl rfl args hp
theorem ok_laws_toNode : InlOk Try.prog 176 (callS G_laws_toNode) := byv_none co_laws_toNode Try.func176 r_laws_toNode rfl (fun _ _ h => h)
/- 93 laws_toNodeS calls [laws_toNode]  -/
def B0_laws_toNodeS : RC :=
  .seq (.seq (.reg [⟨some 8, none, .mv (.t 4)⟩, ⟨some 9, none, .mv (.t 0)⟩, ⟨some 10, none, .len false (.t 9)⟩, ⟨some 11, none, .bin .lss (.t 8) (.t 10)⟩]) (.cond (.t 11) (.skip) (.exit 0))) (.seq (.block 1 (.reg [⟨some 14, none, .mv (.t 3)⟩, ⟨some 15, none, .mv (.t 4)⟩, ⟨some 16, none, .mv (.t 0)⟩, ⟨some 17, none, .mv (.t 4)⟩, ⟨some 18, none, .ia 6 (.t 16) (.t 17)⟩, ⟨some 19, none, .ld 6 true (.t 18)⟩, ⟨some 20, none, .call 176 [(.t 19)]⟩, ⟨some 21, none, .ia 6 (.t 14) (.t 15)⟩, ⟨none, none, .st 6 (.t 21) (.t 20)⟩])) (.reg [⟨some 12, none, .mv (.t 4)⟩, ⟨some 13, none, .bin .add (.t 12) (.c (.int .i64 1))⟩, ⟨some 4, none, .mv (.t 13)⟩]))
def F_laws_toNodeS : RF := ⟨23, 1, [.t 2],
  .seq (.reg [⟨some 2, none, .mv (.c (.nil 6))⟩]) (.seq (.reg [⟨some 5, none, .mv (.t 0)⟩, ⟨some 6, none, .len false (.t 5)⟩, ⟨some 7, none, .mk 6 [(.int .i64 0), (.int .i64 0), (.str ⟨#[]⟩), (.str ⟨#[]⟩), (.str ⟨#[]⟩), (.tree 1 [])] 88 (.t 6) (.t 6)⟩, ⟨some 3, none, .mv (.t 7)⟩]) (.seq (.seq (.reg [⟨some 4, none, .mv (.c (.int .i64 0))⟩]) (.block 0 (.loop [0, 3, 4] [(1, [3])] B0_laws_toNodeS))) (.seq (.reg [⟨some 22, none, .mv (.t 3)⟩, ⟨some 2, none, .mv (.t 22)⟩]) (.ret))))⟩
def K_laws_toNodeS : Keeps := [([0, 3, 4], [(1, [3])])]
theorem r_laws_toNodeS : resolveF Try.prog Try.f93 K_laws_toNodeS = some F_laws_toNodeS := by kernel_rfl
noncomputable def X_laws_toNodeS : Ctx := Ctx.cons 176 G_laws_toNode (fun _ => none)
theorem co_laws_toNodeS : CtxOk Try.prog X_laws_toNodeS := CtxOk.cons (CtxOk.nil) ok_laws_toNode
theorem cx_laws_toNodeS : ((∀ args hp, callX X_laws_toNodeS 176 args hp = callS G_laws_toNode args hp) ∧ (trC (X_laws_toNodeS 176) = false)) := ⟨fun _ _ => rfl, rfl⟩
noncomputable def S_laws_toNodeS : ByV := ⟨none, false, semF X_laws_toNodeS F_laws_toNodeS none false⟩
noncomputable def G_laws_toNodeS : CK := .byv S_laws_toNodeS
theorem sg_laws_toNodeS (args : List AV) : S_laws_toNodeS.sem args = semF X_laws_toNodeS F_laws_toNodeS none false args := rfl
theorem cl_laws_toNodeS (args : List AV) (hp : Hp) : callS G_laws_toNodeS args hp = byvS S_laws_toNodeS args hp := callS_byv rfl rfl args hp
theorem ok_laws_toNodeS : InlOk Try.prog 93 (callS G_laws_toNodeS) := byv_none co_laws_toNodeS Try.func93 r_laws_toNodeS rfl (fun _ _ h => h)
/- 157 laws_toStringS calls []  -/
def B0_laws_toStringS : RC :=
  .seq (.seq (.reg [⟨some 8, none, .mv (.t 4)⟩, ⟨some 9, none, .mv (.t 0)⟩, ⟨some 10, none, .len false (.t 9)⟩, ⟨some 11, none, .bin .lss (.t 8) (.t 10)⟩]) (.cond (.t 11) (.skip) (.exit 0))) (.seq (.block 1 (.reg [⟨some 14, none, .mv (.t 3)⟩, ⟨some 15, none, .mv (.t 4)⟩, ⟨some 16, none, .mv (.t 0)⟩, ⟨some 17, none, .mv (.t 4)⟩, ⟨some 18, none, .ia 1 (.t 16) (.t 17)⟩, ⟨some 19, none, .ld 1 false (.t 18)⟩, ⟨some 20, none, .ia 1 (.t 14) (.t 15)⟩, ⟨none, none, .st 1 (.t 20) (.t 19)⟩])) (.reg [⟨some 12, none, .mv (.t 4)⟩, ⟨some 13, none, .bin .add (.t 12) (.c (.int .i64 1))⟩, ⟨some 4, none, .mv (.t 13)⟩]))
def F_laws_toStringS : RF := ⟨22, 1, [.t 2],
  .seq (.reg [⟨some 2, none, .mv (.c (.nil 1))⟩]) (.seq (.reg [⟨some 5, none, .mv (.t 0)⟩, ⟨some 6, none, .len false (.t 5)⟩, ⟨some 7, none, .mk 1 [(.str ⟨#[]⟩)] 16 (.t 6) (.t 6)⟩, ⟨some 3, none, .mv (.t 7)⟩]) (.seq (.seq (.reg [⟨some 4, none, .mv (.c (.int .i64 0))⟩]) (.block 0 (.loop [0, 3, 4] [(1, [3])] B0_laws_toStringS))) (.seq (.reg [⟨some 21, none, .mv (.t 3)⟩, ⟨some 2, none, .mv (.t 21)⟩]) (.ret))))⟩
def K_laws_toStringS : Keeps := [([0, 3, 4], [(1, [3])])]
theorem r_laws_toStringS : resolveF Try.prog Try.f157 K_laws_toStringS = some F_laws_toStringS := by kernel_rfl
noncomputable def X_laws_toStringS : Ctx := fun _ => none
theorem co_laws_toStringS : CtxOk Try.prog X_laws_toStringS := CtxOk.nil
theorem cx_laws_toStringS : True := trivial
noncomputable def S_laws_toStringS : ByV := ⟨none, false, semF X_laws_toStringS F_laws_toStringS none false⟩
noncomputable def G_laws_toStringS : CK := .byv S_laws_toStringS
theorem sg_laws_toStringS (args : List AV) : S_laws_toStringS.sem args = semF X_laws_toStringS F_laws_toStringS none false args := rfl
theorem cl_laws_toStringS (args : List AV) (hp : Hp) : callS G_laws_toStringS args hp = byvS S_laws_toStringS args hp := callS_byv rfl rfl args hp
theorem ok_laws_toStringS : InlOk Try.prog 157 (callS G_laws_toStringS) := byv_none co_laws_toStringS Try.func157 r_laws_toStringS rfl (fun _ _ h => h)
/- 242 laws_toEntry calls []  -/
def F_laws_toEntry : RF := ⟨14, 1, [.cell 2 3 true],
  .seq (.reg [⟨some 1, none, .box (.t 0)⟩, ⟨some 2, none, .new [(.str ⟨#[]⟩), (.str ⟨#[]⟩), (.int .i64 0)]⟩]) (.seq (.reg [⟨some 3, none, .new [(.str ⟨#[]⟩), (.str ⟨#[]⟩), (.int .i64 0)]⟩]) (.seq (.reg [⟨some 4, none, .fa 0 (.t 1)⟩, ⟨some 5, none, .ld 1 false (.t 4)⟩, ⟨some 6, none, .fa 0 (.t 3)⟩, ⟨none, none, .st 1 (.t 6) (.t 5)⟩]) (.seq (.reg [⟨some 7, none, .fa 1 (.t 1)⟩, ⟨some 8, none, .ld 1 false (.t 7)⟩, ⟨some 9, none, .fa 1 (.t 3)⟩, ⟨none, none, .st 1 (.t 9) (.t 8)⟩]) (.seq (.reg [⟨some 10, none, .fa 2 (.t 1)⟩, ⟨some 11, none, .ld 1 false (.t 10)⟩, ⟨some 12, none, .fa 2 (.t 3)⟩, ⟨none, none, .st 1 (.t 12) (.t 11)⟩]) (.seq (.reg [⟨some 13, none, .ld 3 true (.t 3)⟩, ⟨none, none, .st 3 (.t 2) (.t 13)⟩]) (.ret))))))⟩
def K_laws_toEntry : Keeps := []
theorem r_laws_toEntry : resolveF Try.prog Try.f242 K_laws_toEntry = some F_laws_toEntry := by kernel_rfl
noncomputable def X_laws_toEntry : Ctx := fun _ => none
theorem co_laws_toEntry : CtxOk Try.prog X_laws_toEntry := CtxOk.nil
theorem cx_laws_toEntry : True := trivial
noncomputable def S_laws_toEntry : ByV := ⟨none, false, semF X_laws_toEntry F_laws_toEntry none false⟩
noncomputable def G_laws_toEntry : CK := .byv S_laws_toEntry
theorem sg_laws_toEntry (args : List AV) : S_laws_toEntry.sem args = semF X_laws_toEntry F_laws_toEntry none false args := rfl
theorem cl_laws_toEntry (args : List AV) (hp : Hp) : callS G_laws_toEntry args hp = byvS S_laws_toEntry args hp := callS_byv rfl rfl args hp
theorem ok_laws_toEntry : InlOk Try.prog 242 (callS G_laws_toEntry) := byv_none co_laws_toEntry Try.func242 r_laws_toEntry rfl (fun _ _ h => h)
/- 222 laws_toEntryS calls [laws_toEntry]  -/
def B0_laws_toEntryS : RC :=
  .seq (.seq (.reg [⟨some 8, none, .mv (.t 4)⟩, ⟨some 9, none, .mv (.t 0)⟩, ⟨some 10, none, .len false (.t 9)⟩, ⟨some 11, none, .bin .lss (.t 8) (.t 10)⟩]) (.cond (.t 11) (.skip) (.exit 0))) (.seq (.block 1 (.reg [⟨some 14, none, .mv (.t 3)⟩, ⟨some 15, none, .mv (.t 4)⟩, ⟨some 16, none, .mv (.t 0)⟩, ⟨some 17, none, .mv (.t 4)⟩, ⟨some 18, none, .ia 3 (.t 16) (.t 17)⟩, ⟨some 19, none, .ld 3 true (.t 18)⟩, ⟨some 20, none, .call 242 [(.t 19)]⟩, ⟨some 21, none, .ia 3 (.t 14) (.t 15)⟩, ⟨none, none, .st 3 (.t 21) (.t 20)⟩])) (.reg [⟨some 12, none, .mv (.t 4)⟩, ⟨some 13, none, .bin .add (.t 12) (.c (.int .i64 1))⟩, ⟨some 4, none, .mv (.t 13)⟩]))
def F_laws_toEntryS : RF := ⟨23, 1, [.t 2],
  .seq (.reg [⟨some 2, none, .mv (.c (.nil 3))⟩]) (.seq (.reg [⟨some 5, none, .mv (.t 0)⟩, ⟨some 6, none, .len false (.t 5)⟩, ⟨some 7, none, .mk 3 [(.str ⟨#[]⟩), (.str ⟨#[]⟩), (.int .i64 0)] 40 (.t 6) (.t 6)⟩, ⟨some 3, none, .mv (.t 7)⟩]) (.seq (.seq (.reg [⟨some 4, none, .mv (.c (.int .i64 0))⟩]) (.block 0 (.loop [0, 3, 4] [(1, [3])] B0_laws_toEntryS))) (.seq (.reg [⟨some 22, none, .mv (.t 3)⟩, ⟨some 2, none, .mv (.t 22)⟩]) (.ret))))⟩
def K_laws_toEntryS : Keeps := [([0, 3, 4], [(1, [3])])]
theorem r_laws_toEntryS : resolveF Try.prog Try.f222 K_laws_toEntryS = some F_laws_toEntryS := by kernel_rfl
noncomputable def X_laws_toEntryS : Ctx := Ctx.cons 242 G_laws_toEntry (fun _ => none)
theorem co_laws_toEntryS : CtxOk Try.prog X_laws_toEntryS := CtxOk.cons (CtxOk.nil) ok_laws_toEntry
theorem cx_laws_toEntryS : ((∀ args hp, callX X_laws_toEntryS 242 args hp = callS G_laws_toEntry args hp) ∧ (trC (X_laws_toEntryS 242) = false)) := ⟨fun _ _ => rfl, rfl⟩
noncomputable def S_laws_toEntryS : ByV := ⟨none, false, semF X_laws_toEntryS F_laws_toEntryS none false⟩
noncomputable def G_laws_toEntryS : CK := .byv S_laws_toEntryS
theorem sg_laws_toEntryS (args : List AV) : S_laws_toEntryS.sem args = semF X_laws_toEntryS F_laws_toEntryS none false args := rfl
theorem cl_laws_toEntryS (args : List AV) (hp : Hp) : callS G_laws_toEntryS args hp = byvS S_laws_toEntryS args hp := callS_byv rfl rfl args hp
theorem ok_laws_toEntryS : InlOk Try.prog 222 (callS G_laws_toEntryS) := byv_none co_laws_toEntryS Try.func222 r_laws_toEntryS rfl (fun _ _ h => h)
/- 177 laws_toMonitor calls [laws_toStringS, laws_toEntryS]  -/
def F_laws_toMonitor : RF := ⟨20, 1, [.cell 2 4 true],
  .seq (.reg [⟨some 1, none, .box (.t 0)⟩, ⟨some 2, none, .new [(.str ⟨#[]⟩), (.nil 1), (.nil 1), (.nil 3)]⟩]) (.seq (.reg [⟨some 3, none, .new [(.str ⟨#[]⟩), (.nil 1), (.nil 1), (.nil 3)]⟩]) (.seq (.reg [⟨some 4, none, .fa 0 (.t 1)⟩, ⟨some 5, none, .ld 1 false (.t 4)⟩, ⟨some 6, none, .fa 0 (.t 3)⟩, ⟨none, none, .st 1 (.t 6) (.t 5)⟩]) (.seq (.reg [⟨some 7, none, .fa 1 (.t 1)⟩, ⟨some 8, none, .ld 1 false (.t 7)⟩, ⟨some 9, none, .call 157 [(.t 8)]⟩, ⟨some 10, none, .fa 1 (.t 3)⟩, ⟨none, none, .st 1 (.t 10) (.t 9)⟩]) (.seq (.reg [⟨some 11, none, .fa 2 (.t 1)⟩, ⟨some 12, none, .ld 1 false (.t 11)⟩, ⟨some 13, none, .call 157 [(.t 12)]⟩, ⟨some 14, none, .fa 2 (.t 3)⟩, ⟨none, none, .st 1 (.t 14) (.t 13)⟩]) (.seq (.reg [⟨some 15, none, .fa 3 (.t 1)⟩, ⟨some 16, none, .ld 1 false (.t 15)⟩, ⟨some 17, none, .call 222 [(.t 16)]⟩, ⟨some 18, none, .fa 3 (.t 3)⟩, ⟨none, none, .st 1 (.t 18) (.t 17)⟩]) (.seq (.reg [⟨some 19, none, .ld 4 true (.t 3)⟩, ⟨none, none, .st 4 (.t 2) (.t 19)⟩]) (.ret)))))))⟩
def K_laws_toMonitor : Keeps := []
theorem r_laws_toMonitor : resolveF Try.prog Try.f177 K_laws_toMonitor = some F_laws_toMonitor := by kernel_rfl
noncomputable def X_laws_toMonitor : Ctx := Ctx.cons 157 G_laws_toStringS (Ctx.cons 222 G_laws_toEntryS (fun _ => none))
theorem co_laws_toMonitor : CtxOk Try.prog X_laws_toMonitor := CtxOk.cons (CtxOk.cons (CtxOk.nil) ok_laws_toEntryS) ok_laws_toStringS
theorem cx_laws_toMonitor : ((∀ args hp, callX X_laws_toMonitor 157 args hp = callS G_laws_toStringS args hp) ∧ (trC (X_laws_toMonitor 157) = false)) ∧ ((∀ args hp, callX X_laws_toMonitor 222 args hp = callS G_laws_toEntryS args hp) ∧ (trC (X_laws_toMonitor 222) = false)) := ⟨⟨fun _ _ => rfl, rfl⟩, ⟨fun _ _ => rfl, rfl⟩⟩
noncomputable def S_laws_toMonitor : ByV := ⟨none, false, semF X_laws_toMonitor F_laws_toMonitor none false⟩
noncomputable def G_laws_toMonitor : CK := .byv S_laws_toMonitor
theorem sg_laws_toMonitor (args : List AV) : S_laws_toMonitor.sem args = semF X_laws_toMonitor F_laws_toMonitor none false args := rfl
theorem cl_laws_toMonitor (args : List AV) (hp : Hp) : callS G_laws_toMonitor args hp = byvS S_laws_toMonitor args hp := callS_byv rfl rfl args hp
theorem ok_laws_toMonitor : InlOk Try.prog 177 (callS G_laws_toMonitor) := byv_none co_laws_toMonitor Try.func177 r_laws_toMonitor rfl (fun _ _ h => h)
/- 94 laws_toMonitorS calls [laws_toMonitor]  -/
def B0_laws_toMonitorS : RC :=
  .seq (.seq (.reg [⟨some 8, none, .mv (.t 4)⟩, ⟨some 9, none, .mv (.t 0)⟩, ⟨some 10, none, .len false (.t 9)⟩, ⟨some 11, none, .bin .lss (.t 8) (.t 10)⟩]) (.cond (.t 11) (.skip) (.exit 0))) (.seq (.block 1 (.reg [⟨some 14, none, .mv (.t 3)⟩, ⟨some 15, none, .mv (.t 4)⟩, ⟨some 16, none, .mv (.t 0)⟩, ⟨some 17, none, .mv (.t 4)⟩, ⟨some 18, none, .ia 4 (.t 16) (.t 17)⟩, ⟨some 19, none, .ld 4 true (.t 18)⟩, ⟨some 20, none, .call 177 [(.t 19)]⟩, ⟨some 21, none, .ia 4 (.t 14) (.t 15)⟩, ⟨none, none, .st 4 (.t 21) (.t 20)⟩])) (.reg [⟨some 12, none, .mv (.t 4)⟩, ⟨some 13, none, .bin .add (.t 12) (.c (.int .i64 1))⟩, ⟨some 4, none, .mv (.t 13)⟩]))
def F_laws_toMonitorS : RF := ⟨23, 1, [.t 2],
  .seq (.reg [⟨some 2, none, .mv (.c (.nil 4))⟩]) (.seq (.reg [⟨some 5, none, .mv (.t 0)⟩, ⟨some 6, none, .len false (.t 5)⟩, ⟨some 7, none, .mk 4 [(.str ⟨#[]⟩), (.tree 1 []), (.tree 1 []), (.tree 3 [])] 88 (.t 6) (.t 6)⟩, ⟨some 3, none, .mv (.t 7)⟩]) (.seq (.seq (.reg [⟨some 4, none, .mv (.c (.int .i64 0))⟩]) (.block 0 (.loop [0, 3, 4] [(1, [3])] B0_laws_toMonitorS))) (.seq (.reg [⟨some 22, none, .mv (.t 3)⟩, ⟨some 2, none, .mv (.t 22)⟩]) (.ret))))⟩
def K_laws_toMonitorS : Keeps := [([0, 3, 4], [(1, [3])])]
theorem r_laws_toMonitorS : resolveF Try.prog Try.f94 K_laws_toMonitorS = some F_laws_toMonitorS := by kernel_rfl
noncomputable def X_laws_toMonitorS : Ctx := Ctx.cons 177 G_laws_toMonitor (fun _ => none)
theorem co_laws_toMonitorS : CtxOk Try.prog X_laws_toMonitorS := CtxOk.cons (CtxOk.nil) ok_laws_toMonitor
theorem cx_laws_toMonitorS : ((∀ args hp, callX X_laws_toMonitorS 177 args hp = callS G_laws_toMonitor args hp) ∧ (trC (X_laws_toMonitorS 177) = false)) := ⟨fun _ _ => rfl, rfl⟩
noncomputable def S_laws_toMonitorS : ByV := ⟨none, false, semF X_laws_toMonitorS F_laws_toMonitorS none false⟩
noncomputable def G_laws_toMonitorS : CK := .byv S_laws_toMonitorS
theorem sg_laws_toMonitorS (args : List AV) : S_laws_toMonitorS.sem args = semF X_laws_toMonitorS F_laws_toMonitorS none false args := rfl
theorem cl_laws_toMonitorS (args : List AV) (hp : Hp) : callS G_laws_toMonitorS args hp = byvS S_laws_toMonitorS args hp := callS_byv rfl rfl args hp
theorem ok_laws_toMonitorS : InlOk Try.prog 94 (callS G_laws_toMonitorS) := byv_none co_laws_toMonitorS Try.func94 r_laws_toMonitorS rfl (fun _ _ h => h)
/- 178 laws_toProcess calls [laws_toStringS]  -/
def F_laws_toProcess : RF := ⟨19, 1, [.cell 2 4 true],
  .seq (.reg [⟨some 1, none, .box (.t 0)⟩, ⟨some 2, none, .new [(.str ⟨#[]⟩), (.nil 1), (.nil 1), (.int .i64 0)]⟩]) (.seq (.reg [⟨some 3, none, .new [(.str ⟨#[]⟩), (.nil 1), (.nil 1), (.int .i64 0)]⟩]) (.seq (.reg [⟨some 4, none, .fa 0 (.t 1)⟩, ⟨some 5, none, .ld 1 false (.t 4)⟩, ⟨some 6, none, .fa 0 (.t 3)⟩, ⟨none, none, .st 1 (.t 6) (.t 5)⟩]) (.seq (.reg [⟨some 7, none, .fa 1 (.t 1)⟩, ⟨some 8, none, .ld 1 false (.t 7)⟩, ⟨some 9, none, .call 157 [(.t 8)]⟩, ⟨some 10, none, .fa 1 (.t 3)⟩, ⟨none, none, .st 1 (.t 10) (.t 9)⟩]) (.seq (.reg [⟨some 11, none, .fa 2 (.t 1)⟩, ⟨some 12, none, .ld 1 false (.t 11)⟩, ⟨some 13, none, .call 157 [(.t 12)]⟩, ⟨some 14, none, .fa 2 (.t 3)⟩, ⟨none, none, .st 1 (.t 14) (.t 13)⟩]) (.seq (.reg [⟨some 15, none, .fa 3 (.t 1)⟩, ⟨some 16, none, .ld 1 false (.t 15)⟩, ⟨some 17, none, .fa 3 (.t 3)⟩, ⟨none, none, .st 1 (.t 17) (.t 16)⟩]) (.seq (.reg [⟨some 18, none, .ld 4 true (.t 3)⟩, ⟨none, none, .st 4 (.t 2) (.t 18)⟩]) (.ret)))))))⟩
def K_laws_toProcess : Keeps := []
theorem r_laws_toProcess : resolveF Try.prog Try.f178 K_laws_toProcess = some F_laws_toProcess := by kernel_rfl
noncomputable def X_laws_toProcess : Ctx := Ctx.cons 157 G_laws_toStringS (fun _ => none)
theorem co_laws_toProcess : CtxOk Try.prog X_laws_toProcess := CtxOk.cons (CtxOk.nil) ok_laws_toStringS
theorem cx_laws_toProcess : ((∀ args hp, callX X_laws_toProcess 157 args hp = callS G_laws_toStringS args hp) ∧ (trC (X_laws_toProcess 157) = false)) := ⟨fun _ _ => rfl, rfl⟩
noncomputable def S_laws_toProcess : ByV := ⟨none, false, semF X_laws_toProcess F_laws_toProcess none false⟩
noncomputable def G_laws_toProcess : CK := .byv S_laws_toProcess
theorem sg_laws_toProcess (args : List AV) : S_laws_toProcess.sem args = semF X_laws_toProcess F_laws_toProcess none false args := rfl
theorem cl_laws_toProcess (args : List AV) (hp : Hp) : callS G_laws_toProcess args hp = byvS S_laws_toProcess args hp := callS_byv rfl rfl args hp
theorem ok_laws_toProcess : InlOk Try.prog 178 (callS G_laws_toProcess) := byv_none co_laws_toProcess Try.func178 r_laws_toProcess rfl (fun _ _ h => h)
/- 95 laws_toProcessS calls [laws_toProcess]  -/
def B0_laws_toProcessS : RC :=
  .seq (.seq (.reg [⟨some 8, none, .mv (.t 4)⟩, ⟨some 9, none, .mv (.t 0)⟩, ⟨some 10, none, .len false (.t 9)⟩, ⟨some 11, none, .bin .lss (.t 8) (.t 10)⟩]) (.cond (.t 11) (.skip) (.exit 0))) (.seq (.block 1 (.reg [⟨some 14, none, .mv (.t 3)⟩, ⟨some 15, none, .mv (.t 4)⟩, ⟨some 16, none, .mv (.t 0)⟩, ⟨some 17, none, .mv (.t 4)⟩, ⟨some 18, none, .ia 4 (.t 16) (.t 17)⟩, ⟨some 19, none, .ld 4 true (.t 18)⟩, ⟨some 20, none, .call 178 [(.t 19)]⟩, ⟨some 21, none, .ia 4 (.t 14) (.t 15)⟩, ⟨none, none, .st 4 (.t 21) (.t 20)⟩])) (.reg [⟨some 12, none, .mv (.t 4)⟩, ⟨some 13, none, .bin .add (.t 12) (.c (.int .i64 1))⟩, ⟨some 4, none, .mv (.t 13)⟩]))
def F_laws_toProcessS : RF := ⟨23, 1, [.t 2],
  .seq (.reg [⟨some 2, none, .mv (.c (.nil 4))⟩]) (.seq (.reg [⟨some 5, none, .mv (.t 0)⟩, ⟨some 6, none, .len false (.t 5)⟩, ⟨some 7, none, .mk 4 [(.str ⟨#[]⟩), (.tree 1 []), (.tree 1 []), (.int .i64 0)] 72 (.t 6) (.t 6)⟩, ⟨some 3, none, .mv (.t 7)⟩]) (.seq (.seq (.reg [⟨some 4, none, .mv (.c (.int .i64 0))⟩]) (.block 0 (.loop [0, 3, 4] [(1, [3])] B0_laws_toProcessS))) (.seq (.reg [⟨some 22, none, .mv (.t 3)⟩, ⟨some 2, none, .mv (.t 22)⟩]) (.ret))))⟩
def K_laws_toProcessS : Keeps := [([0, 3, 4], [(1, [3])])]
theorem r_laws_toProcessS : resolveF Try.prog Try.f95 K_laws_toProcessS = some F_laws_toProcessS := by kernel_rfl
noncomputable def X_laws_toProcessS : Ctx := Ctx.cons 178 G_laws_toProcess (fun _ => none)
theorem co_laws_toProcessS : CtxOk Try.prog X_laws_toProcessS := CtxOk.cons (CtxOk.nil) ok_laws_toProcess
theorem cx_laws_toProcessS : ((∀ args hp, callX X_laws_toProcessS 178 args hp = callS G_laws_toProcess args hp) ∧ (trC (X_laws_toProcessS 178) = false)) := ⟨fun _ _ => rfl, rfl⟩
noncomputable def S_laws_toProcessS : ByV := ⟨none, false, semF X_laws_toProcessS F_laws_toProcessS none false⟩
noncomputable def G_laws_toProcessS : CK := .byv S_laws_toProcessS
theorem sg_laws_toProcessS (args : List AV) : S_laws_toProcessS.sem args = semF X_laws_toProcessS F_laws_toProcessS none false args := rfl
theorem cl_laws_toProcessS (args : List AV) (hp : Hp) : callS G_laws_toProcessS args hp = byvS S_laws_toProcessS args hp := callS_byv rfl rfl args hp
theorem ok_laws_toProcessS : InlOk Try.prog 95 (callS G_laws_toProcessS) := byv_none co_laws_toProcessS Try.func95 r_laws_toProcessS rfl (fun _ _ h => h)
/- 23 laws_toProgram calls [laws_toNodeS, laws_toMonitorS, laws_toProcessS]  -/
def F_laws_toProgram : RF := ⟨17, 1, [.cell 2 3 true],
  .seq (.reg [⟨some 1, none, .box (.t 0)⟩, ⟨some 2, none, .new [(.nil 6), (.nil 4), (.nil 4)]⟩]) (.seq (.reg [⟨some 3, none, .new [(.nil 6), (.nil 4), (.nil 4)]⟩]) (.seq (.reg [⟨some 4, none, .fa 0 (.t 1)⟩, ⟨some 5, none, .ld 1 false (.t 4)⟩, ⟨some 6, none, .call 93 [(.t 5)]⟩, ⟨some 7, none, .fa 0 (.t 3)⟩, ⟨none, none, .st 1 (.t 7) (.t 6)⟩]) (.seq (.reg [⟨some 8, none, .fa 1 (.t 1)⟩, ⟨some 9, none, .ld 1 false (.t 8)⟩, ⟨some 10, none, .call 94 [(.t 9)]⟩, ⟨some 11, none, .fa 1 (.t 3)⟩, ⟨none, none, .st 1 (.t 11) (.t 10)⟩]) (.seq (.reg [⟨some 12, none, .fa 2 (.t 1)⟩, ⟨some 13, none, .ld 1 false (.t 12)⟩, ⟨some 14, none, .call 95 [(.t 13)]⟩, ⟨some 15, none, .fa 2 (.t 3)⟩, ⟨none, none, .st 1 (.t 15) (.t 14)⟩]) (.seq (.reg [⟨some 16, none, .ld 3 true (.t 3)⟩, ⟨none, none, .st 3 (.t 2) (.t 16)⟩]) (.ret))))))⟩
def K_laws_toProgram : Keeps := []
theorem r_laws_toProgram : resolveF Try.prog Try.f23 K_laws_toProgram = some F_laws_toProgram := by kernel_rfl
noncomputable def X_laws_toProgram : Ctx := Ctx.cons 93 G_laws_toNodeS (Ctx.cons 94 G_laws_toMonitorS (Ctx.cons 95 G_laws_toProcessS (fun _ => none)))
theorem co_laws_toProgram : CtxOk Try.prog X_laws_toProgram := CtxOk.cons (CtxOk.cons (CtxOk.cons (CtxOk.nil) ok_laws_toProcessS) ok_laws_toMonitorS) ok_laws_toNodeS
theorem cx_laws_toProgram : ((∀ args hp, callX X_laws_toProgram 93 args hp = callS G_laws_toNodeS args hp) ∧ (trC (X_laws_toProgram 93) = false)) ∧ ((∀ args hp, callX X_laws_toProgram 94 args hp = callS G_laws_toMonitorS args hp) ∧ (trC (X_laws_toProgram 94) = false)) ∧ ((∀ args hp, callX X_laws_toProgram 95 args hp = callS G_laws_toProcessS args hp) ∧ (trC (X_laws_toProgram 95) = false)) := ⟨⟨fun _ _ => rfl, rfl⟩, ⟨fun _ _ => rfl, rfl⟩, ⟨fun _ _ => rfl, rfl⟩⟩
noncomputable def S_laws_toProgram : ByV := ⟨none, false, semF X_laws_toProgram F_laws_toProgram none false⟩
noncomputable def G_laws_toProgram : CK := .byv S_laws_toProgram
theorem sg_laws_toProgram (args : List AV) : S_laws_toProgram.sem args = semF X_laws_toProgram F_laws_toProgram none false args := rfl
theorem cl_laws_toProgram (args : List AV) (hp : Hp) : callS G_laws_toProgram args hp = byvS S_laws_toProgram args hp := callS_byv rfl rfl args hp
theorem ok_laws_toProgram : InlOk Try.prog 23 (callS G_laws_toProgram) := byv_none co_laws_toProgram Try.func23 r_laws_toProgram rfl (fun _ _ h => h)
/- 87 spec_l01In calls []  -/
def F_spec_l01In : RF := ⟨15, 3, [.t 6],
  .seq (.reg [⟨some 6, none, .mv (.c (.bool false))⟩]) (.seq (.reg [⟨some 7, none, .mv (.t 0)⟩, ⟨some 8, none, .mv (.t 1)⟩, ⟨some 9, none, .bin .geq (.t 7) (.t 8)⟩, ⟨some 10, none, .mv (.t 9)⟩, ⟨some 11, some (10, true), .mv (.t 0)⟩, ⟨some 12, some (10, true), .mv (.t 2)⟩, ⟨some 13, some (10, true), .bin .leq (.t 11) (.t 12)⟩, ⟨some 14, none, .pick (.t 10) (.t 13) (.c (.bool false))⟩, ⟨some 6, none, .mv (.t 14)⟩]) (.ret))⟩
def K_spec_l01In : Keeps := []
theorem r_spec_l01In : resolveF Try.prog Try.f87 K_spec_l01In = some F_spec_l01In := by kernel_rfl
noncomputable def X_spec_l01In : Ctx := fun _ => none
theorem co_spec_l01In : CtxOk Try.prog X_spec_l01In := CtxOk.nil
theorem cx_spec_l01In : True := trivial
noncomputable def S_spec_l01In : ByV := ⟨none, false, semF X_spec_l01In F_spec_l01In none false⟩
noncomputable def G_spec_l01In : CK := .byv S_spec_l01In
theorem sg_spec_l01In (args : List AV) : S_spec_l01In.sem args = semF X_spec_l01In F_spec_l01In none false args := rfl
theorem cl_spec_l01In (args : List AV) (hp : Hp) : callS G_spec_l01In args hp = byvS S_spec_l01In args hp := callS_byv rfl rfl args hp
theorem ok_spec_l01In : InlOk Try.prog 87 (callS G_spec_l01In) := byv_none co_spec_l01In Try.func87 r_spec_l01In rfl (fun _ _ h => h)
/- 175 spec_l18Vars calls []  -/
def B0_spec_l18Vars : RC :=
  .seq (.seq (.reg [⟨some 5, none, .mv (.t 4)⟩, ⟨some 6, none, .fa 1 (.t 1)⟩, ⟨some 7, none, .ld 1 false (.t 6)⟩, ⟨some 8, none, .len false (.t 7)⟩, ⟨some 9, none, .bin .lss (.t 5) (.t 8)⟩]) (.cond (.t 9) (.skip) (.exit 0))) (.seq (.block 1 (.reg [⟨some 12, none, .mv (.t 3)⟩, ⟨some 13, none, .fa 1 (.t 1)⟩, ⟨some 14, none, .ld 1 false (.t 13)⟩, ⟨some 15, none, .mv (.t 4)⟩, ⟨some 16, none, .ia 4 (.t 14) (.t 15)⟩, ⟨some 17, none, .fa 1 (.t 16)⟩, ⟨some 18, none, .ld 1 false (.t 17)⟩, ⟨some 19, none, .len false (.t 18)⟩, ⟨some 20, none, .bin .add (.t 12) (.t 19)⟩, ⟨some 3, none, .mv (.t 20)⟩])) (.reg [⟨some 10, none, .mv (.t 4)⟩, ⟨some 11, none, .bin .add (.t 10) (.c (.int .i64 1))⟩, ⟨some 4, none, .mv (.t 11)⟩]))
def F_spec_l18Vars : RF := ⟨22, 1, [.t 2],
  .seq (.reg [⟨some 1, none, .box (.t 0)⟩, ⟨some 2, none, .mv (.c (.int .i64 0))⟩]) (.seq (.reg [⟨some 3, none, .mv (.c (.int .i64 0))⟩]) (.seq (.seq (.reg [⟨some 4, none, .mv (.c (.int .i64 0))⟩]) (.block 0 (.loop [1, 3, 4] [(1, [3])] B0_spec_l18Vars))) (.seq (.reg [⟨some 21, none, .mv (.t 3)⟩, ⟨some 2, none, .mv (.t 21)⟩]) (.ret))))⟩
def K_spec_l18Vars : Keeps := [([1, 3, 4], [(1, [3])])]
theorem r_spec_l18Vars : resolveF Try.prog Try.f175 K_spec_l18Vars = some F_spec_l18Vars := by kernel_rfl
noncomputable def X_spec_l18Vars : Ctx := fun _ => none
theorem co_spec_l18Vars : CtxOk Try.prog X_spec_l18Vars := CtxOk.nil
theorem cx_spec_l18Vars : True := trivial
noncomputable def S_spec_l18Vars : ByV := ⟨none, false, semF X_spec_l18Vars F_spec_l18Vars none false⟩
noncomputable def G_spec_l18Vars : CK := .byv S_spec_l18Vars
theorem sg_spec_l18Vars (args : List AV) : S_spec_l18Vars.sem args = semF X_spec_l18Vars F_spec_l18Vars none false args := rfl
theorem cl_spec_l18Vars (args : List AV) (hp : Hp) : callS G_spec_l18Vars args hp = byvS S_spec_l18Vars args hp := callS_byv rfl rfl args hp
theorem ok_spec_l18Vars : InlOk Try.prog 175 (callS G_spec_l18Vars) := byv_none co_spec_l18Vars Try.func175 r_spec_l18Vars rfl (fun _ _ h => h)
/- 92 spec_VarAt calls [spec_l01In, spec_l18Vars]  -/
def B0_spec_VarAt : RC :=
  .seq (.seq (.reg [⟨some 31, none, .mv (.t 8)⟩, ⟨some 32, none, .mv (.t 1)⟩, ⟨some 33, none, .bin .lss (.t 31) (.t 32)⟩]) (.cond (.t 33) (.skip) (.exit 0))) (.seq (.block 1 (.reg [⟨some 36, none, .mv (.t 7)⟩, ⟨some 37, none, .fa 2 (.t 3)⟩, ⟨some 38, none, .ld 1 false (.t 37)⟩, ⟨some 39, none, .mv (.t 8)⟩, ⟨some 40, none, .ia 4 (.t 38) (.t 39)⟩, ⟨some 41, none, .fa 2 (.t 40)⟩, ⟨some 42, none, .ld 1 false (.t 41)⟩, ⟨some 43, none, .len false (.t 42)⟩, ⟨some 44, none, .bin .add (.t 36) (.t 43)⟩, ⟨some 45, none, .bin .add (.t 44) (.c (.int .i64 2))⟩, ⟨some 7, none, .mv (.t 45)⟩])) (.reg [⟨some 34, none, .mv (.t 8)⟩, ⟨some 35, none, .bin .add (.t 34) (.c (.int .i64 1))⟩, ⟨some 8, none, .mv (.t 35)⟩]))
def F_spec_VarAt : RF := ⟨49, 3, [.t 6],
  .seq (.reg [⟨some 3, none, .box (.t 0)⟩, ⟨some 6, none, .mv (.c (.int .i64 0))⟩]) (.seq (.seq (.reg [⟨some 9, none, .mv (.t 1)⟩, ⟨some 10, none, .fa 2 (.t 3)⟩, ⟨some 11, none, .ld 1 false (.t 10)⟩, ⟨some 12, none, .len false (.t 11)⟩, ⟨some 13, none, .bin .sub (.t 12) (.c (.int .i64 1))⟩, ⟨some 14, none, .call 87 [(.t 9), (.c (.int .i64 0)), (.t 13)]⟩, ⟨some 15, none, .un .not (.t 14)⟩, ⟨some 16, none, .mv (.t 15)⟩, ⟨some 17, some (16, false), .mv (.t 2)⟩, ⟨some 18, some (16, false), .fa 2 (.t 3)⟩, ⟨some 19, some (16, false), .ld 1 false (.t 18)⟩, ⟨some 20, some (16, false), .mv (.t 1)⟩, ⟨some 21, some (16, false), .ia 4 (.t 19) (.t 20)⟩, ⟨some 22, some (16, false), .fa 2 (.t 21)⟩, ⟨some 23, some (16, false), .ld 1 false (.t 22)⟩, ⟨some 24, some (16, false), .len false (.t 23)⟩, ⟨some 25, some (16, false), .call 87 [(.t 17), (.c (.int .i64 0)), (.t 24)]⟩, ⟨some 26, some (16, false), .un .not (.t 25)⟩, ⟨some 27, none, .pick (.t 16) (.c (.bool true)) (.t 26)⟩]) (.cond (.t 27) (.seq (.reg [⟨some 6, none, .mv (.c (.int .i64 (-1)))⟩]) (.ret)) (.skip))) (.seq (.reg [⟨some 28, none, .ld 3 true (.t 3)⟩, ⟨some 29, none, .call 175 [(.t 28)]⟩, ⟨some 30, none, .bin .add (.c (.int .i64 1)) (.t 29)⟩, ⟨some 7, none, .mv (.t 30)⟩]) (.seq (.seq (.reg [⟨some 8, none, .mv (.c (.int .i64 0))⟩]) (.block 0 (.loop [1, 2, 3, 7, 8] [(1, [2, 7])] B0_spec_VarAt))) (.seq (.reg [⟨some 46, none, .mv (.t 7)⟩, ⟨some 47, none, .mv (.t 2)⟩, ⟨some 48, none, .bin .add (.t 46) (.t 47)⟩, ⟨some 6, none, .mv (.t 48)⟩]) (.ret)))))⟩
def K_spec_VarAt : Keeps := [([1, 2, 3, 7, 8], [(1, [2, 7])])]
theorem r_spec_VarAt : resolveF Try.prog Try.f92 K_spec_VarAt = some F_spec_VarAt := by kernel_rfl
noncomputable def X_spec_VarAt : Ctx := Ctx.cons 87 G_spec_l01In (Ctx.cons 175 G_spec_l18Vars (fun _ => none))
theorem co_spec_VarAt : CtxOk Try.prog X_spec_VarAt := CtxOk.cons (CtxOk.cons (CtxOk.nil) ok_spec_l18Vars) ok_spec_l01In
theorem cx_spec_VarAt : ((∀ args hp, callX X_spec_VarAt 87 args hp = callS G_spec_l01In args hp) ∧ (trC (X_spec_VarAt 87) = false)) ∧ ((∀ args hp, callX X_spec_VarAt 175 args hp = callS G_spec_l18Vars args hp) ∧ (trC (X_spec_VarAt 175) = false)) := ⟨⟨fun _ _ => rfl, rfl⟩, ⟨fun _ _ => rfl, rfl⟩⟩
noncomputable def S_spec_VarAt : ByV := ⟨none, false, semF X_spec_VarAt F_spec_VarAt none false⟩
noncomputable def G_spec_VarAt : CK := .byv S_spec_VarAt
theorem sg_spec_VarAt (args : List AV) : S_spec_VarAt.sem args = semF X_spec_VarAt F_spec_VarAt none false args := rfl
theorem cl_spec_VarAt (args : List AV) (hp : Hp) : callS G_spec_VarAt args hp = byvS S_spec_VarAt args hp := callS_byv rfl rfl args hp
theorem ok_spec_VarAt : InlOk Try.prog 92 (callS G_spec_VarAt) := byv_none co_spec_VarAt Try.func92 r_spec_VarAt rfl (fun _ _ h => h)
/- 22 spec_ArgAt calls [spec_l01In, spec_VarAt]  -/
def F_spec_ArgAt : RF := ⟨22, 2, [.t 4],
  .seq (.reg [⟨some 2, none, .box (.t 0)⟩, ⟨some 4, none, .mv (.c (.int .i64 0))⟩]) (.seq (.seq (.reg [⟨some 5, none, .mv (.t 1)⟩, ⟨some 6, none, .fa 2 (.t 2)⟩, ⟨some 7, none, .ld 1 false (.t 6)⟩, ⟨some 8, none, .len false (.t 7)⟩, ⟨some 9, none, .bin .sub (.t 8) (.c (.int .i64 1))⟩, ⟨some 10, none, .call 87 [(.t 5), (.c (.int .i64 0)), (.t 9)]⟩, ⟨some 11, none, .un .not (.t 10)⟩]) (.cond (.t 11) (.seq (.reg [⟨some 4, none, .mv (.c (.int .i64 (-1)))⟩]) (.ret)) (.skip))) (.seq (.regd [(1, ⟨some 12, none, .ld 3 true (.t 2)⟩), (0, ⟨some 13, none, .mv (.t 1)⟩), (0, ⟨some 14, none, .fa 2 (.t 2)⟩), (1, ⟨some 15, none, .ld 1 false (.t 14)⟩), (0, ⟨some 16, none, .mv (.t 1)⟩), (1, ⟨some 17, none, .ia 4 (.t 15) (.t 16)⟩), (0, ⟨some 18, none, .fa 2 (.t 17)⟩), (1, ⟨some 19, none, .ld 1 false (.t 18)⟩), (0, ⟨some 20, none, .len false (.t 19)⟩), (1, ⟨some 21, none, .call 92 [(.t 12), (.t 13), (.t 20)]⟩), (0, ⟨some 4, none, .mv (.t 21)⟩)] []) (.ret)))⟩
def K_spec_ArgAt : Keeps := []
theorem r_spec_ArgAt : resolveF Try.prog Try.f22 K_spec_ArgAt = some F_spec_ArgAt := by kernel_rfl
noncomputable def X_spec_ArgAt : Ctx := Ctx.cons 87 G_spec_l01In (Ctx.cons 92 G_spec_VarAt (fun _ => none))
theorem co_spec_ArgAt : CtxOk Try.prog X_spec_ArgAt := CtxOk.cons (CtxOk.cons (CtxOk.nil) ok_spec_VarAt) ok_spec_l01In
theorem cx_spec_ArgAt : ((∀ args hp, callX X_spec_ArgAt 87 args hp = callS G_spec_l01In args hp) ∧ (trC (X_spec_ArgAt 87) = false)) ∧ ((∀ args hp, callX X_spec_ArgAt 92 args hp = callS G_spec_VarAt args hp) ∧ (trC (X_spec_ArgAt 92) = false)) := ⟨⟨fun _ _ => rfl, rfl⟩, ⟨fun _ _ => rfl, rfl⟩⟩
noncomputable def S_spec_ArgAt : ByV := ⟨none, false, semF X_spec_ArgAt F_spec_ArgAt none false⟩
noncomputable def G_spec_ArgAt : CK := .byv S_spec_ArgAt
theorem sg_spec_ArgAt (args : List AV) : S_spec_ArgAt.sem args = semF X_spec_ArgAt F_spec_ArgAt none false args := rfl
theorem cl_spec_ArgAt (args : List AV) (hp : Hp) : callS G_spec_ArgAt args hp = byvS S_spec_ArgAt args hp := callS_byv rfl rfl args hp
theorem ok_spec_ArgAt : InlOk Try.prog 22 (callS G_spec_ArgAt) := byv_none co_spec_ArgAt Try.func22 r_spec_ArgAt rfl (fun _ _ h => h)
/- 26 spec_ResultAt calls [spec_ArgAt]  -/
def F_spec_ResultAt : RF := ⟨13, 2, [.t 4],
  .seq (.reg [⟨some 2, none, .box (.t 0)⟩, ⟨some 4, none, .mv (.c (.int .i64 0))⟩]) (.seq (.reg [⟨some 6, none, .ld 3 true (.t 2)⟩, ⟨some 7, none, .mv (.t 1)⟩, ⟨some 8, none, .call 22 [(.t 6), (.t 7)]⟩, ⟨some 5, none, .mv (.t 8)⟩]) (.seq (.seq (.reg [⟨some 9, none, .mv (.t 5)⟩, ⟨some 10, none, .bin .lss (.t 9) (.c (.int .i64 0))⟩]) (.cond (.t 10) (.seq (.reg [⟨some 4, none, .mv (.c (.int .i64 (-1)))⟩]) (.ret)) (.skip))) (.seq (.reg [⟨some 11, none, .mv (.t 5)⟩, ⟨some 12, none, .bin .add (.t 11) (.c (.int .i64 1))⟩, ⟨some 4, none, .mv (.t 12)⟩]) (.ret))))⟩
def K_spec_ResultAt : Keeps := []
theorem r_spec_ResultAt : resolveF Try.prog Try.f26 K_spec_ResultAt = some F_spec_ResultAt := by kernel_rfl
noncomputable def X_spec_ResultAt : Ctx := Ctx.cons 22 G_spec_ArgAt (fun _ => none)
theorem co_spec_ResultAt : CtxOk Try.prog X_spec_ResultAt := CtxOk.cons (CtxOk.nil) ok_spec_ArgAt
theorem cx_spec_ResultAt : ((∀ args hp, callX X_spec_ResultAt 22 args hp = callS G_spec_ArgAt args hp) ∧ (trC (X_spec_ResultAt 22) = false)) := ⟨fun _ _ => rfl, rfl⟩
noncomputable def S_spec_ResultAt : ByV := ⟨none, false, semF X_spec_ResultAt F_spec_ResultAt none false⟩
noncomputable def G_spec_ResultAt : CK := .byv S_spec_ResultAt
theorem sg_spec_ResultAt (args : List AV) : S_spec_ResultAt.sem args = semF X_spec_ResultAt F_spec_ResultAt none false args := rfl
theorem cl_spec_ResultAt (args : List AV) (hp : Hp) : callS G_spec_ResultAt args hp = byvS S_spec_ResultAt args hp := callS_byv rfl rfl args hp
theorem ok_spec_ResultAt : InlOk Try.prog 26 (callS G_spec_ResultAt) := byv_none co_spec_ResultAt Try.func26 r_spec_ResultAt rfl (fun _ _ h => h)
/- 107 spec_SharedAt calls [spec_l01In]  -/
def B0_spec_SharedAt : RC :=
  .seq (.seq (.reg [⟨some 29, none, .mv (.t 8)⟩, ⟨some 30, none, .mv (.t 1)⟩, ⟨some 31, none, .bin .lss (.t 29) (.t 30)⟩]) (.cond (.t 31) (.skip) (.exit 0))) (.seq (.block 1 (.reg [⟨some 34, none, .mv (.t 7)⟩, ⟨some 35, none, .fa 1 (.t 3)⟩, ⟨some 36, none, .ld 1 false (.t 35)⟩, ⟨some 37, none, .mv (.t 8)⟩, ⟨some 38, none, .ia 4 (.t 36) (.t 37)⟩, ⟨some 39, none, .fa 1 (.t 38)⟩, ⟨some 40, none, .ld 1 false (.t 39)⟩, ⟨some 41, none, .len false (.t 40)⟩, ⟨some 42, none, .bin .add (.t 34) (.t 41)⟩, ⟨some 7, none, .mv (.t 42)⟩])) (.reg [⟨some 32, none, .mv (.t 8)⟩, ⟨some 33, none, .bin .add (.t 32) (.c (.int .i64 1))⟩, ⟨some 8, none, .mv (.t 33)⟩]))
def F_spec_SharedAt : RF := ⟨46, 3, [.t 6],
  .seq (.reg [⟨some 3, none, .box (.t 0)⟩, ⟨some 6, none, .mv (.c (.int .i64 0))⟩]) (.seq (.seq (.reg [⟨some 9, none, .mv (.t 1)⟩, ⟨some 10, none, .fa 1 (.t 3)⟩, ⟨some 11, none, .ld 1 false (.t 10)⟩, ⟨some 12, none, .len false (.t 11)⟩, ⟨some 13, none, .bin .sub (.t 12) (.c (.int .i64 1))⟩, ⟨some 14, none, .call 87 [(.t 9), (.c (.int .i64 0)), (.t 13)]⟩, ⟨some 15, none, .un .not (.t 14)⟩, ⟨some 16, none, .mv (.t 15)⟩, ⟨some 17, some (16, false), .mv (.t 2)⟩, ⟨some 18, some (16, false), .fa 1 (.t 3)⟩, ⟨some 19, some (16, false), .ld 1 false (.t 18)⟩, ⟨some 20, some (16, false), .mv (.t 1)⟩, ⟨some 21, some (16, false), .ia 4 (.t 19) (.t 20)⟩, ⟨some 22, some (16, false), .fa 1 (.t 21)⟩, ⟨some 23, some (16, false), .ld 1 false (.t 22)⟩, ⟨some 24, some (16, false), .len false (.t 23)⟩, ⟨some 25, some (16, false), .bin .sub (.t 24) (.c (.int .i64 1))⟩, ⟨some 26, some (16, false), .call 87 [(.t 17), (.c (.int .i64 0)), (.t 25)]⟩, ⟨some 27, some (16, false), .un .not (.t 26)⟩, ⟨some 28, none, .pick (.t 16) (.c (.bool true)) (.t 27)⟩]) (.cond (.t 28) (.seq (.reg [⟨some 6, none, .mv (.c (.int .i64 (-1)))⟩]) (.ret)) (.skip))) (.seq (.reg [⟨some 7, none, .mv (.c (.int .i64 1))⟩]) (.seq (.seq (.reg [⟨some 8, none, .mv (.c (.int .i64 0))⟩]) (.block 0 (.loop [1, 2, 3, 7, 8] [(1, [2, 7])] B0_spec_SharedAt))) (.seq (.reg [⟨some 43, none, .mv (.t 7)⟩, ⟨some 44, none, .mv (.t 2)⟩, ⟨some 45, none, .bin .add (.t 43) (.t 44)⟩, ⟨some 6, none, .mv (.t 45)⟩]) (.ret)))))⟩
def K_spec_SharedAt : Keeps := [([1, 2, 3, 7, 8], [(1, [2, 7])])]
theorem r_spec_SharedAt : resolveF Try.prog Try.f107 K_spec_SharedAt = some F_spec_SharedAt := by kernel_rfl
noncomputable def X_spec_SharedAt : Ctx := Ctx.cons 87 G_spec_l01In (fun _ => none)
theorem co_spec_SharedAt : CtxOk Try.prog X_spec_SharedAt := CtxOk.cons (CtxOk.nil) ok_spec_l01In
theorem cx_spec_SharedAt : ((∀ args hp, callX X_spec_SharedAt 87 args hp = callS G_spec_l01In args hp) ∧ (trC (X_spec_SharedAt 87) = false)) := ⟨fun _ _ => rfl, rfl⟩
noncomputable def S_spec_SharedAt : ByV := ⟨none, false, semF X_spec_SharedAt F_spec_SharedAt none false⟩
noncomputable def G_spec_SharedAt : CK := .byv S_spec_SharedAt
theorem sg_spec_SharedAt (args : List AV) : S_spec_SharedAt.sem args = semF X_spec_SharedAt F_spec_SharedAt none false args := rfl
theorem cl_spec_SharedAt (args : List AV) (hp : Hp) : callS G_spec_SharedAt args hp = byvS S_spec_SharedAt args hp := callS_byv rfl rfl args hp
theorem ok_spec_SharedAt : InlOk Try.prog 107 (callS G_spec_SharedAt) := byv_none co_spec_SharedAt Try.func107 r_spec_SharedAt rfl (fun _ _ h => h)
/- 34 spec_EntryPlaces calls [spec_l01In, spec_ArgAt, spec_ResultAt, spec_SharedAt]  -/
def B0_spec_EntryPlaces : RC :=
  .seq (.seq (.reg [⟨some 62, none, .mv (.t 10)⟩, ⟨some 63, none, .fa 1 (.t 4)⟩, ⟨some 64, none, .ld 1 false (.t 63)⟩, ⟨some 65, none, .mv (.t 2)⟩, ⟨some 66, none, .ia 4 (.t 64) (.t 65)⟩, ⟨some 67, none, .fa 1 (.t 66)⟩, ⟨some 68, none, .ld 1 false (.t 67)⟩, ⟨some 69, none, .len false (.t 68)⟩, ⟨some 70, none, .bin .lss (.t 62) (.t 69)⟩]) (.cond (.t 70) (.skip) (.exit 0))) (.seq (.block 1 (.seq (.regd [(0, ⟨some 73, none, .fa 0 (.t 9)⟩), (2, ⟨some 74, none, .ld 1 false (.t 73)⟩), (0, ⟨some 75, none, .fa 1 (.t 4)⟩), (1, ⟨some 76, none, .ld 1 false (.t 75)⟩), (0, ⟨some 77, none, .mv (.t 2)⟩), (1, ⟨some 78, none, .ia 4 (.t 76) (.t 77)⟩), (0, ⟨some 79, none, .fa 1 (.t 78)⟩), (1, ⟨some 80, none, .ld 1 false (.t 79)⟩), (0, ⟨some 81, none, .mv (.t 10)⟩), (1, ⟨some 82, none, .ia 1 (.t 80) (.t 81)⟩), (1, ⟨some 83, none, .ld 1 false (.t 82)⟩), (2, ⟨some 84, none, .bsl 1 [(.t 83)]⟩), (1, ⟨some 85, none, .app true 1 16 (.t 74) (.t 84)⟩), (0, ⟨some 86, none, .fa 0 (.t 9)⟩), (1, ⟨none, none, .st 1 (.t 86) (.t 85)⟩)] [(1, 11)]) (.regd [(0, ⟨some 87, none, .fa 1 (.t 9)⟩), (2, ⟨some 88, none, .ld 1 false (.t 87)⟩), (1, ⟨some 89, none, .ld 3 true (.t 4)⟩), (0, ⟨some 90, none, .mv (.t 2)⟩), (0, ⟨some 91, none, .mv (.t 10)⟩), (2, ⟨some 92, none, .call 107 [(.t 89), (.t 90), (.t 91)]⟩), (2, ⟨some 93, none, .bsl 1 [(.t 92)]⟩), (1, ⟨some 94, none, .app true 1 8 (.t 88) (.t 93)⟩), (0, ⟨some 95, none, .fa 1 (.t 9)⟩), (1, ⟨none, none, .st 1 (.t 95) (.t 94)⟩)] [(1, 5), (1, 6)]))) (.reg [⟨some 71, none, .mv (.t 10)⟩, ⟨some 72, none, .bin .add (.t 71) (.c (.int .i64 1))⟩, ⟨some 10, none, .mv (.t 72)⟩]))
def F_spec_EntryPlaces : RF := ⟨97, 4, [.cell 8 2 true],
  .seq (.reg [⟨some 4, none, .box (.t 0)⟩, ⟨some 8, none, .new [(.nil 1), (.nil 1)]⟩]) (.seq (.reg [⟨some 11, none, .build [(.nil 1), (.nil 1)] []⟩, ⟨some 9, none, .new [(.nil 1), (.nil 1)]⟩, ⟨none, none, .st 2 (.t 9) (.t 11)⟩]) (.seq (.seq (.reg [⟨some 12, none, .mv (.t 1)⟩, ⟨some 13, none, .fa 2 (.t 4)⟩, ⟨some 14, none, .ld 1 false (.t 13)⟩, ⟨some 15, none, .len false (.t 14)⟩, ⟨some 16, none, .bin .sub (.t 15) (.c (.int .i64 1))⟩, ⟨some 17, none, .call 87 [(.t 12), (.c (.int .i64 0)), (.t 16)]⟩, ⟨some 18, none, .un .not (.t 17)⟩, ⟨some 19, none, .mv (.t 18)⟩, ⟨some 20, some (19, false), .mv (.t 2)⟩, ⟨some 21, some (19, false), .fa 1 (.t 4)⟩, ⟨some 22, some (19, false), .ld 1 false (.t 21)⟩, ⟨some 23, some (19, false), .len false (.t 22)⟩, ⟨some 24, some (19, false), .bin .sub (.t 23) (.c (.int .i64 1))⟩, ⟨some 25, some (19, false), .call 87 [(.t 20), (.c (.int .i64 0)), (.t 24)]⟩, ⟨some 26, some (19, false), .un .not (.t 25)⟩, ⟨some 27, none, .pick (.t 19) (.c (.bool true)) (.t 26)⟩, ⟨some 28, none, .mv (.t 27)⟩, ⟨some 29, some (28, false), .mv (.t 3)⟩, ⟨some 30, some (28, false), .fa 1 (.t 4)⟩, ⟨some 31, some (28, false), .ld 1 false (.t 30)⟩, ⟨some 32, some (28, false), .mv (.t 2)⟩, ⟨some 33, some (28, false), .ia 4 (.t 31) (.t 32)⟩, ⟨some 34, some (28, false), .fa 3 (.t 33)⟩, ⟨some 35, some (28, false), .ld 1 false (.t 34)⟩, ⟨some 36, some (28, false), .len false (.t 35)⟩, ⟨some 37, some (28, false), .bin .sub (.t 36) (.c (.int .i64 1))⟩, ⟨some 38, some (28, false), .call 87 [(.t 29), (.c (.int .i64 0)), (.t 37)]⟩, ⟨some 39, some (28, false), .un .not (.t 38)⟩, ⟨some 40, none, .pick (.t 28) (.c (.bool true)) (.t 39)⟩]) (.cond (.t 40) (.seq (.reg [⟨some 41, none, .ld 2 true (.t 9)⟩, ⟨none, none, .st 2 (.t 8) (.t 41)⟩]) (.ret)) (.skip))) (.seq (.reg [⟨some 42, none, .fa 1 (.t 4)⟩, ⟨some 43, none, .ld 1 false (.t 42)⟩, ⟨some 44, none, .mv (.t 2)⟩, ⟨some 45, none, .ia 4 (.t 43) (.t 44)⟩, ⟨some 46, none, .fa 3 (.t 45)⟩, ⟨some 47, none, .ld 1 false (.t 46)⟩, ⟨some 48, none, .mv (.t 3)⟩, ⟨some 49, none, .ia 3 (.t 47) (.t 48)⟩, ⟨some 50, none, .fa 1 (.t 49)⟩, ⟨some 51, none, .ld 1 false (.t 50)⟩, ⟨some 52, none, .bsl 1 [(.t 51), (.c (.str ⟨#[114, 101, 115, 117, 108, 116]⟩))]⟩, ⟨some 53, none, .fa 0 (.t 9)⟩, ⟨none, none, .st 1 (.t 53) (.t 52)⟩]) (.seq (.regd [(1, ⟨some 54, none, .ld 3 true (.t 4)⟩), (0, ⟨some 55, none, .mv (.t 1)⟩), (2, ⟨some 56, none, .call 22 [(.t 54), (.t 55)]⟩), (2, ⟨some 57, none, .ld 3 true (.t 4)⟩), (0, ⟨some 58, none, .mv (.t 1)⟩), (1, ⟨some 59, none, .call 26 [(.t 57), (.t 58)]⟩), (1, ⟨some 60, none, .bsl 1 [(.t 56), (.t 59)]⟩), (0, ⟨some 61, none, .fa 1 (.t 9)⟩), (1, ⟨none, none, .st 1 (.t 61) (.t 60)⟩)] [(2, 3)]) (.seq (.seq (.reg [⟨some 10, none, .mv (.c (.int .i64 0))⟩]) (.block 0 (.loop [2, 4, 8, 9, 10] [(1, [8, 9])] B0_spec_EntryPlaces))) (.seq (.reg [⟨some 96, none, .ld 2 true (.t 9)⟩, ⟨none, none, .st 2 (.t 8) (.t 96)⟩]) (.ret)))))))⟩
def K_spec_EntryPlaces : Keeps := [([2, 4, 8, 9, 10], [(1, [8, 9])])]
theorem r_spec_EntryPlaces : resolveF Try.prog Try.f34 K_spec_EntryPlaces = some F_spec_EntryPlaces := by kernel_rfl
noncomputable def X_spec_EntryPlaces : Ctx := Ctx.cons 87 G_spec_l01In (Ctx.cons 22 G_spec_ArgAt (Ctx.cons 26 G_spec_ResultAt (Ctx.cons 107 G_spec_SharedAt (fun _ => none))))
theorem co_spec_EntryPlaces : CtxOk Try.prog X_spec_EntryPlaces := CtxOk.cons (CtxOk.cons (CtxOk.cons (CtxOk.cons (CtxOk.nil) ok_spec_SharedAt) ok_spec_ResultAt) ok_spec_ArgAt) ok_spec_l01In
theorem cx_spec_EntryPlaces : ((∀ args hp, callX X_spec_EntryPlaces 87 args hp = callS G_spec_l01In args hp) ∧ (trC (X_spec_EntryPlaces 87) = false)) ∧ ((∀ args hp, callX X_spec_EntryPlaces 22 args hp = callS G_spec_ArgAt args hp) ∧ (trC (X_spec_EntryPlaces 22) = false)) ∧ ((∀ args hp, callX X_spec_EntryPlaces 26 args hp = callS G_spec_ResultAt args hp) ∧ (trC (X_spec_EntryPlaces 26) = false)) ∧ ((∀ args hp, callX X_spec_EntryPlaces 107 args hp = callS G_spec_SharedAt args hp) ∧ (trC (X_spec_EntryPlaces 107) = false)) := ⟨⟨fun _ _ => rfl, rfl⟩, ⟨fun _ _ => rfl, rfl⟩, ⟨fun _ _ => rfl, rfl⟩, ⟨fun _ _ => rfl, rfl⟩⟩
noncomputable def S_spec_EntryPlaces : ByV := ⟨none, false, semF X_spec_EntryPlaces F_spec_EntryPlaces none false⟩
noncomputable def G_spec_EntryPlaces : CK := .byv S_spec_EntryPlaces
theorem sg_spec_EntryPlaces (args : List AV) : S_spec_EntryPlaces.sem args = semF X_spec_EntryPlaces F_spec_EntryPlaces none false args := rfl
theorem cl_spec_EntryPlaces (args : List AV) (hp : Hp) : callS G_spec_EntryPlaces args hp = byvS S_spec_EntryPlaces args hp := callS_byv rfl rfl args hp
theorem ok_spec_EntryPlaces : InlOk Try.prog 34 (callS G_spec_EntryPlaces) := byv_none co_spec_EntryPlaces Try.func34 r_spec_EntryPlaces rfl (fun _ _ h => h)
/- 109 impl_within calls []  -/
def F_impl_within : RF := ⟨15, 3, [.t 6],
  .seq (.reg [⟨some 6, none, .mv (.c (.bool false))⟩]) (.seq (.reg [⟨some 7, none, .mv (.t 0)⟩, ⟨some 8, none, .mv (.t 1)⟩, ⟨some 9, none, .bin .geq (.t 7) (.t 8)⟩, ⟨some 10, none, .mv (.t 9)⟩, ⟨some 11, some (10, true), .mv (.t 0)⟩, ⟨some 12, some (10, true), .mv (.t 2)⟩, ⟨some 13, some (10, true), .bin .leq (.t 11) (.t 12)⟩, ⟨some 14, none, .pick (.t 10) (.t 13) (.c (.bool false))⟩, ⟨some 6, none, .mv (.t 14)⟩]) (.ret))⟩
def K_impl_within : Keeps := []
theorem r_impl_within : resolveF Try.prog Try.f109 K_impl_within = some F_impl_within := by kernel_rfl
noncomputable def X_impl_within : Ctx := fun _ => none
theorem co_impl_within : CtxOk Try.prog X_impl_within := CtxOk.nil
theorem cx_impl_within : True := trivial
noncomputable def S_impl_within : ByV := ⟨none, false, semF X_impl_within F_impl_within none false⟩
noncomputable def G_impl_within : CK := .byv S_impl_within
theorem sg_impl_within (args : List AV) : S_impl_within.sem args = semF X_impl_within F_impl_within none false args := rfl
theorem cl_impl_within (args : List AV) (hp : Hp) : callS G_impl_within args hp = byvS S_impl_within args hp := callS_byv rfl rfl args hp
theorem ok_impl_within : InlOk Try.prog 109 (callS G_impl_within) := byv_none co_impl_within Try.func109 r_impl_within rfl (fun _ _ h => h)
/- 96 impl_isProcess calls [impl_within]  -/
def F_impl_isProcess : RF := ⟨11, 2, [.t 4],
  .seq (.reg [⟨some 2, none, .box (.t 0)⟩, ⟨some 4, none, .mv (.c (.bool false))⟩]) (.seq (.reg [⟨some 5, none, .mv (.t 1)⟩, ⟨some 6, none, .fa 2 (.t 2)⟩, ⟨some 7, none, .ld 1 false (.t 6)⟩, ⟨some 8, none, .len false (.t 7)⟩, ⟨some 9, none, .bin .sub (.t 8) (.c (.int .i64 1))⟩, ⟨some 10, none, .call 109 [(.t 5), (.c (.int .i64 0)), (.t 9)]⟩, ⟨some 4, none, .mv (.t 10)⟩]) (.ret))⟩
def K_impl_isProcess : Keeps := []
theorem r_impl_isProcess : resolveF Try.prog Try.f96 K_impl_isProcess = some F_impl_isProcess := by kernel_rfl
noncomputable def X_impl_isProcess : Ctx := Ctx.cons 109 G_impl_within (fun _ => none)
theorem co_impl_isProcess : CtxOk Try.prog X_impl_isProcess := CtxOk.cons (CtxOk.nil) ok_impl_within
theorem cx_impl_isProcess : ((∀ args hp, callX X_impl_isProcess 109 args hp = callS G_impl_within args hp) ∧ (trC (X_impl_isProcess 109) = false)) := ⟨fun _ _ => rfl, rfl⟩
noncomputable def S_impl_isProcess : ByV := ⟨none, false, semF X_impl_isProcess F_impl_isProcess none false⟩
noncomputable def G_impl_isProcess : CK := .byv S_impl_isProcess
theorem sg_impl_isProcess (args : List AV) : S_impl_isProcess.sem args = semF X_impl_isProcess F_impl_isProcess none false args := rfl
theorem cl_impl_isProcess (args : List AV) (hp : Hp) : callS G_impl_isProcess args hp = byvS S_impl_isProcess args hp := callS_byv rfl rfl args hp
theorem ok_impl_isProcess : InlOk Try.prog 96 (callS G_impl_isProcess) := byv_none co_impl_isProcess Try.func96 r_impl_isProcess rfl (fun _ _ h => h)
/- 108 impl_isMonitor calls [impl_within]  -/
def F_impl_isMonitor : RF := ⟨11, 2, [.t 4],
  .seq (.reg [⟨some 2, none, .box (.t 0)⟩, ⟨some 4, none, .mv (.c (.bool false))⟩]) (.seq (.reg [⟨some 5, none, .mv (.t 1)⟩, ⟨some 6, none, .fa 1 (.t 2)⟩, ⟨some 7, none, .ld 1 false (.t 6)⟩, ⟨some 8, none, .len false (.t 7)⟩, ⟨some 9, none, .bin .sub (.t 8) (.c (.int .i64 1))⟩, ⟨some 10, none, .call 109 [(.t 5), (.c (.int .i64 0)), (.t 9)]⟩, ⟨some 4, none, .mv (.t 10)⟩]) (.ret))⟩
def K_impl_isMonitor : Keeps := []
theorem r_impl_isMonitor : resolveF Try.prog Try.f108 K_impl_isMonitor = some F_impl_isMonitor := by kernel_rfl
noncomputable def X_impl_isMonitor : Ctx := Ctx.cons 109 G_impl_within (fun _ => none)
theorem co_impl_isMonitor : CtxOk Try.prog X_impl_isMonitor := CtxOk.cons (CtxOk.nil) ok_impl_within
theorem cx_impl_isMonitor : ((∀ args hp, callX X_impl_isMonitor 109 args hp = callS G_impl_within args hp) ∧ (trC (X_impl_isMonitor 109) = false)) := ⟨fun _ _ => rfl, rfl⟩
noncomputable def S_impl_isMonitor : ByV := ⟨none, false, semF X_impl_isMonitor F_impl_isMonitor none false⟩
noncomputable def G_impl_isMonitor : CK := .byv S_impl_isMonitor
theorem sg_impl_isMonitor (args : List AV) : S_impl_isMonitor.sem args = semF X_impl_isMonitor F_impl_isMonitor none false args := rfl
theorem cl_impl_isMonitor (args : List AV) (hp : Hp) : callS G_impl_isMonitor args hp = byvS S_impl_isMonitor args hp := callS_byv rfl rfl args hp
theorem ok_impl_isMonitor : InlOk Try.prog 108 (callS G_impl_isMonitor) := byv_none co_impl_isMonitor Try.func108 r_impl_isMonitor rfl (fun _ _ h => h)
/- 179 impl_sharedSize calls []  -/
def B0_impl_sharedSize : RC :=
  .seq (.reg [⟨some 9, none, .bin .lss (.t 8) (.t 7)⟩]) (.seq (.cond (.t 9) (.skip) (.exit 0)) (.seq (.block 1 (.seq (.reg [⟨some 10, none, .ia 4 (.t 6) (.t 8)⟩, ⟨some 11, none, .ld 4 true (.t 10)⟩, ⟨some 5, none, .new [(.str ⟨#[]⟩), (.nil 1), (.nil 1), (.nil 3)]⟩, ⟨none, none, .st 4 (.t 5) (.t 11)⟩]) (.reg [⟨some 12, none, .mv (.t 3)⟩, ⟨some 13, none, .fa 1 (.t 5)⟩, ⟨some 14, none, .ld 1 false (.t 13)⟩, ⟨some 15, none, .len false (.t 14)⟩, ⟨some 16, none, .bin .add (.t 12) (.t 15)⟩, ⟨some 3, none, .mv (.t 16)⟩]))) (.reg [⟨some 17, none, .bin .add (.t 8) (.c (.int .i64 1))⟩, ⟨some 8, none, .mv (.t 17)⟩])))
def F_impl_sharedSize : RF := ⟨19, 1, [.t 2],
  .seq (.reg [⟨some 2, none, .mv (.c (.int .i64 0))⟩]) (.seq (.reg [⟨some 3, none, .mv (.c (.int .i64 0))⟩]) (.seq (.seq (.reg [⟨some 6, none, .mv (.t 0)⟩, ⟨some 7, none, .len false (.t 6)⟩, ⟨some 8, none, .mv (.c (.int .i64 0))⟩]) (.block 0 (.loop [3, 6, 7, 8] [(1, [3])] B0_impl_sharedSize))) (.seq (.reg [⟨some 18, none, .mv (.t 3)⟩, ⟨some 2, none, .mv (.t 18)⟩]) (.ret))))⟩
def K_impl_sharedSize : Keeps := [([3, 6, 7, 8], [(1, [3])])]
theorem r_impl_sharedSize : resolveF Try.prog Try.f179 K_impl_sharedSize = some F_impl_sharedSize := by kernel_rfl
noncomputable def X_impl_sharedSize : Ctx := fun _ => none
theorem co_impl_sharedSize : CtxOk Try.prog X_impl_sharedSize := CtxOk.nil
theorem cx_impl_sharedSize : True := trivial
noncomputable def S_impl_sharedSize : ByV := ⟨none, false, semF X_impl_sharedSize F_impl_sharedSize none false⟩
noncomputable def G_impl_sharedSize : CK := .byv S_impl_sharedSize
theorem sg_impl_sharedSize (args : List AV) : S_impl_sharedSize.sem args = semF X_impl_sharedSize F_impl_sharedSize none false args := rfl
theorem cl_impl_sharedSize (args : List AV) (hp : Hp) : callS G_impl_sharedSize args hp = byvS S_impl_sharedSize args hp := callS_byv rfl rfl args hp
theorem ok_impl_sharedSize : InlOk Try.prog 179 (callS G_impl_sharedSize) := byv_none co_impl_sharedSize Try.func179 r_impl_sharedSize rfl (fun _ _ h => h)
/- 97 impl_VarAt calls [impl_isProcess, impl_within, impl_sharedSize]  -/
def B0_impl_VarAt : RC :=
  .seq (.reg [⟨some 38, none, .bin .lss (.t 37) (.t 36)⟩]) (.seq (.cond (.t 38) (.skip) (.exit 0)) (.seq (.block 1 (.seq (.reg [⟨some 39, none, .ia 4 (.t 35) (.t 37)⟩, ⟨some 40, none, .ld 4 true (.t 39)⟩, ⟨some 9, none, .new [(.str ⟨#[]⟩), (.nil 1), (.nil 1), (.int .i64 0)]⟩, ⟨none, none, .st 4 (.t 9) (.t 40)⟩]) (.reg [⟨some 41, none, .mv (.t 7)⟩, ⟨some 42, none, .fa 2 (.t 9)⟩, ⟨some 43, none, .ld 1 false (.t 42)⟩, ⟨some 44, none, .len false (.t 43)⟩, ⟨some 45, none, .bin .add (.t 44) (.c (.int .i64 2))⟩, ⟨some 46, none, .bin .add (.t 41) (.t 45)⟩, ⟨some 7, none, .mv (.t 46)⟩]))) (.reg [⟨some 47, none, .bin .add (.t 37) (.c (.int .i64 1))⟩, ⟨some 37, none, .mv (.t 47)⟩])))
def F_impl_VarAt : RF := ⟨49, 3, [.t 6],
  .seq (.reg [⟨some 3, none, .box (.t 0)⟩, ⟨some 6, none, .mv (.c (.int .i64 0))⟩]) (.seq (.seq (.reg [⟨some 10, none, .ld 3 true (.t 3)⟩, ⟨some 11, none, .mv (.t 1)⟩, ⟨some 12, none, .call 96 [(.t 10), (.t 11)]⟩, ⟨some 13, none, .un .not (.t 12)⟩, ⟨some 14, none, .mv (.t 13)⟩, ⟨some 15, some (14, false), .mv (.t 2)⟩, ⟨some 16, some (14, false), .fa 2 (.t 3)⟩, ⟨some 17, some (14, false), .ld 1 false (.t 16)⟩, ⟨some 18, some (14, false), .mv (.t 1)⟩, ⟨some 19, some (14, false), .ia 4 (.t 17) (.t 18)⟩, ⟨some 20, some (14, false), .fa 2 (.t 19)⟩, ⟨some 21, some (14, false), .ld 1 false (.t 20)⟩, ⟨some 22, some (14, false), .len false (.t 21)⟩, ⟨some 23, some (14, false), .call 109 [(.t 15), (.c (.int .i64 0)), (.t 22)]⟩, ⟨some 24, some (14, false), .un .not (.t 23)⟩, ⟨some 25, none, .pick (.t 14) (.c (.bool true)) (.t 24)⟩]) (.cond (.t 25) (.seq (.reg [⟨some 6, none, .mv (.c (.int .i64 (-1)))⟩]) (.ret)) (.skip))) (.seq (.reg [⟨some 26, none, .fa 1 (.t 3)⟩, ⟨some 27, none, .ld 1 false (.t 26)⟩, ⟨some 28, none, .call 179 [(.t 27)]⟩, ⟨some 29, none, .bin .add (.c (.int .i64 1)) (.t 28)⟩, ⟨some 30, none, .mv (.t 2)⟩, ⟨some 31, none, .bin .add (.t 29) (.t 30)⟩, ⟨some 7, none, .mv (.t 31)⟩]) (.seq (.seq (.reg [⟨some 32, none, .fa 2 (.t 3)⟩, ⟨some 33, none, .ld 1 false (.t 32)⟩, ⟨some 34, none, .mv (.t 1)⟩, ⟨some 35, none, .slc false 4 (.t 33) none (some (.t 34))⟩, ⟨some 36, none, .len false (.t 35)⟩, ⟨some 37, none, .mv (.c (.int .i64 0))⟩]) (.block 0 (.loop [7, 35, 36, 37] [(1, [7])] B0_impl_VarAt))) (.seq (.reg [⟨some 48, none, .mv (.t 7)⟩, ⟨some 6, none, .mv (.t 48)⟩]) (.ret)))))⟩
def K_impl_VarAt : Keeps := [([7, 35, 36, 37], [(1, [7])])]
theorem r_impl_VarAt : resolveF Try.prog Try.f97 K_impl_VarAt = some F_impl_VarAt := by kernel_rfl
noncomputable def X_impl_VarAt : Ctx := Ctx.cons 96 G_impl_isProcess (Ctx.cons 109 G_impl_within (Ctx.cons 179 G_impl_sharedSize (fun _ => none)))
theorem co_impl_VarAt : CtxOk Try.prog X_impl_VarAt := CtxOk.cons (CtxOk.cons (CtxOk.cons (CtxOk.nil) ok_impl_sharedSize) ok_impl_within) ok_impl_isProcess
theorem cx_impl_VarAt : ((∀ args hp, callX X_impl_VarAt 96 args hp = callS G_impl_isProcess args hp) ∧ (trC (X_impl_VarAt 96) = false)) ∧ ((∀ args hp, callX X_impl_VarAt 109 args hp = callS G_impl_within args hp) ∧ (trC (X_impl_VarAt 109) = false)) ∧ ((∀ args hp, callX X_impl_VarAt 179 args hp = callS G_impl_sharedSize args hp) ∧ (trC (X_impl_VarAt 179) = false)) := ⟨⟨fun _ _ => rfl, rfl⟩, ⟨fun _ _ => rfl, rfl⟩, ⟨fun _ _ => rfl, rfl⟩⟩
noncomputable def S_impl_VarAt : ByV := ⟨none, false, semF X_impl_VarAt F_impl_VarAt none false⟩
noncomputable def G_impl_VarAt : CK := .byv S_impl_VarAt
theorem sg_impl_VarAt (args : List AV) : S_impl_VarAt.sem args = semF X_impl_VarAt F_impl_VarAt none false args := rfl
theorem cl_impl_VarAt (args : List AV) (hp : Hp) : callS G_impl_VarAt args hp = byvS S_impl_VarAt args hp := callS_byv rfl rfl args hp
theorem ok_impl_VarAt : InlOk Try.prog 97 (callS G_impl_VarAt) := byv_none co_impl_VarAt Try.func97 r_impl_VarAt rfl (fun _ _ h => h)
/- 24 impl_ArgAt calls [impl_isProcess, impl_VarAt]  -/
def F_impl_ArgAt : RF := ⟨19, 2, [.t 4],
  .seq (.reg [⟨some 2, none, .box (.t 0)⟩, ⟨some 4, none, .mv (.c (.int .i64 0))⟩]) (.seq (.seq (.reg [⟨some 5, none, .ld 3 true (.t 2)⟩, ⟨some 6, none, .mv (.t 1)⟩, ⟨some 7, none, .call 96 [(.t 5), (.t 6)]⟩, ⟨some 8, none, .un .not (.t 7)⟩]) (.cond (.t 8) (.seq (.reg [⟨some 4, none, .mv (.c (.int .i64 (-1)))⟩]) (.ret)) (.skip))) (.seq (.regd [(1, ⟨some 9, none, .ld 3 true (.t 2)⟩), (0, ⟨some 10, none, .mv (.t 1)⟩), (0, ⟨some 11, none, .fa 2 (.t 2)⟩), (1, ⟨some 12, none, .ld 1 false (.t 11)⟩), (0, ⟨some 13, none, .mv (.t 1)⟩), (1, ⟨some 14, none, .ia 4 (.t 12) (.t 13)⟩), (0, ⟨some 15, none, .fa 2 (.t 14)⟩), (1, ⟨some 16, none, .ld 1 false (.t 15)⟩), (0, ⟨some 17, none, .len false (.t 16)⟩), (1, ⟨some 18, none, .call 97 [(.t 9), (.t 10), (.t 17)]⟩), (0, ⟨some 4, none, .mv (.t 18)⟩)] []) (.ret)))⟩
def K_impl_ArgAt : Keeps := []
theorem r_impl_ArgAt : resolveF Try.prog Try.f24 K_impl_ArgAt = some F_impl_ArgAt := by kernel_rfl
noncomputable def X_impl_ArgAt : Ctx := Ctx.cons 96 G_impl_isProcess (Ctx.cons 97 G_impl_VarAt (fun _ => none))
theorem co_impl_ArgAt : CtxOk Try.prog X_impl_ArgAt := CtxOk.cons (CtxOk.cons (CtxOk.nil) ok_impl_VarAt) ok_impl_isProcess
theorem cx_impl_ArgAt : ((∀ args hp, callX X_impl_ArgAt 96 args hp = callS G_impl_isProcess args hp) ∧ (trC (X_impl_ArgAt 96) = false)) ∧ ((∀ args hp, callX X_impl_ArgAt 97 args hp = callS G_impl_VarAt args hp) ∧ (trC (X_impl_ArgAt 97) = false)) := ⟨⟨fun _ _ => rfl, rfl⟩, ⟨fun _ _ => rfl, rfl⟩⟩
noncomputable def S_impl_ArgAt : ByV := ⟨none, false, semF X_impl_ArgAt F_impl_ArgAt none false⟩
noncomputable def G_impl_ArgAt : CK := .byv S_impl_ArgAt
theorem sg_impl_ArgAt (args : List AV) : S_impl_ArgAt.sem args = semF X_impl_ArgAt F_impl_ArgAt none false args := rfl
theorem cl_impl_ArgAt (args : List AV) (hp : Hp) : callS G_impl_ArgAt args hp = byvS S_impl_ArgAt args hp := callS_byv rfl rfl args hp
theorem ok_impl_ArgAt : InlOk Try.prog 24 (callS G_impl_ArgAt) := byv_none co_impl_ArgAt Try.func24 r_impl_ArgAt rfl (fun _ _ h => h)
/- 27 impl_ResultAt calls [impl_ArgAt]  -/
def F_impl_ResultAt : RF := ⟨13, 2, [.t 4],
  .seq (.reg [⟨some 2, none, .box (.t 0)⟩, ⟨some 4, none, .mv (.c (.int .i64 0))⟩]) (.seq (.reg [⟨some 6, none, .ld 3 true (.t 2)⟩, ⟨some 7, none, .mv (.t 1)⟩, ⟨some 8, none, .call 24 [(.t 6), (.t 7)]⟩, ⟨some 5, none, .mv (.t 8)⟩]) (.seq (.seq (.reg [⟨some 9, none, .mv (.t 5)⟩, ⟨some 10, none, .bin .lss (.t 9) (.c (.int .i64 0))⟩]) (.cond (.t 10) (.seq (.reg [⟨some 4, none, .mv (.c (.int .i64 (-1)))⟩]) (.ret)) (.skip))) (.seq (.reg [⟨some 11, none, .mv (.t 5)⟩, ⟨some 12, none, .bin .add (.t 11) (.c (.int .i64 1))⟩, ⟨some 4, none, .mv (.t 12)⟩]) (.ret))))⟩
def K_impl_ResultAt : Keeps := []
theorem r_impl_ResultAt : resolveF Try.prog Try.f27 K_impl_ResultAt = some F_impl_ResultAt := by kernel_rfl
noncomputable def X_impl_ResultAt : Ctx := Ctx.cons 24 G_impl_ArgAt (fun _ => none)
theorem co_impl_ResultAt : CtxOk Try.prog X_impl_ResultAt := CtxOk.cons (CtxOk.nil) ok_impl_ArgAt
theorem cx_impl_ResultAt : ((∀ args hp, callX X_impl_ResultAt 24 args hp = callS G_impl_ArgAt args hp) ∧ (trC (X_impl_ResultAt 24) = false)) := ⟨fun _ _ => rfl, rfl⟩
noncomputable def S_impl_ResultAt : ByV := ⟨none, false, semF X_impl_ResultAt F_impl_ResultAt none false⟩
noncomputable def G_impl_ResultAt : CK := .byv S_impl_ResultAt
theorem sg_impl_ResultAt (args : List AV) : S_impl_ResultAt.sem args = semF X_impl_ResultAt F_impl_ResultAt none false args := rfl
theorem cl_impl_ResultAt (args : List AV) (hp : Hp) : callS G_impl_ResultAt args hp = byvS S_impl_ResultAt args hp := callS_byv rfl rfl args hp
theorem ok_impl_ResultAt : InlOk Try.prog 27 (callS G_impl_ResultAt) := byv_none co_impl_ResultAt Try.func27 r_impl_ResultAt rfl (fun _ _ h => h)
/- 110 impl_SharedAt calls [impl_isMonitor, impl_within, impl_sharedSize]  -/
def F_impl_SharedAt : RF := ⟨32, 3, [.t 6],
  .seq (.reg [⟨some 3, none, .box (.t 0)⟩, ⟨some 6, none, .mv (.c (.int .i64 0))⟩]) (.seq (.seq (.reg [⟨some 7, none, .ld 3 true (.t 3)⟩, ⟨some 8, none, .mv (.t 1)⟩, ⟨some 9, none, .call 108 [(.t 7), (.t 8)]⟩, ⟨some 10, none, .un .not (.t 9)⟩, ⟨some 11, none, .mv (.t 10)⟩, ⟨some 12, some (11, false), .mv (.t 2)⟩, ⟨some 13, some (11, false), .fa 1 (.t 3)⟩, ⟨some 14, some (11, false), .ld 1 false (.t 13)⟩, ⟨some 15, some (11, false), .mv (.t 1)⟩, ⟨some 16, some (11, false), .ia 4 (.t 14) (.t 15)⟩, ⟨some 17, some (11, false), .fa 1 (.t 16)⟩, ⟨some 18, some (11, false), .ld 1 false (.t 17)⟩, ⟨some 19, some (11, false), .len false (.t 18)⟩, ⟨some 20, some (11, false), .bin .sub (.t 19) (.c (.int .i64 1))⟩, ⟨some 21, some (11, false), .call 109 [(.t 12), (.c (.int .i64 0)), (.t 20)]⟩, ⟨some 22, some (11, false), .un .not (.t 21)⟩, ⟨some 23, none, .pick (.t 11) (.c (.bool true)) (.t 22)⟩]) (.cond (.t 23) (.seq (.reg [⟨some 6, none, .mv (.c (.int .i64 (-1)))⟩]) (.ret)) (.skip))) (.seq (.reg [⟨some 24, none, .fa 1 (.t 3)⟩, ⟨some 25, none, .ld 1 false (.t 24)⟩, ⟨some 26, none, .mv (.t 1)⟩, ⟨some 27, none, .slc false 4 (.t 25) none (some (.t 26))⟩, ⟨some 28, none, .call 179 [(.t 27)]⟩, ⟨some 29, none, .bin .add (.c (.int .i64 1)) (.t 28)⟩, ⟨some 30, none, .mv (.t 2)⟩, ⟨some 31, none, .bin .add (.t 29) (.t 30)⟩, ⟨some 6, none, .mv (.t 31)⟩]) (.ret)))⟩
def K_impl_SharedAt : Keeps := []
theorem r_impl_SharedAt : resolveF Try.prog Try.f110 K_impl_SharedAt = some F_impl_SharedAt := by kernel_rfl
noncomputable def X_impl_SharedAt : Ctx := Ctx.cons 108 G_impl_isMonitor (Ctx.cons 109 G_impl_within (Ctx.cons 179 G_impl_sharedSize (fun _ => none)))
theorem co_impl_SharedAt : CtxOk Try.prog X_impl_SharedAt := CtxOk.cons (CtxOk.cons (CtxOk.cons (CtxOk.nil) ok_impl_sharedSize) ok_impl_within) ok_impl_isMonitor
theorem cx_impl_SharedAt : ((∀ args hp, callX X_impl_SharedAt 108 args hp = callS G_impl_isMonitor args hp) ∧ (trC (X_impl_SharedAt 108) = false)) ∧ ((∀ args hp, callX X_impl_SharedAt 109 args hp = callS G_impl_within args hp) ∧ (trC (X_impl_SharedAt 109) = false)) ∧ ((∀ args hp, callX X_impl_SharedAt 179 args hp = callS G_impl_sharedSize args hp) ∧ (trC (X_impl_SharedAt 179) = false)) := ⟨⟨fun _ _ => rfl, rfl⟩, ⟨fun _ _ => rfl, rfl⟩, ⟨fun _ _ => rfl, rfl⟩⟩
noncomputable def S_impl_SharedAt : ByV := ⟨none, false, semF X_impl_SharedAt F_impl_SharedAt none false⟩
noncomputable def G_impl_SharedAt : CK := .byv S_impl_SharedAt
theorem sg_impl_SharedAt (args : List AV) : S_impl_SharedAt.sem args = semF X_impl_SharedAt F_impl_SharedAt none false args := rfl
theorem cl_impl_SharedAt (args : List AV) (hp : Hp) : callS G_impl_SharedAt args hp = byvS S_impl_SharedAt args hp := callS_byv rfl rfl args hp
theorem ok_impl_SharedAt : InlOk Try.prog 110 (callS G_impl_SharedAt) := byv_none co_impl_SharedAt Try.func110 r_impl_SharedAt rfl (fun _ _ h => h)
/- 35 impl_EntryPlaces calls [impl_isProcess, impl_isMonitor, impl_within, impl_ArgAt, impl_ResultAt, impl_SharedAt]  -/
def B0_impl_EntryPlaces : RC :=
  .seq (.reg [⟨some 63, none, .bin .lss (.t 62) (.t 61)⟩]) (.seq (.cond (.t 63) (.skip) (.exit 0)) (.seq (.block 1 (.seq (.reg [⟨some 64, none, .mv (.t 62)⟩, ⟨some 65, none, .ia 1 (.t 60) (.t 62)⟩, ⟨some 66, none, .ld 1 false (.t 65)⟩, ⟨some 10, none, .mv (.t 64)⟩, ⟨some 11, none, .mv (.t 66)⟩]) (.seq (.reg [⟨some 67, none, .fa 0 (.t 9)⟩, ⟨some 68, none, .ld 1 false (.t 67)⟩, ⟨some 69, none, .mv (.t 11)⟩, ⟨some 70, none, .bsl 1 [(.t 69)]⟩, ⟨some 71, none, .app true 1 16 (.t 68) (.t 70)⟩, ⟨some 72, none, .fa 0 (.t 9)⟩, ⟨none, none, .st 1 (.t 72) (.t 71)⟩]) (.regd [(0, ⟨some 73, none, .fa 1 (.t 9)⟩), (2, ⟨some 74, none, .ld 1 false (.t 73)⟩), (1, ⟨some 75, none, .ld 3 true (.t 4)⟩), (0, ⟨some 76, none, .mv (.t 2)⟩), (0, ⟨some 77, none, .mv (.t 10)⟩), (2, ⟨some 78, none, .call 110 [(.t 75), (.t 76), (.t 77)]⟩), (2, ⟨some 79, none, .bsl 1 [(.t 78)]⟩), (1, ⟨some 80, none, .app true 1 8 (.t 74) (.t 79)⟩), (0, ⟨some 81, none, .fa 1 (.t 9)⟩), (1, ⟨none, none, .st 1 (.t 81) (.t 80)⟩)] [(1, 5), (1, 6)])))) (.reg [⟨some 82, none, .bin .add (.t 62) (.c (.int .i64 1))⟩, ⟨some 62, none, .mv (.t 82)⟩])))
def F_impl_EntryPlaces : RF := ⟨84, 4, [.cell 8 2 true],
  .seq (.reg [⟨some 4, none, .box (.t 0)⟩, ⟨some 8, none, .new [(.nil 1), (.nil 1)]⟩]) (.seq (.seq (.reg [⟨some 12, none, .ld 3 true (.t 4)⟩, ⟨some 13, none, .mv (.t 1)⟩, ⟨some 14, none, .call 96 [(.t 12), (.t 13)]⟩, ⟨some 15, none, .un .not (.t 14)⟩, ⟨some 16, none, .mv (.t 15)⟩, ⟨some 17, some (16, false), .ld 3 true (.t 4)⟩, ⟨some 18, some (16, false), .mv (.t 2)⟩, ⟨some 19, some (16, false), .call 108 [(.t 17), (.t 18)]⟩, ⟨some 20, some (16, false), .un .not (.t 19)⟩, ⟨some 21, none, .pick (.t 16) (.c (.bool true)) (.t 20)⟩, ⟨some 22, none, .mv (.t 21)⟩, ⟨some 23, some (22, false), .mv (.t 3)⟩, ⟨some 24, some (22, false), .fa 1 (.t 4)⟩, ⟨some 25, some (22, false), .ld 1 false (.t 24)⟩, ⟨some 26, some (22, false), .mv (.t 2)⟩, ⟨some 27, some (22, false), .ia 4 (.t 25) (.t 26)⟩, ⟨some 28, some (22, false), .fa 3 (.t 27)⟩, ⟨some 29, some (22, false), .ld 1 false (.t 28)⟩, ⟨some 30, some (22, false), .len false (.t 29)⟩, ⟨some 31, some (22, false), .bin .sub (.t 30) (.c (.int .i64 1))⟩, ⟨some 32, some (22, false), .call 109 [(.t 23), (.c (.int .i64 0)), (.t 31)]⟩, ⟨some 33, some (22, false), .un .not (.t 32)⟩, ⟨some 34, none, .pick (.t 22) (.c (.bool true)) (.t 33)⟩]) (.cond (.t 34) (.seq (.reg [⟨some 35, none, .build [(.nil 1), (.nil 1)] []⟩, ⟨none, none, .st 2 (.t 8) (.t 35)⟩]) (.ret)) (.skip))) (.seq (.regd [(0, ⟨some 36, none, .fa 1 (.t 4)⟩), (2, ⟨some 37, none, .ld 1 false (.t 36)⟩), (0, ⟨some 38, none, .mv (.t 2)⟩), (2, ⟨some 39, none, .ia 4 (.t 37) (.t 38)⟩), (0, ⟨some 40, none, .fa 3 (.t 39)⟩), (2, ⟨some 41, none, .ld 1 false (.t 40)⟩), (0, ⟨some 42, none, .mv (.t 3)⟩), (2, ⟨some 43, none, .ia 3 (.t 41) (.t 42)⟩), (0, ⟨some 44, none, .fa 1 (.t 43)⟩), (2, ⟨some 45, none, .ld 1 false (.t 44)⟩), (2, ⟨some 46, none, .bsl 1 [(.t 45), (.c (.str ⟨#[114, 101, 115, 117, 108, 116]⟩))]⟩), (2, ⟨some 47, none, .ld 3 true (.t 4)⟩), (0, ⟨some 48, none, .mv (.t 1)⟩), (2, ⟨some 49, none, .call 24 [(.t 47), (.t 48)]⟩), (2, ⟨some 50, none, .ld 3 true (.t 4)⟩), (0, ⟨some 51, none, .mv (.t 1)⟩), (2, ⟨some 52, none, .call 27 [(.t 50), (.t 51)]⟩), (2, ⟨some 53, none, .bsl 1 [(.t 49), (.t 52)]⟩), (0, ⟨some 54, none, .build [(.nil 1), (.nil 1)] [(0, 1, (.t 46)), (1, 1, (.t 53))]⟩), (2, ⟨some 9, none, .new [(.nil 1), (.nil 1)]⟩), (1, ⟨none, none, .st 2 (.t 9) (.t 54)⟩)] [(10, 11), (1, 13), (3, 13), (5, 13), (7, 13), (9, 13), (10, 13), (10, 14), (13, 14), (1, 16), (3, 16), (5, 16), (7, 16), (9, 16), (10, 16), (1, 17), (3, 17), (5, 17), (7, 17), (9, 17), (10, 17), (1, 19), (3, 19), (5, 19), (7, 19), (9, 19), (10, 19), (11, 19), (13, 19), (14, 19), (16, 19), (17, 19)]) (.seq (.seq (.reg [⟨some 55, none, .fa 1 (.t 4)⟩, ⟨some 56, none, .ld 1 false (.t 55)⟩, ⟨some 57, none, .mv (.t 2)⟩, ⟨some 58, none, .ia 4 (.t 56) (.t 57)⟩, ⟨some 59, none, .fa 1 (.t 58)⟩, ⟨some 60, none, .ld 1 false (.t 59)⟩, ⟨some 61, none, .len false (.t 60)⟩, ⟨some 62, none, .mv (.c (.int .i64 0))⟩]) (.block 0 (.loop [2, 4, 8, 9, 60, 61, 62] [(1, [8, 9])] B0_impl_EntryPlaces))) (.seq (.reg [⟨some 83, none, .ld 2 true (.t 9)⟩, ⟨none, none, .st 2 (.t 8) (.t 83)⟩]) (.ret)))))⟩
def K_impl_EntryPlaces : Keeps := [([2, 4, 8, 9, 60, 61, 62], [(1, [8, 9])])]
theorem r_impl_EntryPlaces : resolveF Try.prog Try.f35 K_impl_EntryPlaces = some F_impl_EntryPlaces := by kernel_rfl
noncomputable def X_impl_EntryPlaces : Ctx := Ctx.cons 96 G_impl_isProcess (Ctx.cons 108 G_impl_isMonitor (Ctx.cons 109 G_impl_within (Ctx.cons 24 G_impl_ArgAt (Ctx.cons 27 G_impl_ResultAt (Ctx.cons 110 G_impl_SharedAt (fun _ => none))))))
theorem co_impl_EntryPlaces : CtxOk Try.prog X_impl_EntryPlaces := CtxOk.cons (CtxOk.cons (CtxOk.cons (CtxOk.cons (CtxOk.cons (CtxOk.cons (CtxOk.nil) ok_impl_SharedAt) ok_impl_ResultAt) ok_impl_ArgAt) ok_impl_within) ok_impl_isMonitor) ok_impl_isProcess
theorem cx_impl_EntryPlaces : ((∀ args hp, callX X_impl_EntryPlaces 96 args hp = callS G_impl_isProcess args hp) ∧ (trC (X_impl_EntryPlaces 96) = false)) ∧ ((∀ args hp, callX X_impl_EntryPlaces 108 args hp = callS G_impl_isMonitor args hp) ∧ (trC (X_impl_EntryPlaces 108) = false)) ∧ ((∀ args hp, callX X_impl_EntryPlaces 109 args hp = callS G_impl_within args hp) ∧ (trC (X_impl_EntryPlaces 109) = false)) ∧ ((∀ args hp, callX X_impl_EntryPlaces 24 args hp = callS G_impl_ArgAt args hp) ∧ (trC (X_impl_EntryPlaces 24) = false)) ∧ ((∀ args hp, callX X_impl_EntryPlaces 27 args hp = callS G_impl_ResultAt args hp) ∧ (trC (X_impl_EntryPlaces 27) = false)) ∧ ((∀ args hp, callX X_impl_EntryPlaces 110 args hp = callS G_impl_SharedAt args hp) ∧ (trC (X_impl_EntryPlaces 110) = false)) := ⟨⟨fun _ _ => rfl, rfl⟩, ⟨fun _ _ => rfl, rfl⟩, ⟨fun _ _ => rfl, rfl⟩, ⟨fun _ _ => rfl, rfl⟩, ⟨fun _ _ => rfl, rfl⟩, ⟨fun _ _ => rfl, rfl⟩⟩
noncomputable def S_impl_EntryPlaces : ByV := ⟨none, false, semF X_impl_EntryPlaces F_impl_EntryPlaces none false⟩
noncomputable def G_impl_EntryPlaces : CK := .byv S_impl_EntryPlaces
theorem sg_impl_EntryPlaces (args : List AV) : S_impl_EntryPlaces.sem args = semF X_impl_EntryPlaces F_impl_EntryPlaces none false args := rfl
theorem cl_impl_EntryPlaces (args : List AV) (hp : Hp) : callS G_impl_EntryPlaces args hp = byvS S_impl_EntryPlaces args hp := callS_byv rfl rfl args hp
theorem ok_impl_EntryPlaces : InlOk Try.prog 35 (callS G_impl_EntryPlaces) := byv_none co_impl_EntryPlaces Try.func35 r_impl_EntryPlaces rfl (fun _ _ h => h)
/- 101 laws_eqStringS calls []  -/
def B0_laws_eqStringS : RC :=
  .seq (.seq (.reg [⟨some 11, none, .mv (.t 5)⟩, ⟨some 12, none, .mv (.t 0)⟩, ⟨some 13, none, .len false (.t 12)⟩, ⟨some 14, none, .bin .lss (.t 11) (.t 13)⟩]) (.cond (.t 14) (.skip) (.exit 0))) (.seq (.block 1 (.seq (.regd [(0, ⟨some 17, none, .mv (.t 0)⟩), (0, ⟨some 18, none, .mv (.t 5)⟩), (1, ⟨some 19, none, .ia 1 (.t 17) (.t 18)⟩), (1, ⟨some 20, none, .ld 1 false (.t 19)⟩), (0, ⟨some 21, none, .mv (.t 1)⟩), (0, ⟨some 22, none, .mv (.t 5)⟩), (1, ⟨some 23, none, .ia 1 (.t 21) (.t 22)⟩), (1, ⟨some 24, none, .ld 1 false (.t 23)⟩), (0, ⟨some 25, none, .bin .neq (.t 20) (.t 24)⟩)] []) (.cond (.t 25) (.seq (.reg [⟨some 4, none, .mv (.c (.bool false))⟩]) (.ret)) (.skip)))) (.reg [⟨some 15, none, .mv (.t 5)⟩, ⟨some 16, none, .bin .add (.t 15) (.c (.int .i64 1))⟩, ⟨some 5, none, .mv (.t 16)⟩]))
def F_laws_eqStringS : RF := ⟨26, 2, [.t 4],
  .seq (.reg [⟨some 4, none, .mv (.c (.bool false))⟩]) (.seq (.seq (.reg [⟨some 6, none, .mv (.t 0)⟩, ⟨some 7, none, .len false (.t 6)⟩, ⟨some 8, none, .mv (.t 1)⟩, ⟨some 9, none, .len false (.t 8)⟩, ⟨some 10, none, .bin .neq (.t 7) (.t 9)⟩]) (.cond (.t 10) (.seq (.reg [⟨some 4, none, .mv (.c (.bool false))⟩]) (.ret)) (.skip))) (.seq (.seq (.reg [⟨some 5, none, .mv (.c (.int .i64 0))⟩]) (.block 0 (.loop [0, 1, 5] [(1, []), (0, [4])] B0_laws_eqStringS))) (.seq (.reg [⟨some 4, none, .mv (.c (.bool true))⟩]) (.ret))))⟩
def K_laws_eqStringS : Keeps := [([0, 1, 5], [(1, []), (0, [4])])]
theorem r_laws_eqStringS : resolveF Try.prog Try.f101 K_laws_eqStringS = some F_laws_eqStringS := by kernel_rfl
noncomputable def X_laws_eqStringS : Ctx := fun _ => none
theorem co_laws_eqStringS : CtxOk Try.prog X_laws_eqStringS := CtxOk.nil
theorem cx_laws_eqStringS : True := trivial
noncomputable def S_laws_eqStringS : ByV := ⟨none, false, semF X_laws_eqStringS F_laws_eqStringS none false⟩
noncomputable def G_laws_eqStringS : CK := .byv S_laws_eqStringS
theorem sg_laws_eqStringS (args : List AV) : S_laws_eqStringS.sem args = semF X_laws_eqStringS F_laws_eqStringS none false args := rfl
theorem cl_laws_eqStringS (args : List AV) (hp : Hp) : callS G_laws_eqStringS args hp = byvS S_laws_eqStringS args hp := callS_byv rfl rfl args hp
theorem ok_laws_eqStringS : InlOk Try.prog 101 (callS G_laws_eqStringS) := byv_none co_laws_eqStringS Try.func101 r_laws_eqStringS rfl (fun _ _ h => h)
/- 54 laws_eqIntS calls []  -/
def B0_laws_eqIntS : RC :=
  .seq (.seq (.reg [⟨some 11, none, .mv (.t 5)⟩, ⟨some 12, none, .mv (.t 0)⟩, ⟨some 13, none, .len false (.t 12)⟩, ⟨some 14, none, .bin .lss (.t 11) (.t 13)⟩]) (.cond (.t 14) (.skip) (.exit 0))) (.seq (.block 1 (.seq (.regd [(0, ⟨some 17, none, .mv (.t 0)⟩), (0, ⟨some 18, none, .mv (.t 5)⟩), (1, ⟨some 19, none, .ia 1 (.t 17) (.t 18)⟩), (1, ⟨some 20, none, .ld 1 false (.t 19)⟩), (0, ⟨some 21, none, .mv (.t 1)⟩), (0, ⟨some 22, none, .mv (.t 5)⟩), (1, ⟨some 23, none, .ia 1 (.t 21) (.t 22)⟩), (1, ⟨some 24, none, .ld 1 false (.t 23)⟩), (0, ⟨some 25, none, .bin .neq (.t 20) (.t 24)⟩)] []) (.cond (.t 25) (.seq (.reg [⟨some 4, none, .mv (.c (.bool false))⟩]) (.ret)) (.skip)))) (.reg [⟨some 15, none, .mv (.t 5)⟩, ⟨some 16, none, .bin .add (.t 15) (.c (.int .i64 1))⟩, ⟨some 5, none, .mv (.t 16)⟩]))
def F_laws_eqIntS : RF := ⟨26, 2, [.t 4],
  .seq (.reg [⟨some 4, none, .mv (.c (.bool false))⟩]) (.seq (.seq (.reg [⟨some 6, none, .mv (.t 0)⟩, ⟨some 7, none, .len false (.t 6)⟩, ⟨some 8, none, .mv (.t 1)⟩, ⟨some 9, none, .len false (.t 8)⟩, ⟨some 10, none, .bin .neq (.t 7) (.t 9)⟩]) (.cond (.t 10) (.seq (.reg [⟨some 4, none, .mv (.c (.bool false))⟩]) (.ret)) (.skip))) (.seq (.seq (.reg [⟨some 5, none, .mv (.c (.int .i64 0))⟩]) (.block 0 (.loop [0, 1, 5] [(1, []), (0, [4])] B0_laws_eqIntS))) (.seq (.reg [⟨some 4, none, .mv (.c (.bool true))⟩]) (.ret))))⟩
def K_laws_eqIntS : Keeps := [([0, 1, 5], [(1, []), (0, [4])])]
theorem r_laws_eqIntS : resolveF Try.prog Try.f54 K_laws_eqIntS = some F_laws_eqIntS := by kernel_rfl
noncomputable def X_laws_eqIntS : Ctx := fun _ => none
theorem co_laws_eqIntS : CtxOk Try.prog X_laws_eqIntS := CtxOk.nil
theorem cx_laws_eqIntS : True := trivial
noncomputable def S_laws_eqIntS : ByV := ⟨none, false, semF X_laws_eqIntS F_laws_eqIntS none false⟩
noncomputable def G_laws_eqIntS : CK := .byv S_laws_eqIntS
theorem sg_laws_eqIntS (args : List AV) : S_laws_eqIntS.sem args = semF X_laws_eqIntS F_laws_eqIntS none false args := rfl
theorem cl_laws_eqIntS (args : List AV) (hp : Hp) : callS G_laws_eqIntS args hp = byvS S_laws_eqIntS args hp := callS_byv rfl rfl args hp
theorem ok_laws_eqIntS : InlOk Try.prog 54 (callS G_laws_eqIntS) := byv_none co_laws_eqIntS Try.func54 r_laws_eqIntS rfl (fun _ _ h => h)
/- 30 laws_eqPlaces calls [laws_eqStringS, laws_eqIntS]  -/
def F_laws_eqPlaces : RF := ⟨17, 2, [.t 4],
  .seq (.reg [⟨some 2, none, .box (.t 0)⟩, ⟨some 3, none, .box (.t 1)⟩, ⟨some 4, none, .mv (.c (.bool false))⟩]) (.seq (.seq (.reg [⟨some 5, none, .fa 0 (.t 2)⟩, ⟨some 6, none, .ld 1 false (.t 5)⟩, ⟨some 7, none, .fa 0 (.t 3)⟩, ⟨some 8, none, .ld 1 false (.t 7)⟩, ⟨some 9, none, .call 101 [(.t 6), (.t 8)]⟩, ⟨some 10, none, .un .not (.t 9)⟩]) (.cond (.t 10) (.seq (.reg [⟨some 4, none, .mv (.c (.bool false))⟩]) (.ret)) (.skip))) (.seq (.seq (.reg [⟨some 11, none, .fa 1 (.t 2)⟩, ⟨some 12, none, .ld 1 false (.t 11)⟩, ⟨some 13, none, .fa 1 (.t 3)⟩, ⟨some 14, none, .ld 1 false (.t 13)⟩, ⟨some 15, none, .call 54 [(.t 12), (.t 14)]⟩, ⟨some 16, none, .un .not (.t 15)⟩]) (.cond (.t 16) (.seq (.reg [⟨some 4, none, .mv (.c (.bool false))⟩]) (.ret)) (.skip))) (.seq (.reg [⟨some 4, none, .mv (.c (.bool true))⟩]) (.ret))))⟩
def K_laws_eqPlaces : Keeps := []
theorem r_laws_eqPlaces : resolveF Try.prog Try.f30 K_laws_eqPlaces = some F_laws_eqPlaces := by kernel_rfl
noncomputable def X_laws_eqPlaces : Ctx := Ctx.cons 101 G_laws_eqStringS (Ctx.cons 54 G_laws_eqIntS (fun _ => none))
theorem co_laws_eqPlaces : CtxOk Try.prog X_laws_eqPlaces := CtxOk.cons (CtxOk.cons (CtxOk.nil) ok_laws_eqIntS) ok_laws_eqStringS
theorem cx_laws_eqPlaces : ((∀ args hp, callX X_laws_eqPlaces 101 args hp = callS G_laws_eqStringS args hp) ∧ (trC (X_laws_eqPlaces 101) = false)) ∧ ((∀ args hp, callX X_laws_eqPlaces 54 args hp = callS G_laws_eqIntS args hp) ∧ (trC (X_laws_eqPlaces 54) = false)) := ⟨⟨fun _ _ => rfl, rfl⟩, ⟨fun _ _ => rfl, rfl⟩⟩
noncomputable def S_laws_eqPlaces : ByV := ⟨none, false, semF X_laws_eqPlaces F_laws_eqPlaces none false⟩
noncomputable def G_laws_eqPlaces : CK := .byv S_laws_eqPlaces
theorem sg_laws_eqPlaces (args : List AV) : S_laws_eqPlaces.sem args = semF X_laws_eqPlaces F_laws_eqPlaces none false args := rfl
theorem cl_laws_eqPlaces (args : List AV) (hp : Hp) : callS G_laws_eqPlaces args hp = byvS S_laws_eqPlaces args hp := callS_byv rfl rfl args hp
theorem ok_laws_eqPlaces : InlOk Try.prog 30 (callS G_laws_eqPlaces) := byv_none co_laws_eqPlaces Try.func30 r_laws_eqPlaces rfl (fun _ _ h => h)
/- 180 laws_eqNode calls [laws_eqIntS]  -/
def F_laws_eqNode : RF := ⟨36, 2, [.t 4],
  .seq (.reg [⟨some 2, none, .box (.t 0)⟩, ⟨some 3, none, .box (.t 1)⟩, ⟨some 4, none, .mv (.c (.bool false))⟩]) (.seq (.seq (.reg [⟨some 5, none, .fa 0 (.t 2)⟩, ⟨some 6, none, .ld 1 false (.t 5)⟩, ⟨some 7, none, .fa 0 (.t 3)⟩, ⟨some 8, none, .ld 1 false (.t 7)⟩, ⟨some 9, none, .bin .neq (.t 6) (.t 8)⟩]) (.cond (.t 9) (.seq (.reg [⟨some 4, none, .mv (.c (.bool false))⟩]) (.ret)) (.skip))) (.seq (.seq (.reg [⟨some 10, none, .fa 1 (.t 2)⟩, ⟨some 11, none, .ld 1 false (.t 10)⟩, ⟨some 12, none, .fa 1 (.t 3)⟩, ⟨some 13, none, .ld 1 false (.t 12)⟩, ⟨some 14, none, .bin .neq (.t 11) (.t 13)⟩]) (.cond (.t 14) (.seq (.reg [⟨some 4, none, .mv (.c (.bool false))⟩]) (.ret)) (.skip))) (.seq (.seq (.reg [⟨some 15, none, .fa 2 (.t 2)⟩, ⟨some 16, none, .ld 1 false (.t 15)⟩, ⟨some 17, none, .fa 2 (.t 3)⟩, ⟨some 18, none, .ld 1 false (.t 17)⟩, ⟨some 19, none, .bin .neq (.t 16) (.t 18)⟩]) (.cond (.t 19) (.seq (.reg [⟨some 4, none, .mv (.c (.bool false))⟩]) (.ret)) (.skip))) (.seq (.seq (.reg [⟨some 20, none, .fa 3 (.t 2)⟩, ⟨some 21, none, .ld 1 false (.t 20)⟩, ⟨some 22, none, .fa 3 (.t 3)⟩, ⟨some 23, none, .ld 1 false (.t 22)⟩, ⟨some 24, none, .bin .neq (.t 21) (.t 23)⟩]) (.cond (.t 24) (.seq (.reg [⟨some 4, none, .mv (.c (.bool false))⟩]) (.ret)) (.skip))) (.seq (.seq (.reg [⟨some 25, none, .fa 4 (.t 2)⟩, ⟨some 26, none, .ld 1 false (.t 25)⟩, ⟨some 27, none, .fa 4 (.t 3)⟩, ⟨some 28, none, .ld 1 false (.t 27)⟩, ⟨some 29, none, .bin .neq (.t 26) (.t 28)⟩]) (.cond (.t 29) (.seq (.reg [⟨some 4, none, .mv (.c (.bool false))⟩]) (.ret)) (.skip))) (.seq (.seq (.reg [⟨some 30, none, .fa 5 (.t 2)⟩, ⟨some 31, none, .ld 1 false (.t 30)⟩, ⟨some 32, none, .fa 5 (.t 3)⟩, ⟨some 33, none, .ld 1 false (.t 32)⟩, ⟨some 34, none, .call 54 [(.t 31), (.t 33)]⟩, ⟨some 35, none, .un .not (.t 34)⟩]) (.cond (.t 35) (.seq (.reg [⟨some 4, none, .mv (.c (.bool false))⟩]) (.ret)) (.skip))) (.seq (.reg [⟨some 4, none, .mv (.c (.bool true))⟩]) (.ret))))))))⟩
def K_laws_eqNode : Keeps := []
theorem r_laws_eqNode : resolveF Try.prog Try.f180 K_laws_eqNode = some F_laws_eqNode := by kernel_rfl
noncomputable def X_laws_eqNode : Ctx := Ctx.cons 54 G_laws_eqIntS (fun _ => none)
theorem co_laws_eqNode : CtxOk Try.prog X_laws_eqNode := CtxOk.cons (CtxOk.nil) ok_laws_eqIntS
theorem cx_laws_eqNode : ((∀ args hp, callX X_laws_eqNode 54 args hp = callS G_laws_eqIntS args hp) ∧ (trC (X_laws_eqNode 54) = false)) := ⟨fun _ _ => rfl, rfl⟩
noncomputable def S_laws_eqNode : ByV := ⟨none, false, semF X_laws_eqNode F_laws_eqNode none false⟩
noncomputable def G_laws_eqNode : CK := .byv S_laws_eqNode
theorem sg_laws_eqNode (args : List AV) : S_laws_eqNode.sem args = semF X_laws_eqNode F_laws_eqNode none false args := rfl
theorem cl_laws_eqNode (args : List AV) (hp : Hp) : callS G_laws_eqNode args hp = byvS S_laws_eqNode args hp := callS_byv rfl rfl args hp
theorem ok_laws_eqNode : InlOk Try.prog 180 (callS G_laws_eqNode) := byv_none co_laws_eqNode Try.func180 r_laws_eqNode rfl (fun _ _ h => h)
/- 98 laws_eqNodeS calls [laws_eqNode]  -/
def B0_laws_eqNodeS : RC :=
  .seq (.seq (.reg [⟨some 11, none, .mv (.t 5)⟩, ⟨some 12, none, .mv (.t 0)⟩, ⟨some 13, none, .len false (.t 12)⟩, ⟨some 14, none, .bin .lss (.t 11) (.t 13)⟩]) (.cond (.t 14) (.skip) (.exit 0))) (.seq (.block 1 (.seq (.regd [(0, ⟨some 17, none, .mv (.t 0)⟩), (0, ⟨some 18, none, .mv (.t 5)⟩), (1, ⟨some 19, none, .ia 6 (.t 17) (.t 18)⟩), (1, ⟨some 20, none, .ld 6 true (.t 19)⟩), (0, ⟨some 21, none, .mv (.t 1)⟩), (0, ⟨some 22, none, .mv (.t 5)⟩), (1, ⟨some 23, none, .ia 6 (.t 21) (.t 22)⟩), (1, ⟨some 24, none, .ld 6 true (.t 23)⟩), (1, ⟨some 25, none, .call 180 [(.t 20), (.t 24)]⟩), (0, ⟨some 26, none, .un .not (.t 25)⟩)] []) (.cond (.t 26) (.seq (.reg [⟨some 4, none, .mv (.c (.bool false))⟩]) (.ret)) (.skip)))) (.reg [⟨some 15, none, .mv (.t 5)⟩, ⟨some 16, none, .bin .add (.t 15) (.c (.int .i64 1))⟩, ⟨some 5, none, .mv (.t 16)⟩]))
def F_laws_eqNodeS : RF := ⟨27, 2, [.t 4],
  .seq (.reg [⟨some 4, none, .mv (.c (.bool false))⟩]) (.seq (.seq (.reg [⟨some 6, none, .mv (.t 0)⟩, ⟨some 7, none, .len false (.t 6)⟩, ⟨some 8, none, .mv (.t 1)⟩, ⟨some 9, none, .len false (.t 8)⟩, ⟨some 10, none, .bin .neq (.t 7) (.t 9)⟩]) (.cond (.t 10) (.seq (.reg [⟨some 4, none, .mv (.c (.bool false))⟩]) (.ret)) (.skip))) (.seq (.seq (.reg [⟨some 5, none, .mv (.c (.int .i64 0))⟩]) (.block 0 (.loop [0, 1, 5] [(1, []), (0, [4])] B0_laws_eqNodeS))) (.seq (.reg [⟨some 4, none, .mv (.c (.bool true))⟩]) (.ret))))⟩
def K_laws_eqNodeS : Keeps := [([0, 1, 5], [(1, []), (0, [4])])]
theorem r_laws_eqNodeS : resolveF Try.prog Try.f98 K_laws_eqNodeS = some F_laws_eqNodeS := by kernel_rfl
noncomputable def X_laws_eqNodeS : Ctx := Ctx.cons 180 G_laws_eqNode (fun _ => none)
theorem co_laws_eqNodeS : CtxOk Try.prog X_laws_eqNodeS := CtxOk.cons (CtxOk.nil) ok_laws_eqNode
theorem cx_laws_eqNodeS : ((∀ args hp, callX X_laws_eqNodeS 180 args hp = callS G_laws_eqNode args hp) ∧ (trC (X_laws_eqNodeS 180) = false)) := ⟨fun _ _ => rfl, rfl⟩
noncomputable def S_laws_eqNodeS : ByV := ⟨none, false, semF X_laws_eqNodeS F_laws_eqNodeS none false⟩
noncomputable def G_laws_eqNodeS : CK := .byv S_laws_eqNodeS
theorem sg_laws_eqNodeS (args : List AV) : S_laws_eqNodeS.sem args = semF X_laws_eqNodeS F_laws_eqNodeS none false args := rfl
theorem cl_laws_eqNodeS (args : List AV) (hp : Hp) : callS G_laws_eqNodeS args hp = byvS S_laws_eqNodeS args hp := callS_byv rfl rfl args hp
theorem ok_laws_eqNodeS : InlOk Try.prog 98 (callS G_laws_eqNodeS) := byv_none co_laws_eqNodeS Try.func98 r_laws_eqNodeS rfl (fun _ _ h => h)
/- 243 laws_eqEntry calls []  -/
def F_laws_eqEntry : RF := ⟨20, 2, [.t 4],
  .seq (.reg [⟨some 2, none, .box (.t 0)⟩, ⟨some 3, none, .box (.t 1)⟩, ⟨some 4, none, .mv (.c (.bool false))⟩]) (.seq (.seq (.reg [⟨some 5, none, .fa 0 (.t 2)⟩, ⟨some 6, none, .ld 1 false (.t 5)⟩, ⟨some 7, none, .fa 0 (.t 3)⟩, ⟨some 8, none, .ld 1 false (.t 7)⟩, ⟨some 9, none, .bin .neq (.t 6) (.t 8)⟩]) (.cond (.t 9) (.seq (.reg [⟨some 4, none, .mv (.c (.bool false))⟩]) (.ret)) (.skip))) (.seq (.seq (.reg [⟨some 10, none, .fa 1 (.t 2)⟩, ⟨some 11, none, .ld 1 false (.t 10)⟩, ⟨some 12, none, .fa 1 (.t 3)⟩, ⟨some 13, none, .ld 1 false (.t 12)⟩, ⟨some 14, none, .bin .neq (.t 11) (.t 13)⟩]) (.cond (.t 14) (.seq (.reg [⟨some 4, none, .mv (.c (.bool false))⟩]) (.ret)) (.skip))) (.seq (.seq (.reg [⟨some 15, none, .fa 2 (.t 2)⟩, ⟨some 16, none, .ld 1 false (.t 15)⟩, ⟨some 17, none, .fa 2 (.t 3)⟩, ⟨some 18, none, .ld 1 false (.t 17)⟩, ⟨some 19, none, .bin .neq (.t 16) (.t 18)⟩]) (.cond (.t 19) (.seq (.reg [⟨some 4, none, .mv (.c (.bool false))⟩]) (.ret)) (.skip))) (.seq (.reg [⟨some 4, none, .mv (.c (.bool true))⟩]) (.ret)))))⟩
def K_laws_eqEntry : Keeps := []
theorem r_laws_eqEntry : resolveF Try.prog Try.f243 K_laws_eqEntry = some F_laws_eqEntry := by kernel_rfl
noncomputable def X_laws_eqEntry : Ctx := fun _ => none
theorem co_laws_eqEntry : CtxOk Try.prog X_laws_eqEntry := CtxOk.nil
theorem cx_laws_eqEntry : True := trivial
noncomputable def S_laws_eqEntry : ByV := ⟨none, false, semF X_laws_eqEntry F_laws_eqEntry none false⟩
noncomputable def G_laws_eqEntry : CK := .byv S_laws_eqEntry
theorem sg_laws_eqEntry (args : List AV) : S_laws_eqEntry.sem args = semF X_laws_eqEntry F_laws_eqEntry none false args := rfl
theorem cl_laws_eqEntry (args : List AV) (hp : Hp) : callS G_laws_eqEntry args hp = byvS S_laws_eqEntry args hp := callS_byv rfl rfl args hp
theorem ok_laws_eqEntry : InlOk Try.prog 243 (callS G_laws_eqEntry) := byv_none co_laws_eqEntry Try.func243 r_laws_eqEntry rfl (fun _ _ h => h)
/- 223 laws_eqEntryS calls [laws_eqEntry]  -/
def B0_laws_eqEntryS : RC :=
  .seq (.seq (.reg [⟨some 11, none, .mv (.t 5)⟩, ⟨some 12, none, .mv (.t 0)⟩, ⟨some 13, none, .len false (.t 12)⟩, ⟨some 14, none, .bin .lss (.t 11) (.t 13)⟩]) (.cond (.t 14) (.skip) (.exit 0))) (.seq (.block 1 (.seq (.regd [(0, ⟨some 17, none, .mv (.t 0)⟩), (0, ⟨some 18, none, .mv (.t 5)⟩), (1, ⟨some 19, none, .ia 3 (.t 17) (.t 18)⟩), (1, ⟨some 20, none, .ld 3 true (.t 19)⟩), (0, ⟨some 21, none, .mv (.t 1)⟩), (0, ⟨some 22, none, .mv (.t 5)⟩), (1, ⟨some 23, none, .ia 3 (.t 21) (.t 22)⟩), (1, ⟨some 24, none, .ld 3 true (.t 23)⟩), (1, ⟨some 25, none, .call 243 [(.t 20), (.t 24)]⟩), (0, ⟨some 26, none, .un .not (.t 25)⟩)] []) (.cond (.t 26) (.seq (.reg [⟨some 4, none, .mv (.c (.bool false))⟩]) (.ret)) (.skip)))) (.reg [⟨some 15, none, .mv (.t 5)⟩, ⟨some 16, none, .bin .add (.t 15) (.c (.int .i64 1))⟩, ⟨some 5, none, .mv (.t 16)⟩]))
def F_laws_eqEntryS : RF := ⟨27, 2, [.t 4],
  .seq (.reg [⟨some 4, none, .mv (.c (.bool false))⟩]) (.seq (.seq (.reg [⟨some 6, none, .mv (.t 0)⟩, ⟨some 7, none, .len false (.t 6)⟩, ⟨some 8, none, .mv (.t 1)⟩, ⟨some 9, none, .len false (.t 8)⟩, ⟨some 10, none, .bin .neq (.t 7) (.t 9)⟩]) (.cond (.t 10) (.seq (.reg [⟨some 4, none, .mv (.c (.bool false))⟩]) (.ret)) (.skip))) (.seq (.seq (.reg [⟨some 5, none, .mv (.c (.int .i64 0))⟩]) (.block 0 (.loop [0, 1, 5] [(1, []), (0, [4])] B0_laws_eqEntryS))) (.seq (.reg [⟨some 4, none, .mv (.c (.bool true))⟩]) (.ret))))⟩
def K_laws_eqEntryS : Keeps := [([0, 1, 5], [(1, []), (0, [4])])]
theorem r_laws_eqEntryS : resolveF Try.prog Try.f223 K_laws_eqEntryS = some F_laws_eqEntryS := by kernel_rfl
noncomputable def X_laws_eqEntryS : Ctx := Ctx.cons 243 G_laws_eqEntry (fun _ => none)
theorem co_laws_eqEntryS : CtxOk Try.prog X_laws_eqEntryS := CtxOk.cons (CtxOk.nil) ok_laws_eqEntry
theorem cx_laws_eqEntryS : ((∀ args hp, callX X_laws_eqEntryS 243 args hp = callS G_laws_eqEntry args hp) ∧ (trC (X_laws_eqEntryS 243) = false)) := ⟨fun _ _ => rfl, rfl⟩
noncomputable def S_laws_eqEntryS : ByV := ⟨none, false, semF X_laws_eqEntryS F_laws_eqEntryS none false⟩
noncomputable def G_laws_eqEntryS : CK := .byv S_laws_eqEntryS
theorem sg_laws_eqEntryS (args : List AV) : S_laws_eqEntryS.sem args = semF X_laws_eqEntryS F_laws_eqEntryS none false args := rfl
theorem cl_laws_eqEntryS (args : List AV) (hp : Hp) : callS G_laws_eqEntryS args hp = byvS S_laws_eqEntryS args hp := callS_byv rfl rfl args hp
theorem ok_laws_eqEntryS : InlOk Try.prog 223 (callS G_laws_eqEntryS) := byv_none co_laws_eqEntryS Try.func223 r_laws_eqEntryS rfl (fun _ _ h => h)
/- 181 laws_eqMonitor calls [laws_eqStringS, laws_eqEntryS]  -/
def F_laws_eqMonitor : RF := ⟨28, 2, [.t 4],
  .seq (.reg [⟨some 2, none, .box (.t 0)⟩, ⟨some 3, none, .box (.t 1)⟩, ⟨some 4, none, .mv (.c (.bool false))⟩]) (.seq (.seq (.reg [⟨some 5, none, .fa 0 (.t 2)⟩, ⟨some 6, none, .ld 1 false (.t 5)⟩, ⟨some 7, none, .fa 0 (.t 3)⟩, ⟨some 8, none, .ld 1 false (.t 7)⟩, ⟨some 9, none, .bin .neq (.t 6) (.t 8)⟩]) (.cond (.t 9) (.seq (.reg [⟨some 4, none, .mv (.c (.bool false))⟩]) (.ret)) (.skip))) (.seq (.seq (.reg [⟨some 10, none, .fa 1 (.t 2)⟩, ⟨some 11, none, .ld 1 false (.t 10)⟩, ⟨some 12, none, .fa 1 (.t 3)⟩, ⟨some 13, none, .ld 1 false (.t 12)⟩, ⟨some 14, none, .call 101 [(.t 11), (.t 13)]⟩, ⟨some 15, none, .un .not (.t 14)⟩]) (.cond (.t 15) (.seq (.reg [⟨some 4, none, .mv (.c (.bool false))⟩]) (.ret)) (.skip))) (.seq (.seq (.reg [⟨some 16, none, .fa 2 (.t 2)⟩, ⟨some 17, none, .ld 1 false (.t 16)⟩, ⟨some 18, none, .fa 2 (.t 3)⟩, ⟨some 19, none, .ld 1 false (.t 18)⟩, ⟨some 20, none, .call 101 [(.t 17), (.t 19)]⟩, ⟨some 21, none, .un .not (.t 20)⟩]) (.cond (.t 21) (.seq (.reg [⟨some 4, none, .mv (.c (.bool false))⟩]) (.ret)) (.skip))) (.seq (.seq (.reg [⟨some 22, none, .fa 3 (.t 2)⟩, ⟨some 23, none, .ld 1 false (.t 22)⟩, ⟨some 24, none, .fa 3 (.t 3)⟩, ⟨some 25, none, .ld 1 false (.t 24)⟩, ⟨some 26, none, .call 223 [(.t 23), (.t 25)]⟩, ⟨some 27, none, .un .not (.t 26)⟩]) (.cond (.t 27) (.seq (.reg [⟨some 4, none, .mv (.c (.bool false))⟩]) (.ret)) (.skip))) (.seq (.reg [⟨some 4, none, .mv (.c (.bool true))⟩]) (.ret))))))⟩
def K_laws_eqMonitor : Keeps := []
theorem r_laws_eqMonitor : resolveF Try.prog Try.f181 K_laws_eqMonitor = some F_laws_eqMonitor := by kernel_rfl
noncomputable def X_laws_eqMonitor : Ctx := Ctx.cons 101 G_laws_eqStringS (Ctx.cons 223 G_laws_eqEntryS (fun _ => none))
theorem co_laws_eqMonitor : CtxOk Try.prog X_laws_eqMonitor := CtxOk.cons (CtxOk.cons (CtxOk.nil) ok_laws_eqEntryS) ok_laws_eqStringS
theorem cx_laws_eqMonitor : ((∀ args hp, callX X_laws_eqMonitor 101 args hp = callS G_laws_eqStringS args hp) ∧ (trC (X_laws_eqMonitor 101) = false)) ∧ ((∀ args hp, callX X_laws_eqMonitor 223 args hp = callS G_laws_eqEntryS args hp) ∧ (trC (X_laws_eqMonitor 223) = false)) := ⟨⟨fun _ _ => rfl, rfl⟩, ⟨fun _ _ => rfl, rfl⟩⟩
noncomputable def S_laws_eqMonitor : ByV := ⟨none, false, semF X_laws_eqMonitor F_laws_eqMonitor none false⟩
noncomputable def G_laws_eqMonitor : CK := .byv S_laws_eqMonitor
theorem sg_laws_eqMonitor (args : List AV) : S_laws_eqMonitor.sem args = semF X_laws_eqMonitor F_laws_eqMonitor none false args := rfl
theorem cl_laws_eqMonitor (args : List AV) (hp : Hp) : callS G_laws_eqMonitor args hp = byvS S_laws_eqMonitor args hp := callS_byv rfl rfl args hp
theorem ok_laws_eqMonitor : InlOk Try.prog 181 (callS G_laws_eqMonitor) := byv_none co_laws_eqMonitor Try.func181 r_laws_eqMonitor rfl (fun _ _ h => h)
/- 99 laws_eqMonitorS calls [laws_eqMonitor]  -/
def B0_laws_eqMonitorS : RC :=
  .seq (.seq (.reg [⟨some 11, none, .mv (.t 5)⟩, ⟨some 12, none, .mv (.t 0)⟩, ⟨some 13, none, .len false (.t 12)⟩, ⟨some 14, none, .bin .lss (.t 11) (.t 13)⟩]) (.cond (.t 14) (.skip) (.exit 0))) (.seq (.block 1 (.seq (.regd [(0, ⟨some 17, none, .mv (.t 0)⟩), (0, ⟨some 18, none, .mv (.t 5)⟩), (1, ⟨some 19, none, .ia 4 (.t 17) (.t 18)⟩), (1, ⟨some 20, none, .ld 4 true (.t 19)⟩), (0, ⟨some 21, none, .mv (.t 1)⟩), (0, ⟨some 22, none, .mv (.t 5)⟩), (1, ⟨some 23, none, .ia 4 (.t 21) (.t 22)⟩), (1, ⟨some 24, none, .ld 4 true (.t 23)⟩), (1, ⟨some 25, none, .call 181 [(.t 20), (.t 24)]⟩), (0, ⟨some 26, none, .un .not (.t 25)⟩)] []) (.cond (.t 26) (.seq (.reg [⟨some 4, none, .mv (.c (.bool false))⟩]) (.ret)) (.skip)))) (.reg [⟨some 15, none, .mv (.t 5)⟩, ⟨some 16, none, .bin .add (.t 15) (.c (.int .i64 1))⟩, ⟨some 5, none, .mv (.t 16)⟩]))
def F_laws_eqMonitorS : RF := ⟨27, 2, [.t 4],
  .seq (.reg [⟨some 4, none, .mv (.c (.bool false))⟩]) (.seq (.seq (.reg [⟨some 6, none, .mv (.t 0)⟩, ⟨some 7, none, .len false (.t 6)⟩, ⟨some 8, none, .mv (.t 1)⟩, ⟨some 9, none, .len false (.t 8)⟩, ⟨some 10, none, .bin .neq (.t 7) (.t 9)⟩]) (.cond (.t 10) (.seq (.reg [⟨some 4, none, .mv (.c (.bool false))⟩]) (.ret)) (.skip))) (.seq (.seq (.reg [⟨some 5, none, .mv (.c (.int .i64 0))⟩]) (.block 0 (.loop [0, 1, 5] [(1, []), (0, [4])] B0_laws_eqMonitorS))) (.seq (.reg [⟨some 4, none, .mv (.c (.bool true))⟩]) (.ret))))⟩
def K_laws_eqMonitorS : Keeps := [([0, 1, 5], [(1, []), (0, [4])])]
theorem r_laws_eqMonitorS : resolveF Try.prog Try.f99 K_laws_eqMonitorS = some F_laws_eqMonitorS := by kernel_rfl
noncomputable def X_laws_eqMonitorS : Ctx := Ctx.cons 181 G_laws_eqMonitor (fun _ => none)
theorem co_laws_eqMonitorS : CtxOk Try.prog X_laws_eqMonitorS := CtxOk.cons (CtxOk.nil) ok_laws_eqMonitor
theorem cx_laws_eqMonitorS : ((∀ args hp, callX X_laws_eqMonitorS 181 args hp = callS G_laws_eqMonitor args hp) ∧ (trC (X_laws_eqMonitorS 181) = false)) := ⟨fun _ _ => rfl, rfl⟩
noncomputable def S_laws_eqMonitorS : ByV := ⟨none, false, semF X_laws_eqMonitorS F_laws_eqMonitorS none false⟩
noncomputable def G_laws_eqMonitorS : CK := .byv S_laws_eqMonitorS
theorem sg_laws_eqMonitorS (args : List AV) : S_laws_eqMonitorS.sem args = semF X_laws_eqMonitorS F_laws_eqMonitorS none false args := rfl
theorem cl_laws_eqMonitorS (args : List AV) (hp : Hp) : callS G_laws_eqMonitorS args hp = byvS S_laws_eqMonitorS args hp := callS_byv rfl rfl args hp
theorem ok_laws_eqMonitorS : InlOk Try.prog 99 (callS G_laws_eqMonitorS) := byv_none co_laws_eqMonitorS Try.func99 r_laws_eqMonitorS rfl (fun _ _ h => h)
/- 182 laws_eqProcess calls [laws_eqStringS]  -/
def F_laws_eqProcess : RF := ⟨27, 2, [.t 4],
  .seq (.reg [⟨some 2, none, .box (.t 0)⟩, ⟨some 3, none, .box (.t 1)⟩, ⟨some 4, none, .mv (.c (.bool false))⟩]) (.seq (.seq (.reg [⟨some 5, none, .fa 0 (.t 2)⟩, ⟨some 6, none, .ld 1 false (.t 5)⟩, ⟨some 7, none, .fa 0 (.t 3)⟩, ⟨some 8, none, .ld 1 false (.t 7)⟩, ⟨some 9, none, .bin .neq (.t 6) (.t 8)⟩]) (.cond (.t 9) (.seq (.reg [⟨some 4, none, .mv (.c (.bool false))⟩]) (.ret)) (.skip))) (.seq (.seq (.reg [⟨some 10, none, .fa 1 (.t 2)⟩, ⟨some 11, none, .ld 1 false (.t 10)⟩, ⟨some 12, none, .fa 1 (.t 3)⟩, ⟨some 13, none, .ld 1 false (.t 12)⟩, ⟨some 14, none, .call 101 [(.t 11), (.t 13)]⟩, ⟨some 15, none, .un .not (.t 14)⟩]) (.cond (.t 15) (.seq (.reg [⟨some 4, none, .mv (.c (.bool false))⟩]) (.ret)) (.skip))) (.seq (.seq (.reg [⟨some 16, none, .fa 2 (.t 2)⟩, ⟨some 17, none, .ld 1 false (.t 16)⟩, ⟨some 18, none, .fa 2 (.t 3)⟩, ⟨some 19, none, .ld 1 false (.t 18)⟩, ⟨some 20, none, .call 101 [(.t 17), (.t 19)]⟩, ⟨some 21, none, .un .not (.t 20)⟩]) (.cond (.t 21) (.seq (.reg [⟨some 4, none, .mv (.c (.bool false))⟩]) (.ret)) (.skip))) (.seq (.seq (.reg [⟨some 22, none, .fa 3 (.t 2)⟩, ⟨some 23, none, .ld 1 false (.t 22)⟩, ⟨some 24, none, .fa 3 (.t 3)⟩, ⟨some 25, none, .ld 1 false (.t 24)⟩, ⟨some 26, none, .bin .neq (.t 23) (.t 25)⟩]) (.cond (.t 26) (.seq (.reg [⟨some 4, none, .mv (.c (.bool false))⟩]) (.ret)) (.skip))) (.seq (.reg [⟨some 4, none, .mv (.c (.bool true))⟩]) (.ret))))))⟩
def K_laws_eqProcess : Keeps := []
theorem r_laws_eqProcess : resolveF Try.prog Try.f182 K_laws_eqProcess = some F_laws_eqProcess := by kernel_rfl
noncomputable def X_laws_eqProcess : Ctx := Ctx.cons 101 G_laws_eqStringS (fun _ => none)
theorem co_laws_eqProcess : CtxOk Try.prog X_laws_eqProcess := CtxOk.cons (CtxOk.nil) ok_laws_eqStringS
theorem cx_laws_eqProcess : ((∀ args hp, callX X_laws_eqProcess 101 args hp = callS G_laws_eqStringS args hp) ∧ (trC (X_laws_eqProcess 101) = false)) := ⟨fun _ _ => rfl, rfl⟩
noncomputable def S_laws_eqProcess : ByV := ⟨none, false, semF X_laws_eqProcess F_laws_eqProcess none false⟩
noncomputable def G_laws_eqProcess : CK := .byv S_laws_eqProcess
theorem sg_laws_eqProcess (args : List AV) : S_laws_eqProcess.sem args = semF X_laws_eqProcess F_laws_eqProcess none false args := rfl
theorem cl_laws_eqProcess (args : List AV) (hp : Hp) : callS G_laws_eqProcess args hp = byvS S_laws_eqProcess args hp := callS_byv rfl rfl args hp
theorem ok_laws_eqProcess : InlOk Try.prog 182 (callS G_laws_eqProcess) := byv_none co_laws_eqProcess Try.func182 r_laws_eqProcess rfl (fun _ _ h => h)
/- 100 laws_eqProcessS calls [laws_eqProcess]  -/
def B0_laws_eqProcessS : RC :=
  .seq (.seq (.reg [⟨some 11, none, .mv (.t 5)⟩, ⟨some 12, none, .mv (.t 0)⟩, ⟨some 13, none, .len false (.t 12)⟩, ⟨some 14, none, .bin .lss (.t 11) (.t 13)⟩]) (.cond (.t 14) (.skip) (.exit 0))) (.seq (.block 1 (.seq (.regd [(0, ⟨some 17, none, .mv (.t 0)⟩), (0, ⟨some 18, none, .mv (.t 5)⟩), (1, ⟨some 19, none, .ia 4 (.t 17) (.t 18)⟩), (1, ⟨some 20, none, .ld 4 true (.t 19)⟩), (0, ⟨some 21, none, .mv (.t 1)⟩), (0, ⟨some 22, none, .mv (.t 5)⟩), (1, ⟨some 23, none, .ia 4 (.t 21) (.t 22)⟩), (1, ⟨some 24, none, .ld 4 true (.t 23)⟩), (1, ⟨some 25, none, .call 182 [(.t 20), (.t 24)]⟩), (0, ⟨some 26, none, .un .not (.t 25)⟩)] []) (.cond (.t 26) (.seq (.reg [⟨some 4, none, .mv (.c (.bool false))⟩]) (.ret)) (.skip)))) (.reg [⟨some 15, none, .mv (.t 5)⟩, ⟨some 16, none, .bin .add (.t 15) (.c (.int .i64 1))⟩, ⟨some 5, none, .mv (.t 16)⟩]))
def F_laws_eqProcessS : RF := ⟨27, 2, [.t 4],
  .seq (.reg [⟨some 4, none, .mv (.c (.bool false))⟩]) (.seq (.seq (.reg [⟨some 6, none, .mv (.t 0)⟩, ⟨some 7, none, .len false (.t 6)⟩, ⟨some 8, none, .mv (.t 1)⟩, ⟨some 9, none, .len false (.t 8)⟩, ⟨some 10, none, .bin .neq (.t 7) (.t 9)⟩]) (.cond (.t 10) (.seq (.reg [⟨some 4, none, .mv (.c (.bool false))⟩]) (.ret)) (.skip))) (.seq (.seq (.reg [⟨some 5, none, .mv (.c (.int .i64 0))⟩]) (.block 0 (.loop [0, 1, 5] [(1, []), (0, [4])] B0_laws_eqProcessS))) (.seq (.reg [⟨some 4, none, .mv (.c (.bool true))⟩]) (.ret))))⟩
def K_laws_eqProcessS : Keeps := [([0, 1, 5], [(1, []), (0, [4])])]
theorem r_laws_eqProcessS : resolveF Try.prog Try.f100 K_laws_eqProcessS = some F_laws_eqProcessS := by kernel_rfl
noncomputable def X_laws_eqProcessS : Ctx := Ctx.cons 182 G_laws_eqProcess (fun _ => none)
theorem co_laws_eqProcessS : CtxOk Try.prog X_laws_eqProcessS := CtxOk.cons (CtxOk.nil) ok_laws_eqProcess
theorem cx_laws_eqProcessS : ((∀ args hp, callX X_laws_eqProcessS 182 args hp = callS G_laws_eqProcess args hp) ∧ (trC (X_laws_eqProcessS 182) = false)) := ⟨fun _ _ => rfl, rfl⟩
noncomputable def S_laws_eqProcessS : ByV := ⟨none, false, semF X_laws_eqProcessS F_laws_eqProcessS none false⟩
noncomputable def G_laws_eqProcessS : CK := .byv S_laws_eqProcessS
theorem sg_laws_eqProcessS (args : List AV) : S_laws_eqProcessS.sem args = semF X_laws_eqProcessS F_laws_eqProcessS none false args := rfl
theorem cl_laws_eqProcessS (args : List AV) (hp : Hp) : callS G_laws_eqProcessS args hp = byvS S_laws_eqProcessS args hp := callS_byv rfl rfl args hp
theorem ok_laws_eqProcessS : InlOk Try.prog 100 (callS G_laws_eqProcessS) := byv_none co_laws_eqProcessS Try.func100 r_laws_eqProcessS rfl (fun _ _ h => h)
/- 25 laws_eqProgram calls [laws_eqNodeS, laws_eqMonitorS, laws_eqProcessS]  -/
def F_laws_eqProgram : RF := ⟨23, 2, [.t 4],
  .seq (.reg [⟨some 2, none, .box (.t 0)⟩, ⟨some 3, none, .box (.t 1)⟩, ⟨some 4, none, .mv (.c (.bool false))⟩]) (.seq (.seq (.reg [⟨some 5, none, .fa 0 (.t 2)⟩, ⟨some 6, none, .ld 1 false (.t 5)⟩, ⟨some 7, none, .fa 0 (.t 3)⟩, ⟨some 8, none, .ld 1 false (.t 7)⟩, ⟨some 9, none, .call 98 [(.t 6), (.t 8)]⟩, ⟨some 10, none, .un .not (.t 9)⟩]) (.cond (.t 10) (.seq (.reg [⟨some 4, none, .mv (.c (.bool false))⟩]) (.ret)) (.skip))) (.seq (.seq (.reg [⟨some 11, none, .fa 1 (.t 2)⟩, ⟨some 12, none, .ld 1 false (.t 11)⟩, ⟨some 13, none, .fa 1 (.t 3)⟩, ⟨some 14, none, .ld 1 false (.t 13)⟩, ⟨some 15, none, .call 99 [(.t 12), (.t 14)]⟩, ⟨some 16, none, .un .not (.t 15)⟩]) (.cond (.t 16) (.seq (.reg [⟨some 4, none, .mv (.c (.bool false))⟩]) (.ret)) (.skip))) (.seq (.seq (.reg [⟨some 17, none, .fa 2 (.t 2)⟩, ⟨some 18, none, .ld 1 false (.t 17)⟩, ⟨some 19, none, .fa 2 (.t 3)⟩, ⟨some 20, none, .ld 1 false (.t 19)⟩, ⟨some 21, none, .call 100 [(.t 18), (.t 20)]⟩, ⟨some 22, none, .un .not (.t 21)⟩]) (.cond (.t 22) (.seq (.reg [⟨some 4, none, .mv (.c (.bool false))⟩]) (.ret)) (.skip))) (.seq (.reg [⟨some 4, none, .mv (.c (.bool true))⟩]) (.ret)))))⟩
def K_laws_eqProgram : Keeps := []
theorem r_laws_eqProgram : resolveF Try.prog Try.f25 K_laws_eqProgram = some F_laws_eqProgram := by kernel_rfl
noncomputable def X_laws_eqProgram : Ctx := Ctx.cons 98 G_laws_eqNodeS (Ctx.cons 99 G_laws_eqMonitorS (Ctx.cons 100 G_laws_eqProcessS (fun _ => none)))
theorem co_laws_eqProgram : CtxOk Try.prog X_laws_eqProgram := CtxOk.cons (CtxOk.cons (CtxOk.cons (CtxOk.nil) ok_laws_eqProcessS) ok_laws_eqMonitorS) ok_laws_eqNodeS
theorem cx_laws_eqProgram : ((∀ args hp, callX X_laws_eqProgram 98 args hp = callS G_laws_eqNodeS args hp) ∧ (trC (X_laws_eqProgram 98) = false)) ∧ ((∀ args hp, callX X_laws_eqProgram 99 args hp = callS G_laws_eqMonitorS args hp) ∧ (trC (X_laws_eqProgram 99) = false)) ∧ ((∀ args hp, callX X_laws_eqProgram 100 args hp = callS G_laws_eqProcessS args hp) ∧ (trC (X_laws_eqProgram 100) = false)) := ⟨⟨fun _ _ => rfl, rfl⟩, ⟨fun _ _ => rfl, rfl⟩, ⟨fun _ _ => rfl, rfl⟩⟩
noncomputable def S_laws_eqProgram : ByV := ⟨none, false, semF X_laws_eqProgram F_laws_eqProgram none false⟩
noncomputable def G_laws_eqProgram : CK := .byv S_laws_eqProgram
theorem sg_laws_eqProgram (args : List AV) : S_laws_eqProgram.sem args = semF X_laws_eqProgram F_laws_eqProgram none false args := rfl
theorem cl_laws_eqProgram (args : List AV) (hp : Hp) : callS G_laws_eqProgram args hp = byvS S_laws_eqProgram args hp := callS_byv rfl rfl args hp
theorem ok_laws_eqProgram : InlOk Try.prog 25 (callS G_laws_eqProgram) := byv_none co_laws_eqProgram Try.func25 r_laws_eqProgram rfl (fun _ _ h => h)
/- 161 laws_markText calls []  -/
def B0_laws_markText : RC :=
  .seq (.seq (.reg [⟨some 6, none, .mv (.t 0)⟩, ⟨some 7, none, .bin .gtr (.t 6) (.c (.int .i64 0))⟩]) (.cond (.t 7) (.skip) (.exit 0))) (.block 1 (.seq (.reg [⟨some 8, none, .mv (.t 0)⟩, ⟨some 9, none, .bin .rem (.t 8) (.c (.int .i64 10))⟩, ⟨some 10, none, .bin .add (.c (.int .i64 48)) (.t 9)⟩, ⟨some 11, none, .cvi .u8 (.t 10)⟩, ⟨some 12, none, .bsl 1 [(.t 11)]⟩, ⟨some 13, none, .b2s (.t 12)⟩, ⟨some 14, none, .mv (.t 3)⟩, ⟨some 15, none, .bin .add (.t 13) (.t 14)⟩, ⟨some 3, none, .mv (.t 15)⟩]) (.reg [⟨some 16, none, .mv (.t 0)⟩, ⟨some 17, none, .bin .quo (.t 16) (.c (.int .i64 10))⟩, ⟨some 0, none, .mv (.t 17)⟩])))
def F_laws_markText : RF := ⟨20, 1, [.t 2],
  .seq (.reg [⟨some 2, none, .mv (.c (.str ⟨#[]⟩))⟩]) (.seq (.seq (.reg [⟨some 4, none, .mv (.t 0)⟩, ⟨some 5, none, .bin .leq (.t 4) (.c (.int .i64 0))⟩]) (.cond (.t 5) (.seq (.reg [⟨some 2, none, .mv (.c (.str ⟨#[109, 48]⟩))⟩]) (.ret)) (.skip))) (.seq (.reg [⟨some 3, none, .mv (.c (.str ⟨#[]⟩))⟩]) (.seq (.block 0 (.loop [0, 3] [(1, [3])] B0_laws_markText)) (.seq (.reg [⟨some 18, none, .mv (.t 3)⟩, ⟨some 19, none, .bin .add (.c (.str ⟨#[109]⟩)) (.t 18)⟩, ⟨some 2, none, .mv (.t 19)⟩]) (.ret)))))⟩
def K_laws_markText : Keeps := [([0, 3], [(1, [3])])]
theorem r_laws_markText : resolveF Try.prog Try.f161 K_laws_markText = some F_laws_markText := by kernel_rfl
noncomputable def X_laws_markText : Ctx := fun _ => none
theorem co_laws_markText : CtxOk Try.prog X_laws_markText := CtxOk.nil
theorem cx_laws_markText : True := trivial
noncomputable def S_laws_markText : ByV := ⟨none, false, semF X_laws_markText F_laws_markText none false⟩
noncomputable def G_laws_markText : CK := .byv S_laws_markText
theorem sg_laws_markText (args : List AV) : S_laws_markText.sem args = semF X_laws_markText F_laws_markText none false args := rfl
theorem cl_laws_markText (args : List AV) (hp : Hp) : callS G_laws_markText args hp = byvS S_laws_markText args hp := callS_byv rfl rfl args hp
theorem ok_laws_markText : InlOk Try.prog 161 (callS G_laws_markText) := byv_none co_laws_markText Try.func161 r_laws_markText rfl (fun _ _ h => h)
/- 56 laws_markIntS calls []  -/
def B0_laws_markIntS : RC :=
  .seq (.seq (.reg [⟨some 6, none, .mv (.t 5)⟩, ⟨some 7, none, .mv (.t 0)⟩, ⟨some 8, none, .len false (.t 7)⟩, ⟨some 9, none, .bin .lss (.t 6) (.t 8)⟩]) (.cond (.t 9) (.skip) (.exit 0))) (.seq (.block 1 (.seq (.reg [⟨some 12, none, .mv (.t 0)⟩, ⟨some 13, none, .mv (.t 5)⟩, ⟨some 14, none, .mv (.t 1)⟩, ⟨some 15, none, .ia 1 (.t 12) (.t 13)⟩, ⟨none, none, .st 1 (.t 15) (.t 14)⟩]) (.reg [⟨some 16, none, .mv (.t 1)⟩, ⟨some 17, none, .bin .add (.t 16) (.c (.int .i64 1))⟩, ⟨some 1, none, .mv (.t 17)⟩]))) (.reg [⟨some 10, none, .mv (.t 5)⟩, ⟨some 11, none, .bin .add (.t 10) (.c (.int .i64 1))⟩, ⟨some 5, none, .mv (.t 11)⟩]))
def F_laws_markIntS : RF := ⟨19, 2, [.t 4],
  .seq (.reg [⟨some 4, none, .mv (.c (.int .i64 0))⟩]) (.seq (.seq (.reg [⟨some 5, none, .mv (.c (.int .i64 0))⟩]) (.block 0 (.loop [0, 1, 5] [(1, [1])] B0_laws_markIntS))) (.seq (.reg [⟨some 18, none, .mv (.t 1)⟩, ⟨some 4, none, .mv (.t 18)⟩]) (.ret)))⟩
def K_laws_markIntS : Keeps := [([0, 1, 5], [(1, [1])])]
theorem r_laws_markIntS : resolveF Try.prog Try.f56 K_laws_markIntS = some F_laws_markIntS := by kernel_rfl
noncomputable def X_laws_markIntS : Ctx := fun _ => none
theorem co_laws_markIntS : CtxOk Try.prog X_laws_markIntS := CtxOk.nil
theorem cx_laws_markIntS : True := trivial
noncomputable def S_laws_markIntS : ByV := ⟨some 0, false, semF X_laws_markIntS F_laws_markIntS (some 0) false⟩
noncomputable def G_laws_markIntS : CK := .byv S_laws_markIntS
theorem sg_laws_markIntS (args : List AV) : S_laws_markIntS.sem args = semF X_laws_markIntS F_laws_markIntS (some 0) false args := rfl
theorem cl_laws_markIntS (args : List AV) (hp : Hp) : callS G_laws_markIntS args hp = byvM S_laws_markIntS args hp := callS_byvM rfl args hp
theorem ok_laws_markIntS : InlOk Try.prog 56 (callS G_laws_markIntS) := byv_mark co_laws_markIntS Try.func56 r_laws_markIntS rfl (ro := false) (fun _ _ h => h)
/- 102 laws_markNodeS calls [laws_markText, laws_markIntS]  -/
def B0_laws_markNodeS : RC :=
  .seq (.seq (.reg [⟨some 6, none, .mv (.t 5)⟩, ⟨some 7, none, .mv (.t 0)⟩, ⟨some 8, none, .len false (.t 7)⟩, ⟨some 9, none, .bin .lss (.t 6) (.t 8)⟩]) (.cond (.t 9) (.skip) (.exit 0))) (.seq (.block 1 (.seq (.reg [⟨some 12, none, .mv (.t 0)⟩, ⟨some 13, none, .mv (.t 5)⟩, ⟨some 14, none, .mv (.t 1)⟩, ⟨some 15, none, .ia 6 (.t 12) (.t 13)⟩, ⟨some 16, none, .fa 0 (.t 15)⟩, ⟨none, none, .st 1 (.t 16) (.t 14)⟩]) (.seq (.reg [⟨some 17, none, .mv (.t 1)⟩, ⟨some 18, none, .bin .add (.t 17) (.c (.int .i64 1))⟩, ⟨some 1, none, .mv (.t 18)⟩]) (.seq (.reg [⟨some 19, none, .mv (.t 0)⟩, ⟨some 20, none, .mv (.t 5)⟩, ⟨some 21, none, .mv (.t 1)⟩, ⟨some 22, none, .ia 6 (.t 19) (.t 20)⟩, ⟨some 23, none, .fa 1 (.t 22)⟩, ⟨none, none, .st 1 (.t 23) (.t 21)⟩]) (.seq (.reg [⟨some 24, none, .mv (.t 1)⟩, ⟨some 25, none, .bin .add (.t 24) (.c (.int .i64 1))⟩, ⟨some 1, none, .mv (.t 25)⟩]) (.seq (.reg [⟨some 26, none, .mv (.t 0)⟩, ⟨some 27, none, .mv (.t 5)⟩, ⟨some 28, none, .mv (.t 1)⟩, ⟨some 29, none, .call 161 [(.t 28)]⟩, ⟨some 30, none, .ia 6 (.t 26) (.t 27)⟩, ⟨some 31, none, .fa 2 (.t 30)⟩, ⟨none, none, .st 1 (.t 31) (.t 29)⟩]) (.seq (.reg [⟨some 32, none, .mv (.t 1)⟩, ⟨some 33, none, .bin .add (.t 32) (.c (.int .i64 1))⟩, ⟨some 1, none, .mv (.t 33)⟩]) (.seq (.reg [⟨some 34, none, .mv (.t 0)⟩, ⟨some 35, none, .mv (.t 5)⟩, ⟨some 36, none, .mv (.t 1)⟩, ⟨some 37, none, .call 161 [(.t 36)]⟩, ⟨some 38, none, .ia 6 (.t 34) (.t 35)⟩, ⟨some 39, none, .fa 3 (.t 38)⟩, ⟨none, none, .st 1 (.t 39) (.t 37)⟩]) (.seq (.reg [⟨some 40, none, .mv (.t 1)⟩, ⟨some 41, none, .bin .add (.t 40) (.c (.int .i64 1))⟩, ⟨some 1, none, .mv (.t 41)⟩]) (.seq (.reg [⟨some 42, none, .mv (.t 0)⟩, ⟨some 43, none, .mv (.t 5)⟩, ⟨some 44, none, .mv (.t 1)⟩, ⟨some 45, none, .call 161 [(.t 44)]⟩, ⟨some 46, none, .ia 6 (.t 42) (.t 43)⟩, ⟨some 47, none, .fa 4 (.t 46)⟩, ⟨none, none, .st 1 (.t 47) (.t 45)⟩]) (.seq (.reg [⟨some 48, none, .mv (.t 1)⟩, ⟨some 49, none, .bin .add (.t 48) (.c (.int .i64 1))⟩, ⟨some 1, none, .mv (.t 49)⟩]) (.reg [⟨some 50, none, .mv (.t 0)⟩, ⟨some 51, none, .mv (.t 5)⟩, ⟨some 52, none, .ia 6 (.t 50) (.t 51)⟩, ⟨some 53, none, .fa 5 (.t 52)⟩, ⟨some 54, none, .ld 1 false (.t 53)⟩, ⟨some 55, none, .mv (.t 1)⟩, ⟨some 56, none, .call 56 [(.t 54), (.t 55)]⟩, ⟨some 1, none, .mv (.t 56)⟩])))))))))))) (.reg [⟨some 10, none, .mv (.t 5)⟩, ⟨some 11, none, .bin .add (.t 10) (.c (.int .i64 1))⟩, ⟨some 5, none, .mv (.t 11)⟩]))
def F_laws_markNodeS : RF := ⟨58, 2, [.t 4],
  .seq (.reg [⟨some 4, none, .mv (.c (.int .i64 0))⟩]) (.seq (.seq (.reg [⟨some 5, none, .mv (.c (.int .i64 0))⟩]) (.block 0 (.loop [0, 1, 5] [(1, [1])] B0_laws_markNodeS))) (.seq (.reg [⟨some 57, none, .mv (.t 1)⟩, ⟨some 4, none, .mv (.t 57)⟩]) (.ret)))⟩
def K_laws_markNodeS : Keeps := [([0, 1, 5], [(1, [1])])]
theorem r_laws_markNodeS : resolveF Try.prog Try.f102 K_laws_markNodeS = some F_laws_markNodeS := by kernel_rfl
noncomputable def X_laws_markNodeS : Ctx := Ctx.cons 161 G_laws_markText (Ctx.cons 56 G_laws_markIntS (fun _ => none))
theorem co_laws_markNodeS : CtxOk Try.prog X_laws_markNodeS := CtxOk.cons (CtxOk.cons (CtxOk.nil) ok_laws_markIntS) ok_laws_markText
theorem cx_laws_markNodeS : ((∀ args hp, callX X_laws_markNodeS 161 args hp = callS G_laws_markText args hp) ∧ (trC (X_laws_markNodeS 161) = false)) ∧ ((∀ args hp, callX X_laws_markNodeS 56 args hp = callS G_laws_markIntS args hp) ∧ (trC (X_laws_markNodeS 56) = true)) := ⟨⟨fun _ _ => rfl, rfl⟩, ⟨fun _ _ => rfl, rfl⟩⟩
noncomputable def S_laws_markNodeS : ByV := ⟨some 0, false, semF X_laws_markNodeS F_laws_markNodeS (some 0) false⟩
noncomputable def G_laws_markNodeS : CK := .byv S_laws_markNodeS
theorem sg_laws_markNodeS (args : List AV) : S_laws_markNodeS.sem args = semF X_laws_markNodeS F_laws_markNodeS (some 0) false args := rfl
theorem cl_laws_markNodeS (args : List AV) (hp : Hp) : callS G_laws_markNodeS args hp = byvM S_laws_markNodeS args hp := callS_byvM rfl args hp
theorem ok_laws_markNodeS : InlOk Try.prog 102 (callS G_laws_markNodeS) := byv_mark co_laws_markNodeS Try.func102 r_laws_markNodeS rfl (ro := false) (fun _ _ h => h)
/- 105 laws_markStringS calls [laws_markText]  -/
def B0_laws_markStringS : RC :=
  .seq (.seq (.reg [⟨some 6, none, .mv (.t 5)⟩, ⟨some 7, none, .mv (.t 0)⟩, ⟨some 8, none, .len false (.t 7)⟩, ⟨some 9, none, .bin .lss (.t 6) (.t 8)⟩]) (.cond (.t 9) (.skip) (.exit 0))) (.seq (.block 1 (.seq (.reg [⟨some 12, none, .mv (.t 0)⟩, ⟨some 13, none, .mv (.t 5)⟩, ⟨some 14, none, .mv (.t 1)⟩, ⟨some 15, none, .call 161 [(.t 14)]⟩, ⟨some 16, none, .ia 1 (.t 12) (.t 13)⟩, ⟨none, none, .st 1 (.t 16) (.t 15)⟩]) (.reg [⟨some 17, none, .mv (.t 1)⟩, ⟨some 18, none, .bin .add (.t 17) (.c (.int .i64 1))⟩, ⟨some 1, none, .mv (.t 18)⟩]))) (.reg [⟨some 10, none, .mv (.t 5)⟩, ⟨some 11, none, .bin .add (.t 10) (.c (.int .i64 1))⟩, ⟨some 5, none, .mv (.t 11)⟩]))
def F_laws_markStringS : RF := ⟨20, 2, [.t 4],
  .seq (.reg [⟨some 4, none, .mv (.c (.int .i64 0))⟩]) (.seq (.seq (.reg [⟨some 5, none, .mv (.c (.int .i64 0))⟩]) (.block 0 (.loop [0, 1, 5] [(1, [1])] B0_laws_markStringS))) (.seq (.reg [⟨some 19, none, .mv (.t 1)⟩, ⟨some 4, none, .mv (.t 19)⟩]) (.ret)))⟩
def K_laws_markStringS : Keeps := [([0, 1, 5], [(1, [1])])]
theorem r_laws_markStringS : resolveF Try.prog Try.f105 K_laws_markStringS = some F_laws_markStringS := by kernel_rfl
noncomputable def X_laws_markStringS : Ctx := Ctx.cons 161 G_laws_markText (fun _ => none)
theorem co_laws_markStringS : CtxOk Try.prog X_laws_markStringS := CtxOk.cons (CtxOk.nil) ok_laws_markText
theorem cx_laws_markStringS : ((∀ args hp, callX X_laws_markStringS 161 args hp = callS G_laws_markText args hp) ∧ (trC (X_laws_markStringS 161) = false)) := ⟨fun _ _ => rfl, rfl⟩
noncomputable def S_laws_markStringS : ByV := ⟨some 0, false, semF X_laws_markStringS F_laws_markStringS (some 0) false⟩
noncomputable def G_laws_markStringS : CK := .byv S_laws_markStringS
theorem sg_laws_markStringS (args : List AV) : S_laws_markStringS.sem args = semF X_laws_markStringS F_laws_markStringS (some 0) false args := rfl
theorem cl_laws_markStringS (args : List AV) (hp : Hp) : callS G_laws_markStringS args hp = byvM S_laws_markStringS args hp := callS_byvM rfl args hp
theorem ok_laws_markStringS : InlOk Try.prog 105 (callS G_laws_markStringS) := byv_mark co_laws_markStringS Try.func105 r_laws_markStringS rfl (ro := false) (fun _ _ h => h)
/- 183 laws_markEntryS calls [laws_markText]  -/
def B0_laws_markEntryS : RC :=
  .seq (.seq (.reg [⟨some 6, none, .mv (.t 5)⟩, ⟨some 7, none, .mv (.t 0)⟩, ⟨some 8, none, .len false (.t 7)⟩, ⟨some 9, none, .bin .lss (.t 6) (.t 8)⟩]) (.cond (.t 9) (.skip) (.exit 0))) (.seq (.block 1 (.seq (.reg [⟨some 12, none, .mv (.t 0)⟩, ⟨some 13, none, .mv (.t 5)⟩, ⟨some 14, none, .mv (.t 1)⟩, ⟨some 15, none, .call 161 [(.t 14)]⟩, ⟨some 16, none, .ia 3 (.t 12) (.t 13)⟩, ⟨some 17, none, .fa 0 (.t 16)⟩, ⟨none, none, .st 1 (.t 17) (.t 15)⟩]) (.seq (.reg [⟨some 18, none, .mv (.t 1)⟩, ⟨some 19, none, .bin .add (.t 18) (.c (.int .i64 1))⟩, ⟨some 1, none, .mv (.t 19)⟩]) (.seq (.reg [⟨some 20, none, .mv (.t 0)⟩, ⟨some 21, none, .mv (.t 5)⟩, ⟨some 22, none, .mv (.t 1)⟩, ⟨some 23, none, .call 161 [(.t 22)]⟩, ⟨some 24, none, .ia 3 (.t 20) (.t 21)⟩, ⟨some 25, none, .fa 1 (.t 24)⟩, ⟨none, none, .st 1 (.t 25) (.t 23)⟩]) (.seq (.reg [⟨some 26, none, .mv (.t 1)⟩, ⟨some 27, none, .bin .add (.t 26) (.c (.int .i64 1))⟩, ⟨some 1, none, .mv (.t 27)⟩]) (.seq (.reg [⟨some 28, none, .mv (.t 0)⟩, ⟨some 29, none, .mv (.t 5)⟩, ⟨some 30, none, .mv (.t 1)⟩, ⟨some 31, none, .ia 3 (.t 28) (.t 29)⟩, ⟨some 32, none, .fa 2 (.t 31)⟩, ⟨none, none, .st 1 (.t 32) (.t 30)⟩]) (.reg [⟨some 33, none, .mv (.t 1)⟩, ⟨some 34, none, .bin .add (.t 33) (.c (.int .i64 1))⟩, ⟨some 1, none, .mv (.t 34)⟩]))))))) (.reg [⟨some 10, none, .mv (.t 5)⟩, ⟨some 11, none, .bin .add (.t 10) (.c (.int .i64 1))⟩, ⟨some 5, none, .mv (.t 11)⟩]))
def F_laws_markEntryS : RF := ⟨36, 2, [.t 4],
  .seq (.reg [⟨some 4, none, .mv (.c (.int .i64 0))⟩]) (.seq (.seq (.reg [⟨some 5, none, .mv (.c (.int .i64 0))⟩]) (.block 0 (.loop [0, 1, 5] [(1, [1])] B0_laws_markEntryS))) (.seq (.reg [⟨some 35, none, .mv (.t 1)⟩, ⟨some 4, none, .mv (.t 35)⟩]) (.ret)))⟩
def K_laws_markEntryS : Keeps := [([0, 1, 5], [(1, [1])])]
theorem r_laws_markEntryS : resolveF Try.prog Try.f183 K_laws_markEntryS = some F_laws_markEntryS := by kernel_rfl
noncomputable def X_laws_markEntryS : Ctx := Ctx.cons 161 G_laws_markText (fun _ => none)
theorem co_laws_markEntryS : CtxOk Try.prog X_laws_markEntryS := CtxOk.cons (CtxOk.nil) ok_laws_markText
theorem cx_laws_markEntryS : ((∀ args hp, callX X_laws_markEntryS 161 args hp = callS G_laws_markText args hp) ∧ (trC (X_laws_markEntryS 161) = false)) := ⟨fun _ _ => rfl, rfl⟩
noncomputable def S_laws_markEntryS : ByV := ⟨some 0, false, semF X_laws_markEntryS F_laws_markEntryS (some 0) false⟩
noncomputable def G_laws_markEntryS : CK := .byv S_laws_markEntryS
theorem sg_laws_markEntryS (args : List AV) : S_laws_markEntryS.sem args = semF X_laws_markEntryS F_laws_markEntryS (some 0) false args := rfl
theorem cl_laws_markEntryS (args : List AV) (hp : Hp) : callS G_laws_markEntryS args hp = byvM S_laws_markEntryS args hp := callS_byvM rfl args hp
theorem ok_laws_markEntryS : InlOk Try.prog 183 (callS G_laws_markEntryS) := byv_mark co_laws_markEntryS Try.func183 r_laws_markEntryS rfl (ro := false) (fun _ _ h => h)
/- 103 laws_markMonitorS calls [laws_markText, laws_markStringS, laws_markEntryS]  -/
def B0_laws_markMonitorS : RC :=
  .seq (.seq (.reg [⟨some 6, none, .mv (.t 5)⟩, ⟨some 7, none, .mv (.t 0)⟩, ⟨some 8, none, .len false (.t 7)⟩, ⟨some 9, none, .bin .lss (.t 6) (.t 8)⟩]) (.cond (.t 9) (.skip) (.exit 0))) (.seq (.block 1 (.seq (.reg [⟨some 12, none, .mv (.t 0)⟩, ⟨some 13, none, .mv (.t 5)⟩, ⟨some 14, none, .mv (.t 1)⟩, ⟨some 15, none, .call 161 [(.t 14)]⟩, ⟨some 16, none, .ia 4 (.t 12) (.t 13)⟩, ⟨some 17, none, .fa 0 (.t 16)⟩, ⟨none, none, .st 1 (.t 17) (.t 15)⟩]) (.seq (.reg [⟨some 18, none, .mv (.t 1)⟩, ⟨some 19, none, .bin .add (.t 18) (.c (.int .i64 1))⟩, ⟨some 1, none, .mv (.t 19)⟩]) (.seq (.reg [⟨some 20, none, .mv (.t 0)⟩, ⟨some 21, none, .mv (.t 5)⟩, ⟨some 22, none, .ia 4 (.t 20) (.t 21)⟩, ⟨some 23, none, .fa 1 (.t 22)⟩, ⟨some 24, none, .ld 1 false (.t 23)⟩, ⟨some 25, none, .mv (.t 1)⟩, ⟨some 26, none, .call 105 [(.t 24), (.t 25)]⟩, ⟨some 1, none, .mv (.t 26)⟩]) (.seq (.reg [⟨some 27, none, .mv (.t 0)⟩, ⟨some 28, none, .mv (.t 5)⟩, ⟨some 29, none, .ia 4 (.t 27) (.t 28)⟩, ⟨some 30, none, .fa 2 (.t 29)⟩, ⟨some 31, none, .ld 1 false (.t 30)⟩, ⟨some 32, none, .mv (.t 1)⟩, ⟨some 33, none, .call 105 [(.t 31), (.t 32)]⟩, ⟨some 1, none, .mv (.t 33)⟩]) (.reg [⟨some 34, none, .mv (.t 0)⟩, ⟨some 35, none, .mv (.t 5)⟩, ⟨some 36, none, .ia 4 (.t 34) (.t 35)⟩, ⟨some 37, none, .fa 3 (.t 36)⟩, ⟨some 38, none, .ld 1 false (.t 37)⟩, ⟨some 39, none, .mv (.t 1)⟩, ⟨some 40, none, .call 183 [(.t 38), (.t 39)]⟩, ⟨some 1, none, .mv (.t 40)⟩])))))) (.reg [⟨some 10, none, .mv (.t 5)⟩, ⟨some 11, none, .bin .add (.t 10) (.c (.int .i64 1))⟩, ⟨some 5, none, .mv (.t 11)⟩]))
def F_laws_markMonitorS : RF := ⟨42, 2, [.t 4],
  .seq (.reg [⟨some 4, none, .mv (.c (.int .i64 0))⟩]) (.seq (.seq (.reg [⟨some 5, none, .mv (.c (.int .i64 0))⟩]) (.block 0 (.loop [0, 1, 5] [(1, [1])] B0_laws_markMonitorS))) (.seq (.reg [⟨some 41, none, .mv (.t 1)⟩, ⟨some 4, none, .mv (.t 41)⟩]) (.ret)))⟩
def K_laws_markMonitorS : Keeps := [([0, 1, 5], [(1, [1])])]
theorem r_laws_markMonitorS : resolveF Try.prog Try.f103 K_laws_markMonitorS = some F_laws_markMonitorS := by kernel_rfl
noncomputable def X_laws_markMonitorS : Ctx := Ctx.cons 161 G_laws_markText (Ctx.cons 105 G_laws_markStringS (Ctx.cons 183 G_laws_markEntryS (fun _ => none)))
theorem co_laws_markMonitorS : CtxOk Try.prog X_laws_markMonitorS := CtxOk.cons (CtxOk.cons (CtxOk.cons (CtxOk.nil) ok_laws_markEntryS) ok_laws_markStringS) ok_laws_markText
theorem cx_laws_markMonitorS : ((∀ args hp, callX X_laws_markMonitorS 161 args hp = callS G_laws_markText args hp) ∧ (trC (X_laws_markMonitorS 161) = false)) ∧ ((∀ args hp, callX X_laws_markMonitorS 105 args hp = callS G_laws_markStringS args hp) ∧ (trC (X_laws_markMonitorS 105) = true)) ∧ ((∀ args hp, callX X_laws_markMonitorS 183 args hp = callS G_laws_markEntryS args hp) ∧ (trC (X_laws_markMonitorS 183) = true)) := ⟨⟨fun _ _ => rfl, rfl⟩, ⟨fun _ _ => rfl, rfl⟩, ⟨fun _ _ => rfl, rfl⟩⟩
noncomputable def S_laws_markMonitorS : ByV := ⟨some 0, false, semF X_laws_markMonitorS F_laws_markMonitorS (some 0) false⟩
noncomputable def G_laws_markMonitorS : CK := .byv S_laws_markMonitorS
theorem sg_laws_markMonitorS (args : List AV) : S_laws_markMonitorS.sem args = semF X_laws_markMonitorS F_laws_markMonitorS (some 0) false args := rfl
theorem cl_laws_markMonitorS (args : List AV) (hp : Hp) : callS G_laws_markMonitorS args hp = byvM S_laws_markMonitorS args hp := callS_byvM rfl args hp
theorem ok_laws_markMonitorS : InlOk Try.prog 103 (callS G_laws_markMonitorS) := byv_mark co_laws_markMonitorS Try.func103 r_laws_markMonitorS rfl (ro := false) (fun _ _ h => h)
/- 104 laws_markProcessS calls [laws_markText, laws_markStringS]  -/
def B0_laws_markProcessS : RC :=
  .seq (.seq (.reg [⟨some 6, none, .mv (.t 5)⟩, ⟨some 7, none, .mv (.t 0)⟩, ⟨some 8, none, .len false (.t 7)⟩, ⟨some 9, none, .bin .lss (.t 6) (.t 8)⟩]) (.cond (.t 9) (.skip) (.exit 0))) (.seq (.block 1 (.seq (.reg [⟨some 12, none, .mv (.t 0)⟩, ⟨some 13, none, .mv (.t 5)⟩, ⟨some 14, none, .mv (.t 1)⟩, ⟨some 15, none, .call 161 [(.t 14)]⟩, ⟨some 16, none, .ia 4 (.t 12) (.t 13)⟩, ⟨some 17, none, .fa 0 (.t 16)⟩, ⟨none, none, .st 1 (.t 17) (.t 15)⟩]) (.seq (.reg [⟨some 18, none, .mv (.t 1)⟩, ⟨some 19, none, .bin .add (.t 18) (.c (.int .i64 1))⟩, ⟨some 1, none, .mv (.t 19)⟩]) (.seq (.reg [⟨some 20, none, .mv (.t 0)⟩, ⟨some 21, none, .mv (.t 5)⟩, ⟨some 22, none, .ia 4 (.t 20) (.t 21)⟩, ⟨some 23, none, .fa 1 (.t 22)⟩, ⟨some 24, none, .ld 1 false (.t 23)⟩, ⟨some 25, none, .mv (.t 1)⟩, ⟨some 26, none, .call 105 [(.t 24), (.t 25)]⟩, ⟨some 1, none, .mv (.t 26)⟩]) (.seq (.reg [⟨some 27, none, .mv (.t 0)⟩, ⟨some 28, none, .mv (.t 5)⟩, ⟨some 29, none, .ia 4 (.t 27) (.t 28)⟩, ⟨some 30, none, .fa 2 (.t 29)⟩, ⟨some 31, none, .ld 1 false (.t 30)⟩, ⟨some 32, none, .mv (.t 1)⟩, ⟨some 33, none, .call 105 [(.t 31), (.t 32)]⟩, ⟨some 1, none, .mv (.t 33)⟩]) (.seq (.reg [⟨some 34, none, .mv (.t 0)⟩, ⟨some 35, none, .mv (.t 5)⟩, ⟨some 36, none, .mv (.t 1)⟩, ⟨some 37, none, .ia 4 (.t 34) (.t 35)⟩, ⟨some 38, none, .fa 3 (.t 37)⟩, ⟨none, none, .st 1 (.t 38) (.t 36)⟩]) (.reg [⟨some 39, none, .mv (.t 1)⟩, ⟨some 40, none, .bin .add (.t 39) (.c (.int .i64 1))⟩, ⟨some 1, none, .mv (.t 40)⟩]))))))) (.reg [⟨some 10, none, .mv (.t 5)⟩, ⟨some 11, none, .bin .add (.t 10) (.c (.int .i64 1))⟩, ⟨some 5, none, .mv (.t 11)⟩]))
def F_laws_markProcessS : RF := ⟨42, 2, [.t 4],
  .seq (.reg [⟨some 4, none, .mv (.c (.int .i64 0))⟩]) (.seq (.seq (.reg [⟨some 5, none, .mv (.c (.int .i64 0))⟩]) (.block 0 (.loop [0, 1, 5] [(1, [1])] B0_laws_markProcessS))) (.seq (.reg [⟨some 41, none, .mv (.t 1)⟩, ⟨some 4, none, .mv (.t 41)⟩]) (.ret)))⟩
def K_laws_markProcessS : Keeps := [([0, 1, 5], [(1, [1])])]
theorem r_laws_markProcessS : resolveF Try.prog Try.f104 K_laws_markProcessS = some F_laws_markProcessS := by kernel_rfl
noncomputable def X_laws_markProcessS : Ctx := Ctx.cons 161 G_laws_markText (Ctx.cons 105 G_laws_markStringS (fun _ => none))
theorem co_laws_markProcessS : CtxOk Try.prog X_laws_markProcessS := CtxOk.cons (CtxOk.cons (CtxOk.nil) ok_laws_markStringS) ok_laws_markText
theorem cx_laws_markProcessS : ((∀ args hp, callX X_laws_markProcessS 161 args hp = callS G_laws_markText args hp) ∧ (trC (X_laws_markProcessS 161) = false)) ∧ ((∀ args hp, callX X_laws_markProcessS 105 args hp = callS G_laws_markStringS args hp) ∧ (trC (X_laws_markProcessS 105) = true)) := ⟨⟨fun _ _ => rfl, rfl⟩, ⟨fun _ _ => rfl, rfl⟩⟩
noncomputable def S_laws_markProcessS : ByV := ⟨some 0, false, semF X_laws_markProcessS F_laws_markProcessS (some 0) false⟩
noncomputable def G_laws_markProcessS : CK := .byv S_laws_markProcessS
theorem sg_laws_markProcessS (args : List AV) : S_laws_markProcessS.sem args = semF X_laws_markProcessS F_laws_markProcessS (some 0) false args := rfl
theorem cl_laws_markProcessS (args : List AV) (hp : Hp) : callS G_laws_markProcessS args hp = byvM S_laws_markProcessS args hp := callS_byvM rfl args hp
theorem ok_laws_markProcessS : InlOk Try.prog 104 (callS G_laws_markProcessS) := byv_mark co_laws_markProcessS Try.func104 r_laws_markProcessS rfl (ro := false) (fun _ _ h => h)
/- 31 laws_markProgram calls [laws_markNodeS, laws_markMonitorS, laws_markProcessS] inl -/
def F_laws_markProgram : RF := ⟨18, 2, [.t 4],
  .seq (.reg [⟨some 2, none, .box (.t 0)⟩, ⟨some 4, none, .mv (.c (.int .i64 0))⟩]) (.seq (.reg [⟨some 5, none, .fa 0 (.t 2)⟩, ⟨some 6, none, .ld 1 false (.t 5)⟩, ⟨some 7, none, .mv (.t 1)⟩, ⟨some 8, none, .call 102 [(.t 6), (.t 7)]⟩, ⟨some 1, none, .mv (.t 8)⟩]) (.seq (.reg [⟨some 9, none, .fa 1 (.t 2)⟩, ⟨some 10, none, .ld 1 false (.t 9)⟩, ⟨some 11, none, .mv (.t 1)⟩, ⟨some 12, none, .call 103 [(.t 10), (.t 11)]⟩, ⟨some 1, none, .mv (.t 12)⟩]) (.seq (.reg [⟨some 13, none, .fa 2 (.t 2)⟩, ⟨some 14, none, .ld 1 false (.t 13)⟩, ⟨some 15, none, .mv (.t 1)⟩, ⟨some 16, none, .call 104 [(.t 14), (.t 15)]⟩, ⟨some 1, none, .mv (.t 16)⟩]) (.seq (.reg [⟨some 17, none, .mv (.t 1)⟩, ⟨some 4, none, .mv (.t 17)⟩]) (.ret)))))⟩
def K_laws_markProgram : Keeps := []
theorem r_laws_markProgram : resolveF Try.prog Try.f31 K_laws_markProgram = some F_laws_markProgram := by kernel_rfl
noncomputable def X_laws_markProgram : Ctx := Ctx.cons 102 G_laws_markNodeS (Ctx.cons 103 G_laws_markMonitorS (Ctx.cons 104 G_laws_markProcessS (fun _ => none)))
theorem co_laws_markProgram : CtxOk Try.prog X_laws_markProgram := CtxOk.cons (CtxOk.cons (CtxOk.cons (CtxOk.nil) ok_laws_markProcessS) ok_laws_markMonitorS) ok_laws_markNodeS
theorem cx_laws_markProgram : ((∀ args hp, callX X_laws_markProgram 102 args hp = callS G_laws_markNodeS args hp) ∧ (trC (X_laws_markProgram 102) = true)) ∧ ((∀ args hp, callX X_laws_markProgram 103 args hp = callS G_laws_markMonitorS args hp) ∧ (trC (X_laws_markProgram 103) = true)) ∧ ((∀ args hp, callX X_laws_markProgram 104 args hp = callS G_laws_markProcessS args hp) ∧ (trC (X_laws_markProgram 104) = true)) := ⟨⟨fun _ _ => rfl, rfl⟩, ⟨fun _ _ => rfl, rfl⟩, ⟨fun _ _ => rfl, rfl⟩⟩
noncomputable def G_laws_markProgram : CK := .inl (runF X_laws_markProgram F_laws_markProgram)
theorem cl_laws_markProgram (args : List AV) (hp : Hp) : callS G_laws_markProgram args hp = runF X_laws_markProgram F_laws_markProgram args hp := rfl
theorem ok_laws_markProgram : InlOk Try.prog 31 (callS G_laws_markProgram) := runF_ok co_laws_markProgram Try.func31 r_laws_markProgram
/- 32 laws_markPlaces calls [laws_markStringS, laws_markIntS] inl -/
def F_laws_markPlaces : RF := ⟨14, 2, [.t 4],
  .seq (.reg [⟨some 2, none, .box (.t 0)⟩, ⟨some 4, none, .mv (.c (.int .i64 0))⟩]) (.seq (.reg [⟨some 5, none, .fa 0 (.t 2)⟩, ⟨some 6, none, .ld 1 false (.t 5)⟩, ⟨some 7, none, .mv (.t 1)⟩, ⟨some 8, none, .call 105 [(.t 6), (.t 7)]⟩, ⟨some 1, none, .mv (.t 8)⟩]) (.seq (.reg [⟨some 9, none, .fa 1 (.t 2)⟩, ⟨some 10, none, .ld 1 false (.t 9)⟩, ⟨some 11, none, .mv (.t 1)⟩, ⟨some 12, none, .call 56 [(.t 10), (.t 11)]⟩, ⟨some 1, none, .mv (.t 12)⟩]) (.seq (.reg [⟨some 13, none, .mv (.t 1)⟩, ⟨some 4, none, .mv (.t 13)⟩]) (.ret))))⟩
def K_laws_markPlaces : Keeps := []
theorem r_laws_markPlaces : resolveF Try.prog Try.f32 K_laws_markPlaces = some F_laws_markPlaces := by kernel_rfl
noncomputable def X_laws_markPlaces : Ctx := Ctx.cons 105 G_laws_markStringS (Ctx.cons 56 G_laws_markIntS (fun _ => none))
theorem co_laws_markPlaces : CtxOk Try.prog X_laws_markPlaces := CtxOk.cons (CtxOk.cons (CtxOk.nil) ok_laws_markIntS) ok_laws_markStringS
theorem cx_laws_markPlaces : ((∀ args hp, callX X_laws_markPlaces 105 args hp = callS G_laws_markStringS args hp) ∧ (trC (X_laws_markPlaces 105) = true)) ∧ ((∀ args hp, callX X_laws_markPlaces 56 args hp = callS G_laws_markIntS args hp) ∧ (trC (X_laws_markPlaces 56) = true)) := ⟨⟨fun _ _ => rfl, rfl⟩, ⟨fun _ _ => rfl, rfl⟩⟩
noncomputable def G_laws_markPlaces : CK := .inl (runF X_laws_markPlaces F_laws_markPlaces)
theorem cl_laws_markPlaces (args : List AV) (hp : Hp) : callS G_laws_markPlaces args hp = runF X_laws_markPlaces F_laws_markPlaces args hp := rfl
theorem ok_laws_markPlaces : InlOk Try.prog 32 (callS G_laws_markPlaces) := runF_ok co_laws_markPlaces Try.func32 r_laws_markPlaces
/- 106 laws_heldStringS calls [laws_markText]  -/
def B0_laws_heldStringS : RC :=
  .seq (.seq (.reg [⟨some 6, none, .mv (.t 5)⟩, ⟨some 7, none, .mv (.t 0)⟩, ⟨some 8, none, .len false (.t 7)⟩, ⟨some 9, none, .bin .lss (.t 6) (.t 8)⟩]) (.cond (.t 9) (.skip) (.exit 0))) (.seq (.block 1 (.seq (.seq (.regd [(0, ⟨some 12, none, .mv (.t 0)⟩), (0, ⟨some 13, none, .mv (.t 5)⟩), (2, ⟨some 14, none, .ia 1 (.t 12) (.t 13)⟩), (2, ⟨some 15, none, .ld 1 false (.t 14)⟩), (0, ⟨some 16, none, .mv (.t 1)⟩), (2, ⟨some 17, none, .call 161 [(.t 16)]⟩), (0, ⟨some 18, none, .bin .neq (.t 15) (.t 17)⟩)] [(2, 5), (3, 5)]) (.cond (.t 18) (.seq (.reg [⟨some 4, none, .mv (.c (.int .i64 (-1)))⟩]) (.ret)) (.skip))) (.reg [⟨some 19, none, .mv (.t 1)⟩, ⟨some 20, none, .bin .add (.t 19) (.c (.int .i64 1))⟩, ⟨some 1, none, .mv (.t 20)⟩]))) (.reg [⟨some 10, none, .mv (.t 5)⟩, ⟨some 11, none, .bin .add (.t 10) (.c (.int .i64 1))⟩, ⟨some 5, none, .mv (.t 11)⟩]))
def F_laws_heldStringS : RF := ⟨22, 2, [.t 4],
  .seq (.reg [⟨some 4, none, .mv (.c (.int .i64 0))⟩]) (.seq (.seq (.reg [⟨some 5, none, .mv (.c (.int .i64 0))⟩]) (.block 0 (.loop [0, 1, 5] [(1, [1]), (0, [4])] B0_laws_heldStringS))) (.seq (.reg [⟨some 21, none, .mv (.t 1)⟩, ⟨some 4, none, .mv (.t 21)⟩]) (.ret)))⟩
def K_laws_heldStringS : Keeps := [([0, 1, 5], [(1, [1]), (0, [4])])]
theorem r_laws_heldStringS : resolveF Try.prog Try.f106 K_laws_heldStringS = some F_laws_heldStringS := by kernel_rfl
noncomputable def X_laws_heldStringS : Ctx := Ctx.cons 161 G_laws_markText (fun _ => none)
theorem co_laws_heldStringS : CtxOk Try.prog X_laws_heldStringS := CtxOk.cons (CtxOk.nil) ok_laws_markText
theorem cx_laws_heldStringS : ((∀ args hp, callX X_laws_heldStringS 161 args hp = callS G_laws_markText args hp) ∧ (trC (X_laws_heldStringS 161) = false)) := ⟨fun _ _ => rfl, rfl⟩
noncomputable def S_laws_heldStringS : ByV := ⟨none, false, semF X_laws_heldStringS F_laws_heldStringS none false⟩
noncomputable def G_laws_heldStringS : CK := .byv S_laws_heldStringS
theorem sg_laws_heldStringS (args : List AV) : S_laws_heldStringS.sem args = semF X_laws_heldStringS F_laws_heldStringS none false args := rfl
theorem cl_laws_heldStringS (args : List AV) (hp : Hp) : callS G_laws_heldStringS args hp = byvS S_laws_heldStringS args hp := callS_byv rfl rfl args hp
theorem ok_laws_heldStringS : InlOk Try.prog 106 (callS G_laws_heldStringS) := byv_none co_laws_heldStringS Try.func106 r_laws_heldStringS rfl (fun _ _ h => h)
/- 57 laws_heldIntS calls []  -/
def B0_laws_heldIntS : RC :=
  .seq (.seq (.reg [⟨some 6, none, .mv (.t 5)⟩, ⟨some 7, none, .mv (.t 0)⟩, ⟨some 8, none, .len false (.t 7)⟩, ⟨some 9, none, .bin .lss (.t 6) (.t 8)⟩]) (.cond (.t 9) (.skip) (.exit 0))) (.seq (.block 1 (.seq (.seq (.reg [⟨some 12, none, .mv (.t 0)⟩, ⟨some 13, none, .mv (.t 5)⟩, ⟨some 14, none, .ia 1 (.t 12) (.t 13)⟩, ⟨some 15, none, .ld 1 false (.t 14)⟩, ⟨some 16, none, .mv (.t 1)⟩, ⟨some 17, none, .bin .neq (.t 15) (.t 16)⟩]) (.cond (.t 17) (.seq (.reg [⟨some 4, none, .mv (.c (.int .i64 (-1)))⟩]) (.ret)) (.skip))) (.reg [⟨some 18, none, .mv (.t 1)⟩, ⟨some 19, none, .bin .add (.t 18) (.c (.int .i64 1))⟩, ⟨some 1, none, .mv (.t 19)⟩]))) (.reg [⟨some 10, none, .mv (.t 5)⟩, ⟨some 11, none, .bin .add (.t 10) (.c (.int .i64 1))⟩, ⟨some 5, none, .mv (.t 11)⟩]))
def F_laws_heldIntS : RF := ⟨21, 2, [.t 4],
  .seq (.reg [⟨some 4, none, .mv (.c (.int .i64 0))⟩]) (.seq (.seq (.reg [⟨some 5, none, .mv (.c (.int .i64 0))⟩]) (.block 0 (.loop [0, 1, 5] [(1, [1]), (0, [4])] B0_laws_heldIntS))) (.seq (.reg [⟨some 20, none, .mv (.t 1)⟩, ⟨some 4, none, .mv (.t 20)⟩]) (.ret)))⟩
def K_laws_heldIntS : Keeps := [([0, 1, 5], [(1, [1]), (0, [4])])]
theorem r_laws_heldIntS : resolveF Try.prog Try.f57 K_laws_heldIntS = some F_laws_heldIntS := by kernel_rfl
noncomputable def X_laws_heldIntS : Ctx := fun _ => none
theorem co_laws_heldIntS : CtxOk Try.prog X_laws_heldIntS := CtxOk.nil
theorem cx_laws_heldIntS : True := trivial
noncomputable def S_laws_heldIntS : ByV := ⟨none, false, semF X_laws_heldIntS F_laws_heldIntS none false⟩
noncomputable def G_laws_heldIntS : CK := .byv S_laws_heldIntS
theorem sg_laws_heldIntS (args : List AV) : S_laws_heldIntS.sem args = semF X_laws_heldIntS F_laws_heldIntS none false args := rfl
theorem cl_laws_heldIntS (args : List AV) (hp : Hp) : callS G_laws_heldIntS args hp = byvS S_laws_heldIntS args hp := callS_byv rfl rfl args hp
theorem ok_laws_heldIntS : InlOk Try.prog 57 (callS G_laws_heldIntS) := byv_none co_laws_heldIntS Try.func57 r_laws_heldIntS rfl (fun _ _ h => h)
/- 33 laws_heldPlaces calls [laws_heldStringS, laws_heldIntS]  -/
def F_laws_heldPlaces : RF := ⟨18, 2, [.t 4],
  .seq (.reg [⟨some 2, none, .box (.t 0)⟩, ⟨some 4, none, .mv (.c (.int .i64 0))⟩]) (.seq (.reg [⟨some 5, none, .fa 0 (.t 2)⟩, ⟨some 6, none, .ld 1 false (.t 5)⟩, ⟨some 7, none, .mv (.t 1)⟩, ⟨some 8, none, .call 106 [(.t 6), (.t 7)]⟩, ⟨some 1, none, .mv (.t 8)⟩]) (.seq (.seq (.reg [⟨some 9, none, .mv (.t 1)⟩, ⟨some 10, none, .bin .lss (.t 9) (.c (.int .i64 0))⟩]) (.cond (.t 10) (.seq (.reg [⟨some 4, none, .mv (.c (.int .i64 (-1)))⟩]) (.ret)) (.skip))) (.seq (.reg [⟨some 11, none, .fa 1 (.t 2)⟩, ⟨some 12, none, .ld 1 false (.t 11)⟩, ⟨some 13, none, .mv (.t 1)⟩, ⟨some 14, none, .call 57 [(.t 12), (.t 13)]⟩, ⟨some 1, none, .mv (.t 14)⟩]) (.seq (.seq (.reg [⟨some 15, none, .mv (.t 1)⟩, ⟨some 16, none, .bin .lss (.t 15) (.c (.int .i64 0))⟩]) (.cond (.t 16) (.seq (.reg [⟨some 4, none, .mv (.c (.int .i64 (-1)))⟩]) (.ret)) (.skip))) (.seq (.reg [⟨some 17, none, .mv (.t 1)⟩, ⟨some 4, none, .mv (.t 17)⟩]) (.ret))))))⟩
def K_laws_heldPlaces : Keeps := []
theorem r_laws_heldPlaces : resolveF Try.prog Try.f33 K_laws_heldPlaces = some F_laws_heldPlaces := by kernel_rfl
noncomputable def X_laws_heldPlaces : Ctx := Ctx.cons 106 G_laws_heldStringS (Ctx.cons 57 G_laws_heldIntS (fun _ => none))
theorem co_laws_heldPlaces : CtxOk Try.prog X_laws_heldPlaces := CtxOk.cons (CtxOk.cons (CtxOk.nil) ok_laws_heldIntS) ok_laws_heldStringS
theorem cx_laws_heldPlaces : ((∀ args hp, callX X_laws_heldPlaces 106 args hp = callS G_laws_heldStringS args hp) ∧ (trC (X_laws_heldPlaces 106) = false)) ∧ ((∀ args hp, callX X_laws_heldPlaces 57 args hp = callS G_laws_heldIntS args hp) ∧ (trC (X_laws_heldPlaces 57) = false)) := ⟨⟨fun _ _ => rfl, rfl⟩, ⟨fun _ _ => rfl, rfl⟩⟩
noncomputable def S_laws_heldPlaces : ByV := ⟨none, false, semF X_laws_heldPlaces F_laws_heldPlaces none false⟩
noncomputable def G_laws_heldPlaces : CK := .byv S_laws_heldPlaces
theorem sg_laws_heldPlaces (args : List AV) : S_laws_heldPlaces.sem args = semF X_laws_heldPlaces F_laws_heldPlaces none false args := rfl
theorem cl_laws_heldPlaces (args : List AV) (hp : Hp) : callS G_laws_heldPlaces args hp = byvS S_laws_heldPlaces args hp := callS_byv rfl rfl args hp
theorem ok_laws_heldPlaces : InlOk Try.prog 33 (callS G_laws_heldPlaces) := byv_none co_laws_heldPlaces Try.func33 r_laws_heldPlaces rfl (fun _ _ h => h)
/- 7 laws_FnExactEntryPlaces calls [laws_szProgram, laws_toProgram, spec_EntryPlaces, impl_EntryPlaces, laws_eqPlaces, laws_eqProgram, laws_markProgram, laws_markPlaces, laws_heldPlaces]  -/
def F_laws_FnExactEntryPlaces : RF := ⟨84, 4, [.t 8],
  .seq (.reg [⟨some 4, none, .box (.t 0)⟩, ⟨some 8, none, .mv (.c (.bool false))⟩]) (.seq (.reg [⟨some 9, none, .mv (.c (.int .i64 1048576))⟩]) (.seq (.reg [⟨some 17, none, .ld 3 true (.t 4)⟩, ⟨some 18, none, .mv (.t 9)⟩, ⟨some 19, none, .call 21 [(.t 17), (.t 18)]⟩, ⟨some 9, none, .mv (.t 19)⟩]) (.seq (.seq (.reg [⟨some 20, none, .mv (.t 9)⟩, ⟨some 21, none, .bin .lss (.t 20) (.c (.int .i64 0))⟩]) (.cond (.t 21) (.seq (.reg [⟨some 8, none, .mv (.c (.bool true))⟩]) (.ret)) (.skip))) (.seq (.reg [⟨some 22, none, .ld 3 true (.t 4)⟩, ⟨some 23, none, .call 23 [(.t 22)]⟩, ⟨some 24, none, .mv (.t 1)⟩, ⟨some 25, none, .mv (.t 2)⟩, ⟨some 26, none, .mv (.t 3)⟩, ⟨some 27, none, .call 34 [(.t 23), (.t 24), (.t 25), (.t 26)]⟩, ⟨some 10, none, .new [(.nil 1), (.nil 1)]⟩, ⟨none, none, .st 2 (.t 10) (.t 27)⟩]) (.seq (.reg [⟨some 28, none, .ld 3 true (.t 4)⟩, ⟨some 29, none, .call 23 [(.t 28)]⟩, ⟨some 11, none, .new [(.nil 6), (.nil 4), (.nil 4)]⟩, ⟨none, none, .st 3 (.t 11) (.t 29)⟩]) (.seq (.reg [⟨some 30, none, .ld 3 true (.t 11)⟩, ⟨some 31, none, .mv (.t 1)⟩, ⟨some 32, none, .mv (.t 2)⟩, ⟨some 33, none, .mv (.t 3)⟩, ⟨some 34, none, .call 35 [(.t 30), (.t 31), (.t 32), (.t 33)]⟩, ⟨some 12, none, .new [(.nil 1), (.nil 1)]⟩, ⟨none, none, .st 2 (.t 12) (.t 34)⟩]) (.seq (.seq (.reg [⟨some 35, none, .ld 2 true (.t 12)⟩, ⟨some 36, none, .ld 2 true (.t 10)⟩, ⟨some 37, none, .call 30 [(.t 35), (.t 36)]⟩, ⟨some 38, none, .un .not (.t 37)⟩]) (.cond (.t 38) (.seq (.reg [⟨some 8, none, .mv (.c (.bool false))⟩]) (.ret)) (.skip))) (.seq (.seq (.regd [(2, ⟨some 39, none, .ld 3 true (.t 11)⟩), (1, ⟨some 40, none, .ld 3 true (.t 4)⟩), (2, ⟨some 41, none, .call 23 [(.t 40)]⟩), (1, ⟨some 42, none, .call 25 [(.t 39), (.t 41)]⟩), (0, ⟨some 43, none, .un .not (.t 42)⟩)] [(0, 2)]) (.cond (.t 43) (.seq (.reg [⟨some 8, none, .mv (.c (.bool false))⟩]) (.ret)) (.skip))) (.seq (.reg [⟨some 13, none, .mv (.c (.int .i64 1))⟩]) (.seq (.reg [⟨some 44, none, .ld 3 true (.t 11)⟩, ⟨some 45, none, .mv (.t 13)⟩, ⟨some 46, none, .call 31 [(.t 44), (.t 45)]⟩, ⟨some 13, none, .mv (.t 46)⟩]) (.seq (.seq (.reg [⟨some 47, none, .mv (.t 13)⟩, ⟨some 48, none, .bin .lss (.t 47) (.c (.int .i64 0))⟩, ⟨some 49, none, .mv (.t 48)⟩, ⟨some 50, some (49, false), .ld 2 true (.t 12)⟩, ⟨some 51, some (49, false), .ld 2 true (.t 10)⟩, ⟨some 52, some (49, false), .call 30 [(.t 50), (.t 51)]⟩, ⟨some 53, some (49, false), .un .not (.t 52)⟩, ⟨some 54, none, .pick (.t 49) (.c (.bool true)) (.t 53)⟩]) (.cond (.t 54) (.seq (.reg [⟨some 8, none, .mv (.c (.bool false))⟩]) (.ret)) (.skip))) (.seq (.reg [⟨some 14, none, .mv (.c (.int .i64 1))⟩]) (.seq (.reg [⟨some 55, none, .ld 2 true (.t 12)⟩, ⟨some 56, none, .mv (.t 14)⟩, ⟨some 57, none, .call 32 [(.t 55), (.t 56)]⟩, ⟨some 14, none, .mv (.t 57)⟩]) (.seq (.reg [⟨some 15, none, .mv (.c (.int .i64 1))⟩]) (.seq (.reg [⟨some 58, none, .ld 2 true (.t 12)⟩, ⟨some 59, none, .mv (.t 15)⟩, ⟨some 60, none, .call 33 [(.t 58), (.t 59)]⟩, ⟨some 15, none, .mv (.t 60)⟩]) (.seq (.seq (.reg [⟨some 61, none, .mv (.t 15)⟩, ⟨some 62, none, .bin .lss (.t 61) (.c (.int .i64 0))⟩]) (.cond (.t 62) (.seq (.reg [⟨some 8, none, .mv (.c (.bool false))⟩]) (.ret)) (.skip))) (.seq (.seq (.reg [⟨some 63, none, .mv (.t 15)⟩, ⟨some 64, none, .mv (.t 14)⟩, ⟨some 65, none, .bin .neq (.t 63) (.t 64)⟩]) (.cond (.t 65) (.seq (.reg [⟨some 8, none, .mv (.c (.bool false))⟩]) (.ret)) (.skip))) (.seq (.reg [⟨some 66, none, .ld 3 true (.t 4)⟩, ⟨some 67, none, .call 23 [(.t 66)]⟩, ⟨some 68, none, .mv (.t 1)⟩, ⟨some 69, none, .mv (.t 2)⟩, ⟨some 70, none, .mv (.t 3)⟩, ⟨some 71, none, .call 35 [(.t 67), (.t 68), (.t 69), (.t 70)]⟩, ⟨some 16, none, .new [(.nil 1), (.nil 1)]⟩, ⟨none, none, .st 2 (.t 16) (.t 71)⟩]) (.seq (.seq (.reg [⟨some 72, none, .ld 2 true (.t 16)⟩, ⟨some 73, none, .ld 2 true (.t 10)⟩, ⟨some 74, none, .call 30 [(.t 72), (.t 73)]⟩, ⟨some 75, none, .un .not (.t 74)⟩]) (.cond (.t 75) (.seq (.reg [⟨some 8, none, .mv (.c (.bool false))⟩]) (.ret)) (.skip))) (.seq (.reg [⟨some 15, none, .mv (.c (.int .i64 1))⟩]) (.seq (.reg [⟨some 76, none, .ld 2 true (.t 12)⟩, ⟨some 77, none, .mv (.t 15)⟩, ⟨some 78, none, .call 33 [(.t 76), (.t 77)]⟩, ⟨some 15, none, .mv (.t 78)⟩]) (.seq (.seq (.reg [⟨some 79, none, .mv (.t 15)⟩, ⟨some 80, none, .bin .lss (.t 79) (.c (.int .i64 0))⟩]) (.cond (.t 80) (.seq (.reg [⟨some 8, none, .mv (.c (.bool false))⟩]) (.ret)) (.skip))) (.seq (.seq (.reg [⟨some 81, none, .mv (.t 15)⟩, ⟨some 82, none, .mv (.t 14)⟩, ⟨some 83, none, .bin .neq (.t 81) (.t 82)⟩]) (.cond (.t 83) (.seq (.reg [⟨some 8, none, .mv (.c (.bool false))⟩]) (.ret)) (.skip))) (.seq (.reg [⟨some 8, none, .mv (.c (.bool true))⟩]) (.ret)))))))))))))))))))))))))⟩
def K_laws_FnExactEntryPlaces : Keeps := []
theorem r_laws_FnExactEntryPlaces : resolveF Try.prog Try.f7 K_laws_FnExactEntryPlaces = some F_laws_FnExactEntryPlaces := by kernel_rfl
noncomputable def X_laws_FnExactEntryPlaces : Ctx := Ctx.cons 21 G_laws_szProgram (Ctx.cons 23 G_laws_toProgram (Ctx.cons 34 G_spec_EntryPlaces (Ctx.cons 35 G_impl_EntryPlaces (Ctx.cons 30 G_laws_eqPlaces (Ctx.cons 25 G_laws_eqProgram (Ctx.cons 31 G_laws_markProgram (Ctx.cons 32 G_laws_markPlaces (Ctx.cons 33 G_laws_heldPlaces (fun _ => none)))))))))
theorem co_laws_FnExactEntryPlaces : CtxOk Try.prog X_laws_FnExactEntryPlaces := CtxOk.cons (CtxOk.cons (CtxOk.cons (CtxOk.cons (CtxOk.cons (CtxOk.cons (CtxOk.cons (CtxOk.cons (CtxOk.cons (CtxOk.nil) ok_laws_heldPlaces) ok_laws_markPlaces) ok_laws_markProgram) ok_laws_eqProgram) ok_laws_eqPlaces) ok_impl_EntryPlaces) ok_spec_EntryPlaces) ok_laws_toProgram) ok_laws_szProgram
theorem cx_laws_FnExactEntryPlaces : ((∀ args hp, callX X_laws_FnExactEntryPlaces 21 args hp = callS G_laws_szProgram args hp) ∧ (trC (X_laws_FnExactEntryPlaces 21) = false)) ∧ ((∀ args hp, callX X_laws_FnExactEntryPlaces 23 args hp = callS G_laws_toProgram args hp) ∧ (trC (X_laws_FnExactEntryPlaces 23) = false)) ∧ ((∀ args hp, callX X_laws_FnExactEntryPlaces 34 args hp = callS G_spec_EntryPlaces args hp) ∧ (trC (X_laws_FnExactEntryPlaces 34) = false)) ∧ ((∀ args hp, callX X_laws_FnExactEntryPlaces 35 args hp = callS G_impl_EntryPlaces args hp) ∧ (trC (X_laws_FnExactEntryPlaces 35) = false)) ∧ ((∀ args hp, callX X_laws_FnExactEntryPlaces 30 args hp = callS G_laws_eqPlaces args hp) ∧ (trC (X_laws_FnExactEntryPlaces 30) = false)) ∧ ((∀ args hp, callX X_laws_FnExactEntryPlaces 25 args hp = callS G_laws_eqProgram args hp) ∧ (trC (X_laws_FnExactEntryPlaces 25) = false)) ∧ ((∀ args hp, callX X_laws_FnExactEntryPlaces 31 args hp = callS G_laws_markProgram args hp) ∧ (trC (X_laws_FnExactEntryPlaces 31) = true)) ∧ ((∀ args hp, callX X_laws_FnExactEntryPlaces 32 args hp = callS G_laws_markPlaces args hp) ∧ (trC (X_laws_FnExactEntryPlaces 32) = true)) ∧ ((∀ args hp, callX X_laws_FnExactEntryPlaces 33 args hp = callS G_laws_heldPlaces args hp) ∧ (trC (X_laws_FnExactEntryPlaces 33) = false)) := ⟨⟨fun _ _ => rfl, rfl⟩, ⟨fun _ _ => rfl, rfl⟩, ⟨fun _ _ => rfl, rfl⟩, ⟨fun _ _ => rfl, rfl⟩, ⟨fun _ _ => rfl, rfl⟩, ⟨fun _ _ => rfl, rfl⟩, ⟨fun _ _ => rfl, rfl⟩, ⟨fun _ _ => rfl, rfl⟩, ⟨fun _ _ => rfl, rfl⟩⟩
end Go.Proofs.Ytfecgljlnfoheaa.AI
