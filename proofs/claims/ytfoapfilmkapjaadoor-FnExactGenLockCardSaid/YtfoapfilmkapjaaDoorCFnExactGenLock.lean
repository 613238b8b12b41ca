/- The functions that the law FnExactGenLock reaches, in the reckoner's words. -/
import Derived.Test.YtfoapfilmkapjaaDoorAItoa
import Derived.Test.YtfoapfilmkapjaaDoorChecked
import Derived.ProofKit
import Derived.Test.YtfoapfilmkapjaaDoorShelf
namespace Go.Proofs.YtfoapfilmkapjaaDoor.AI
open Go.Proofs
set_option linter.all false
set_option maxRecDepth 100000
noncomputable section
instance : Tabs := ⟨fun B => Tryd.prog.globalNamed "internal/strconv.uint64pow10" = some B, fun _ x => ∃ e fz, x = .cells (Lib.pow10Tab.map fun z => Value.int .u64 z).toArray e fz⟩
theorem tabI {w : World} (h : ∀ B, Tabs.at_ B → ∃ x, w.heap[B]? = some x ∧ Tabs.ok B x) : Lib.TabIs Tryd.prog w "internal/strconv.uint64pow10" .u64 Lib.pow10Tab := by
  obtain ⟨g, hg⟩ := Option.isSome_iff_exists.1 (show (Tryd.prog.globalNamed "internal/strconv.uint64pow10").isSome = true by kernel_rfl)
  obtain ⟨x, hx, e, fz, rfl⟩ := h g hg
  unfold Lib.TabIs World.var?
  rw [hg]
  simp only [Option.bind_some, hx]
theorem tabO {w : World} (h : Lib.TabIs Tryd.prog w "internal/strconv.uint64pow10" .u64 Lib.pow10Tab) : ∀ B, Tabs.at_ B → ∃ x, w.heap[B]? = some x ∧ Tabs.ok B x := by
  intro B hB
  unfold Lib.TabIs World.var? at h
  rw [show Tryd.prog.globalNamed "internal/strconv.uint64pow10" = some B from hB] at h
  simp only [Option.bind_some] at h
  split at h
  · rename_i cs e fz heq
    simp only [Option.some.injEq] at h
    exact ⟨_, heq, e, fz, by rw [h]⟩
  · cases h
def F_laws_szLine : RF := ⟨20, 2, [.t 4],
  .seq (.reg [o 2 (.box (.t 0)), o 4 (.mv (.c (.int .i64 0)))]) (.seq (.reg [o 5 (.mv (.t 1)), o 6 (.fa 0 (.t 2)), o 7 (.ld 1 false (.t 6)), o 8 (.len true (.t 7)), o 9 (.bin .sub (.t 5) (.t 8)), o 1 (.mv (.t 9))]) (.seq (.seq (.reg [o 10 (.mv (.t 1)), o 11 (.bin .lss (.t 10) (.c (.int .i64 0)))]) (.cond (.t 11) (.seq (.reg [o 4 (.mv (.c (.int .i64 (-1))))]) (.ret)) (.skip))) (.seq (.reg [o 12 (.mv (.t 1)), o 13 (.fa 5 (.t 2)), o 14 (.ld 1 false (.t 13)), o 15 (.len true (.t 14)), o 16 (.bin .sub (.t 12) (.t 15)), o 1 (.mv (.t 16))]) (.seq (.seq (.reg [o 17 (.mv (.t 1)), o 18 (.bin .lss (.t 17) (.c (.int .i64 0)))]) (.cond (.t 18) (.seq (.reg [o 4 (.mv (.c (.int .i64 (-1))))]) (.ret)) (.skip))) (.seq (.reg [o 19 (.mv (.t 1)), o 4 (.mv (.t 19))]) (.ret))))))⟩
def K_laws_szLine : Keeps := []
theorem r_laws_szLine : resolveF Tryd.prog Tryd.f55 K_laws_szLine = some F_laws_szLine := by kernel_rfl
def X_laws_szLine : Ctx := fun _ => none
theorem co_laws_szLine : CtxOk Tryd.prog X_laws_szLine := CtxOk.nil
theorem cx_laws_szLine : True := trivial
def S_laws_szLine : ByV := ⟨none, false, semF X_laws_szLine F_laws_szLine none false⟩
def G_laws_szLine : CK := .byv S_laws_szLine
theorem sg_laws_szLine (args : List AV) : S_laws_szLine.sem args = semF X_laws_szLine F_laws_szLine none false args := rfl
theorem cl_laws_szLine (args hp) : callS G_laws_szLine args hp = byvS S_laws_szLine args hp := callS_byv rfl rfl args hp
theorem ok_laws_szLine : InlOk Tryd.prog 55 (callS G_laws_szLine) := byv_none co_laws_szLine Tryd.func55 r_laws_szLine rfl (fun _ _ h => h)
def B0_laws_szLineS : RC :=
  .seq (.seq (.reg [o 12 (.mv (.t 5)), o 13 (.mv (.t 0)), o 14 (.len false (.t 13)), o 15 (.bin .lss (.t 12) (.t 14))]) (.cond (.t 15) (.skip) (.exit 0))) (.seq (.block 1 (.seq (.reg [o 18 (.mv (.t 0)), o 19 (.mv (.t 5)), o 20 (.ia 6 (.t 18) (.t 19)), o 21 (.ld 6 true (.t 20)), o 22 (.mv (.t 1)), o 23 (.call 55 [(.t 21), (.t 22)]), o 1 (.mv (.t 23))]) (.seq (.reg [o 24 (.mv (.t 1)), o 25 (.bin .lss (.t 24) (.c (.int .i64 0)))]) (.cond (.t 25) (.seq (.reg [o 4 (.mv (.c (.int .i64 (-1))))]) (.ret)) (.skip))))) (.reg [o 16 (.mv (.t 5)), o 17 (.bin .add (.t 16) (.c (.int .i64 1))), o 5 (.mv (.t 17))]))
def F_laws_szLineS : RF := ⟨27, 2, [.t 4],
  .seq (.reg [o 4 (.mv (.c (.int .i64 0)))]) (.seq (.reg [o 6 (.mv (.t 1)), o 7 (.mv (.t 0)), o 8 (.len false (.t 7)), o 9 (.bin .sub (.t 6) (.t 8)), o 1 (.mv (.t 9))]) (.seq (.seq (.reg [o 10 (.mv (.t 1)), o 11 (.bin .lss (.t 10) (.c (.int .i64 0)))]) (.cond (.t 11) (.seq (.reg [o 4 (.mv (.c (.int .i64 (-1))))]) (.ret)) (.skip))) (.seq (.seq (.reg [o 5 (.mv (.c (.int .i64 0)))]) (.block 0 (.loop [0, 1, 5] [(1, [1]), (0, [4])] B0_laws_szLineS))) (.seq (.reg [o 26 (.mv (.t 1)), o 4 (.mv (.t 26))]) (.ret)))))⟩
def K_laws_szLineS : Keeps := [([0, 1, 5], [(1, [1]), (0, [4])])]
theorem r_laws_szLineS : resolveF Tryd.prog Tryd.f36 K_laws_szLineS = some F_laws_szLineS := by kernel_rfl
def X_laws_szLineS : Ctx := Ctx.cons 55 G_laws_szLine (fun _ => none)
theorem co_laws_szLineS : CtxOk Tryd.prog X_laws_szLineS := CtxOk.cons (CtxOk.nil) ok_laws_szLine
theorem cx_laws_szLineS : (CX X_laws_szLineS 55 G_laws_szLine false) := cxI rfl rfl
def S_laws_szLineS : ByV := ⟨none, false, semF X_laws_szLineS F_laws_szLineS none false⟩
def G_laws_szLineS : CK := .byv S_laws_szLineS
theorem sg_laws_szLineS (args : List AV) : S_laws_szLineS.sem args = semF X_laws_szLineS F_laws_szLineS none false args := rfl
theorem cl_laws_szLineS (args hp) : callS G_laws_szLineS args hp = byvS S_laws_szLineS args hp := callS_byv rfl rfl args hp
theorem ok_laws_szLineS : InlOk Tryd.prog 36 (callS G_laws_szLineS) := byv_none co_laws_szLineS Tryd.func36 r_laws_szLineS rfl (fun _ _ h => h)
def F_laws_szGen : RF := ⟨12, 2, [.t 4],
  .seq (.reg [o 2 (.box (.t 0)), o 4 (.mv (.c (.int .i64 0)))]) (.seq (.reg [o 5 (.fa 0 (.t 2)), o 6 (.ld 1 false (.t 5)), o 7 (.mv (.t 1)), o 8 (.call 36 [(.t 6), (.t 7)]), o 1 (.mv (.t 8))]) (.seq (.seq (.reg [o 9 (.mv (.t 1)), o 10 (.bin .lss (.t 9) (.c (.int .i64 0)))]) (.cond (.t 10) (.seq (.reg [o 4 (.mv (.c (.int .i64 (-1))))]) (.ret)) (.skip))) (.seq (.reg [o 11 (.mv (.t 1)), o 4 (.mv (.t 11))]) (.ret))))⟩
def K_laws_szGen : Keeps := []
theorem r_laws_szGen : resolveF Tryd.prog Tryd.f15 K_laws_szGen = some F_laws_szGen := by kernel_rfl
def X_laws_szGen : Ctx := Ctx.cons 36 G_laws_szLineS (fun _ => none)
theorem co_laws_szGen : CtxOk Tryd.prog X_laws_szGen := CtxOk.cons (CtxOk.nil) ok_laws_szLineS
theorem cx_laws_szGen : (CX X_laws_szGen 36 G_laws_szLineS false) := cxI rfl rfl
def S_laws_szGen : ByV := ⟨none, false, semF X_laws_szGen F_laws_szGen none false⟩
def G_laws_szGen : CK := .byv S_laws_szGen
theorem sg_laws_szGen (args : List AV) : S_laws_szGen.sem args = semF X_laws_szGen F_laws_szGen none false args := rfl
theorem cl_laws_szGen (args hp) : callS G_laws_szGen args hp = byvS S_laws_szGen args hp := callS_byv rfl rfl args hp
theorem ok_laws_szGen : InlOk Tryd.prog 15 (callS G_laws_szGen) := byv_none co_laws_szGen Tryd.func15 r_laws_szGen rfl (fun _ _ h => h)
def F_laws_toIns : RF := ⟨17, 1, [.cell 2 4 true],
  .seq (.reg [o 1 (.box (.t 0)), o 2 (.new [(.int .i64 0), (.int .i64 0), (.int .i64 0), (.int .i64 0)])]) (.seq (.reg [o 3 (.new [(.int .i64 0), (.int .i64 0), (.int .i64 0), (.int .i64 0)])]) (.seq (.reg [o 4 (.fa 0 (.t 1)), o 5 (.ld 1 false (.t 4)), o 6 (.fa 0 (.t 3)), ⟨none, none, .st 1 (.t 6) (.t 5)⟩]) (.seq (.reg [o 7 (.fa 1 (.t 1)), o 8 (.ld 1 false (.t 7)), o 9 (.fa 1 (.t 3)), ⟨none, none, .st 1 (.t 9) (.t 8)⟩]) (.seq (.reg [o 10 (.fa 2 (.t 1)), o 11 (.ld 1 false (.t 10)), o 12 (.fa 2 (.t 3)), ⟨none, none, .st 1 (.t 12) (.t 11)⟩]) (.seq (.reg [o 13 (.fa 3 (.t 1)), o 14 (.ld 1 false (.t 13)), o 15 (.fa 3 (.t 3)), ⟨none, none, .st 1 (.t 15) (.t 14)⟩]) (.seq (.reg [o 16 (.ld 4 true (.t 3)), ⟨none, none, .st 4 (.t 2) (.t 16)⟩]) (.ret)))))))⟩
def K_laws_toIns : Keeps := []
theorem r_laws_toIns : resolveF Tryd.prog Tryd.f8 K_laws_toIns = some F_laws_toIns := by kernel_rfl
def X_laws_toIns : Ctx := fun _ => none
theorem co_laws_toIns : CtxOk Tryd.prog X_laws_toIns := CtxOk.nil
theorem cx_laws_toIns : True := trivial
def S_laws_toIns : ByV := ⟨none, false, semF X_laws_toIns F_laws_toIns none false⟩
def G_laws_toIns : CK := .byv S_laws_toIns
theorem sg_laws_toIns (args : List AV) : S_laws_toIns.sem args = semF X_laws_toIns F_laws_toIns none false args := rfl
theorem cl_laws_toIns (args hp) : callS G_laws_toIns args hp = byvS S_laws_toIns args hp := callS_byv rfl rfl args hp
theorem ok_laws_toIns : InlOk Tryd.prog 8 (callS G_laws_toIns) := byv_none co_laws_toIns Tryd.func8 r_laws_toIns rfl (fun _ _ h => h)
def F_laws_toLine : RF := ⟨15, 1, [.cell 2 6 true],
  .seq (.reg [o 1 (.box (.t 0)), o 2 (.new [(.str ⟨#[]⟩), (.int .i64 0), (.int .i64 0), (.int .i64 0), (.int .i64 0), (.str ⟨#[]⟩)])]) (.seq (.reg [o 3 (.new [(.str ⟨#[]⟩), (.int .i64 0), (.int .i64 0), (.int .i64 0), (.int .i64 0), (.str ⟨#[]⟩)])]) (.seq (.reg [o 4 (.fa 0 (.t 1)), o 5 (.ld 1 false (.t 4)), o 6 (.fa 0 (.t 3)), ⟨none, none, .st 1 (.t 6) (.t 5)⟩]) (.seq (.reg [o 7 (.fa 1 (.t 1)), o 8 (.ld 4 true (.t 7)), o 9 (.call 8 [(.t 8)]), o 10 (.fa 1 (.t 3)), ⟨none, none, .st 4 (.t 10) (.t 9)⟩]) (.seq (.reg [o 11 (.fa 5 (.t 1)), o 12 (.ld 1 false (.t 11)), o 13 (.fa 5 (.t 3)), ⟨none, none, .st 1 (.t 13) (.t 12)⟩]) (.seq (.reg [o 14 (.ld 6 true (.t 3)), ⟨none, none, .st 6 (.t 2) (.t 14)⟩]) (.ret))))))⟩
def K_laws_toLine : Keeps := []
theorem r_laws_toLine : resolveF Tryd.prog Tryd.f61 K_laws_toLine = some F_laws_toLine := by kernel_rfl
def X_laws_toLine : Ctx := Ctx.cons 8 G_laws_toIns (fun _ => none)
theorem co_laws_toLine : CtxOk Tryd.prog X_laws_toLine := CtxOk.cons (CtxOk.nil) ok_laws_toIns
theorem cx_laws_toLine : (CX X_laws_toLine 8 G_laws_toIns false) := cxI rfl rfl
def S_laws_toLine : ByV := ⟨none, false, semF X_laws_toLine F_laws_toLine none false⟩
def G_laws_toLine : CK := .byv S_laws_toLine
theorem sg_laws_toLine (args : List AV) : S_laws_toLine.sem args = semF X_laws_toLine F_laws_toLine none false args := rfl
theorem cl_laws_toLine (args hp) : callS G_laws_toLine args hp = byvS S_laws_toLine args hp := callS_byv rfl rfl args hp
theorem ok_laws_toLine : InlOk Tryd.prog 61 (callS G_laws_toLine) := byv_none co_laws_toLine Tryd.func61 r_laws_toLine rfl (fun _ _ h => h)
def B0_laws_toLineS : RC :=
  .seq (.seq (.reg [o 8 (.mv (.t 4)), o 9 (.mv (.t 0)), o 10 (.len false (.t 9)), o 11 (.bin .lss (.t 8) (.t 10))]) (.cond (.t 11) (.skip) (.exit 0))) (.seq (.block 1 (.reg [o 14 (.mv (.t 3)), o 15 (.mv (.t 4)), o 16 (.mv (.t 0)), o 17 (.mv (.t 4)), o 18 (.ia 6 (.t 16) (.t 17)), o 19 (.ld 6 true (.t 18)), o 20 (.call 61 [(.t 19)]), o 21 (.ia 6 (.t 14) (.t 15)), ⟨none, none, .st 6 (.t 21) (.t 20)⟩])) (.reg [o 12 (.mv (.t 4)), o 13 (.bin .add (.t 12) (.c (.int .i64 1))), o 4 (.mv (.t 13))]))
def F_laws_toLineS : RF := ⟨23, 1, [.t 2],
  .seq (.reg [o 2 (.mv (.c (.nil 6)))]) (.seq (.reg [o 5 (.mv (.t 0)), o 6 (.len false (.t 5)), o 7 (.mk 6 [(.str ⟨#[]⟩), (.int .i64 0), (.int .i64 0), (.int .i64 0), (.int .i64 0), (.str ⟨#[]⟩)] 64 (.t 6) (.t 6)), o 3 (.mv (.t 7))]) (.seq (.seq (.reg [o 4 (.mv (.c (.int .i64 0)))]) (.block 0 (.loop [0, 3, 4] [(1, [3])] B0_laws_toLineS))) (.seq (.reg [o 22 (.mv (.t 3)), o 2 (.mv (.t 22))]) (.ret))))⟩
def K_laws_toLineS : Keeps := [([0, 3, 4], [(1, [3])])]
theorem r_laws_toLineS : resolveF Tryd.prog Tryd.f39 K_laws_toLineS = some F_laws_toLineS := by kernel_rfl
def X_laws_toLineS : Ctx := Ctx.cons 61 G_laws_toLine (fun _ => none)
theorem co_laws_toLineS : CtxOk Tryd.prog X_laws_toLineS := CtxOk.cons (CtxOk.nil) ok_laws_toLine
theorem cx_laws_toLineS : (CX X_laws_toLineS 61 G_laws_toLine false) := cxI rfl rfl
def S_laws_toLineS : ByV := ⟨none, false, semF X_laws_toLineS F_laws_toLineS none false⟩
def G_laws_toLineS : CK := .byv S_laws_toLineS
theorem sg_laws_toLineS (args : List AV) : S_laws_toLineS.sem args = semF X_laws_toLineS F_laws_toLineS none false args := rfl
theorem cl_laws_toLineS (args hp) : callS G_laws_toLineS args hp = byvS S_laws_toLineS args hp := callS_byv rfl rfl args hp
theorem ok_laws_toLineS : InlOk Tryd.prog 39 (callS G_laws_toLineS) := byv_none co_laws_toLineS Tryd.func39 r_laws_toLineS rfl (fun _ _ h => h)
def F_laws_toGen : RF := ⟨15, 1, [.cell 2 3 true],
  .seq (.reg [o 1 (.box (.t 0)), o 2 (.new [(.nil 6), (.int .i64 0), (.bool false)])]) (.seq (.reg [o 3 (.new [(.nil 6), (.int .i64 0), (.bool false)])]) (.seq (.reg [o 4 (.fa 0 (.t 1)), o 5 (.ld 1 false (.t 4)), o 6 (.call 39 [(.t 5)]), o 7 (.fa 0 (.t 3)), ⟨none, none, .st 1 (.t 7) (.t 6)⟩]) (.seq (.reg [o 8 (.fa 1 (.t 1)), o 9 (.ld 1 false (.t 8)), o 10 (.fa 1 (.t 3)), ⟨none, none, .st 1 (.t 10) (.t 9)⟩]) (.seq (.reg [o 11 (.fa 2 (.t 1)), o 12 (.ld 1 false (.t 11)), o 13 (.fa 2 (.t 3)), ⟨none, none, .st 1 (.t 13) (.t 12)⟩]) (.seq (.reg [o 14 (.ld 3 true (.t 3)), ⟨none, none, .st 3 (.t 2) (.t 14)⟩]) (.ret))))))⟩
def K_laws_toGen : Keeps := []
theorem r_laws_toGen : resolveF Tryd.prog Tryd.f17 K_laws_toGen = some F_laws_toGen := by kernel_rfl
def X_laws_toGen : Ctx := Ctx.cons 39 G_laws_toLineS (fun _ => none)
theorem co_laws_toGen : CtxOk Tryd.prog X_laws_toGen := CtxOk.cons (CtxOk.nil) ok_laws_toLineS
theorem cx_laws_toGen : (CX X_laws_toGen 39 G_laws_toLineS false) := cxI rfl rfl
def S_laws_toGen : ByV := ⟨none, false, semF X_laws_toGen F_laws_toGen none false⟩
def G_laws_toGen : CK := .byv S_laws_toGen
theorem sg_laws_toGen (args : List AV) : S_laws_toGen.sem args = semF X_laws_toGen F_laws_toGen none false args := rfl
theorem cl_laws_toGen (args hp) : callS G_laws_toGen args hp = byvS S_laws_toGen args hp := callS_byv rfl rfl args hp
theorem ok_laws_toGen : InlOk Tryd.prog 17 (callS G_laws_toGen) := byv_none co_laws_toGen Tryd.func17 r_laws_toGen rfl (fun _ _ h => h)
def F_spec_l18Copy : RF := ⟨12, 1, [.cell 2 3 true],
  .seq (.reg [o 1 (.box (.t 0)), o 2 (.new [(.nil 6), (.int .i64 0), (.bool false)])]) (.seq (.regd [(2, o 3 (.bsl 6 [])), (0, o 4 (.fa 0 (.t 1))), (2, o 5 (.ld 1 false (.t 4))), (2, o 6 (.app true 6 64 (.t 3) (.t 5))), (0, o 7 (.fa 1 (.t 1))), (2, o 8 (.ld 1 false (.t 7))), (0, o 9 (.fa 2 (.t 1))), (2, o 10 (.ld 1 false (.t 9))), (0, o 11 (.build [(.nil 6), (.int .i64 0), (.bool false)] [(0, 1, (.t 6)), (1, 1, (.t 8)), (2, 1, (.t 10))])), (1, ⟨none, none, .st 3 (.t 2) (.t 11)⟩)] [(0, 2), (0, 5), (3, 5), (0, 7), (3, 7)]) (.ret))⟩
def K_spec_l18Copy : Keeps := []
theorem r_spec_l18Copy : resolveF Tryd.prog Tryd.f37 K_spec_l18Copy = some F_spec_l18Copy := by kernel_rfl
def X_spec_l18Copy : Ctx := fun _ => none
theorem co_spec_l18Copy : CtxOk Tryd.prog X_spec_l18Copy := CtxOk.nil
theorem cx_spec_l18Copy : True := trivial
def S_spec_l18Copy : ByV := ⟨none, false, semF X_spec_l18Copy F_spec_l18Copy none false⟩
def G_spec_l18Copy : CK := .byv S_spec_l18Copy
theorem sg_spec_l18Copy (args : List AV) : S_spec_l18Copy.sem args = semF X_spec_l18Copy F_spec_l18Copy none false args := rfl
theorem cl_spec_l18Copy (args hp) : callS G_spec_l18Copy args hp = byvS S_spec_l18Copy args hp := callS_byv rfl rfl args hp
theorem ok_spec_l18Copy : InlOk Tryd.prog 37 (callS G_spec_l18Copy) := byv_none co_spec_l18Copy Tryd.func37 r_spec_l18Copy rfl (fun _ _ h => h)
def F_spec_l01Figure : RF := ⟨12, 1, [.t 2],
  .seq (.reg [o 2 (.mv (.c (.int .u8 0)))]) (.seq (.seq (.reg [o 3 (.mv (.t 0)), o 4 (.bin .lss (.t 3) (.c (.int .i64 10)))]) (.cond (.t 4) (.seq (.reg [o 5 (.mv (.t 0)), o 6 (.bin .add (.c (.int .i64 48)) (.t 5)), o 7 (.cvi .u8 (.t 6)), o 2 (.mv (.t 7))]) (.ret)) (.skip))) (.seq (.reg [o 8 (.mv (.t 0)), o 9 (.bin .add (.c (.int .i64 97)) (.t 8)), o 10 (.bin .sub (.t 9) (.c (.int .i64 10))), o 11 (.cvi .u8 (.t 10)), o 2 (.mv (.t 11))]) (.ret)))⟩
def K_spec_l01Figure : Keeps := []
theorem r_spec_l01Figure : resolveF Tryd.prog Tryd.f53 K_spec_l01Figure = some F_spec_l01Figure := by kernel_rfl
def X_spec_l01Figure : Ctx := fun _ => none
theorem co_spec_l01Figure : CtxOk Tryd.prog X_spec_l01Figure := CtxOk.nil
theorem cx_spec_l01Figure : True := trivial
def S_spec_l01Figure : ByV := ⟨none, false, semF X_spec_l01Figure F_spec_l01Figure none false⟩
def G_spec_l01Figure : CK := .byv S_spec_l01Figure
theorem sg_spec_l01Figure (args : List AV) : S_spec_l01Figure.sem args = semF X_spec_l01Figure F_spec_l01Figure none false args := rfl
theorem cl_spec_l01Figure (args hp) : callS G_spec_l01Figure args hp = byvS S_spec_l01Figure args hp := callS_byv rfl rfl args hp
theorem ok_spec_l01Figure : InlOk Tryd.prog 53 (callS G_spec_l01Figure) := byv_none co_spec_l01Figure Tryd.func53 r_spec_l01Figure rfl (fun _ _ h => h)
def B0_spec_Decimal : RC :=
  .seq (.seq (.reg [o 10 (.mv (.t 0)), o 11 (.bin .neq (.t 10) (.c (.int .i64 0)))]) (.cond (.t 11) (.skip) (.exit 0))) (.block 1 (.seq (.reg [o 12 (.mv (.t 0)), o 13 (.bin .rem (.t 12) (.c (.int .i64 10))), o 5 (.mv (.t 13))]) (.seq (.seq (.reg [o 14 (.mv (.t 5)), o 15 (.bin .lss (.t 14) (.c (.int .i64 0)))]) (.cond (.t 15) (.reg [o 16 (.mv (.t 5)), o 17 (.un .neg (.t 16)), o 5 (.mv (.t 17))]) (.skip))) (.seq (.reg [o 18 (.mv (.t 5)), o 19 (.call 53 [(.t 18)]), o 20 (.bsl 1 [(.t 19)]), o 21 (.b2s (.t 20)), o 22 (.mv (.t 4)), o 23 (.bin .add (.t 21) (.t 22)), o 4 (.mv (.t 23))]) (.reg [o 24 (.mv (.t 0)), o 25 (.bin .quo (.t 24) (.c (.int .i64 10))), o 0 (.mv (.t 25))])))))
def F_spec_Decimal : RF := ⟨30, 1, [.t 2],
  .seq (.reg [o 2 (.mv (.c (.str ⟨#[]⟩)))]) (.seq (.seq (.reg [o 6 (.mv (.t 0)), o 7 (.bin .eql (.t 6) (.c (.int .i64 0)))]) (.cond (.t 7) (.seq (.reg [o 2 (.mv (.c (.str ⟨#[48]⟩)))]) (.ret)) (.skip))) (.seq (.reg [o 8 (.mv (.t 0)), o 9 (.bin .lss (.t 8) (.c (.int .i64 0))), o 3 (.mv (.t 9))]) (.seq (.reg [o 4 (.mv (.c (.str ⟨#[]⟩)))]) (.seq (.block 0 (.loop [0, 3, 4] [(1, [3, 4])] B0_spec_Decimal)) (.seq (.seq (.reg [o 26 (.mv (.t 3))]) (.cond (.t 26) (.seq (.reg [o 27 (.mv (.t 4)), o 28 (.bin .add (.c (.str ⟨#[45]⟩)) (.t 27)), o 2 (.mv (.t 28))]) (.ret)) (.skip))) (.seq (.reg [o 29 (.mv (.t 4)), o 2 (.mv (.t 29))]) (.ret)))))))⟩
def K_spec_Decimal : Keeps := [([0, 3, 4], [(1, [3, 4])])]
theorem r_spec_Decimal : resolveF Tryd.prog Tryd.f31 K_spec_Decimal = some F_spec_Decimal := by kernel_rfl
def X_spec_Decimal : Ctx := Ctx.cons 53 G_spec_l01Figure (fun _ => none)
theorem co_spec_Decimal : CtxOk Tryd.prog X_spec_Decimal := CtxOk.cons (CtxOk.nil) ok_spec_l01Figure
theorem cx_spec_Decimal : (CX X_spec_Decimal 53 G_spec_l01Figure false) := cxI rfl rfl
def S_spec_Decimal : ByV := ⟨none, false, semF X_spec_Decimal F_spec_Decimal none false⟩
def G_spec_Decimal : CK := .byv S_spec_Decimal
theorem sg_spec_Decimal (args : List AV) : S_spec_Decimal.sem args = semF X_spec_Decimal F_spec_Decimal none false args := rfl
theorem cl_spec_Decimal (args hp) : callS G_spec_Decimal args hp = byvS S_spec_Decimal args hp := callS_byv rfl rfl args hp
theorem ok_spec_Decimal : InlOk Tryd.prog 31 (callS G_spec_Decimal) := byv_none co_spec_Decimal Tryd.func31 r_spec_Decimal rfl (fun _ _ h => h)
def F_spec_l18Label : RF := ⟨20, 1, [.t 2],
  .seq (.reg [o 2 (.mv (.c (.str ⟨#[]⟩)))]) (.seq (.reg [o 4 (.mv (.t 0)), o 5 (.nck (.t 4)), o 6 (.fa 1 (.t 5)), o 7 (.ld 1 false (.t 6)), o 3 (.mv (.t 7))]) (.seq (.reg [o 8 (.mv (.t 0)), o 9 (.nck (.t 8)), o 10 (.fa 1 (.t 9)), o 11 (.ld 1 false (.t 10)), o 12 (.bin .add (.t 11) (.c (.int .i64 1))), o 13 (.nck (.t 8)), o 14 (.fa 1 (.t 13)), ⟨none, none, .st 1 (.t 14) (.t 12)⟩]) (.seq (.seq (.reg [o 15 (.mv (.t 3)), o 16 (.bin .lss (.t 15) (.c (.int .i64 0)))]) (.cond (.t 16) (.reg [o 3 (.mv (.c (.int .i64 0)))]) (.skip))) (.seq (.reg [o 17 (.mv (.t 3)), o 18 (.call 31 [(.t 17)]), o 19 (.bin .add (.c (.str ⟨#[108]⟩)) (.t 18)), o 2 (.mv (.t 19))]) (.ret)))))⟩
def K_spec_l18Label : Keeps := []
theorem r_spec_l18Label : resolveF Tryd.prog Tryd.f56 K_spec_l18Label = some F_spec_l18Label := by kernel_rfl
def X_spec_l18Label : Ctx := Ctx.cons 31 G_spec_Decimal (fun _ => none)
theorem co_spec_l18Label : CtxOk Tryd.prog X_spec_l18Label := CtxOk.cons (CtxOk.nil) ok_spec_Decimal
theorem cx_spec_l18Label : (CX X_spec_l18Label 31 G_spec_Decimal false) := cxI rfl rfl
def G_spec_l18Label : CK := .inl (runF X_spec_l18Label F_spec_l18Label)
theorem cl_spec_l18Label (args hp) : callS G_spec_l18Label args hp = runF X_spec_l18Label F_spec_l18Label args hp := rfl
theorem ok_spec_l18Label : InlOk Tryd.prog 56 (callS G_spec_l18Label) := runF_ok co_spec_l18Label Tryd.func56 r_spec_l18Label
def F_spec_l18Put : RF := ⟨19, 2, [],
  .seq (.reg [o 3 (.box (.t 1))]) (.seq (.reg [o 4 (.mv (.t 0)), o 5 (.nck (.t 4)), o 6 (.fa 2 (.t 5)), o 7 (.ld 1 false (.t 6)), o 8 (.un .not (.t 7))]) (.cond (.t 8) (.regd [(0, o 9 (.mv (.t 0))), (0, o 10 (.mv (.t 0))), (0, o 11 (.nck (.t 10))), (0, o 12 (.fa 0 (.t 11))), (2, o 13 (.ld 1 false (.t 12))), (1, o 14 (.ld 6 true (.t 3))), (2, o 15 (.bsl 6 [(.t 14)])), (1, o 16 (.app true 6 64 (.t 13) (.t 15))), (0, o 17 (.nck (.t 9))), (0, o 18 (.fa 0 (.t 17))), (1, ⟨none, none, .st 1 (.t 18) (.t 16)⟩)] [(4, 6)]) (.skip)))⟩
def K_spec_l18Put : Keeps := []
theorem r_spec_l18Put : resolveF Tryd.prog Tryd.f58 K_spec_l18Put = some F_spec_l18Put := by kernel_rfl
def X_spec_l18Put : Ctx := fun _ => none
theorem co_spec_l18Put : CtxOk Tryd.prog X_spec_l18Put := CtxOk.nil
theorem cx_spec_l18Put : True := trivial
def G_spec_l18Put : CK := .inl (runF X_spec_l18Put F_spec_l18Put)
theorem cl_spec_l18Put (args hp) : callS G_spec_l18Put args hp = runF X_spec_l18Put F_spec_l18Put args hp := rfl
theorem ok_spec_l18Put : InlOk Tryd.prog 58 (callS G_spec_l18Put) := runF_ok co_spec_l18Put Tryd.func58 r_spec_l18Put
def F_spec_l18Place : RF := ⟨8, 2, [],
  .reg [o 4 (.mv (.t 0)), o 5 (.mv (.t 1)), o 6 (.build [(.str ⟨#[]⟩), (.int .i64 0), (.int .i64 0), (.int .i64 0), (.int .i64 0), (.str ⟨#[]⟩)] [(0, 1, (.t 5))]), o 7 (.call 58 [(.t 4), (.t 6)])]⟩
def K_spec_l18Place : Keeps := []
theorem r_spec_l18Place : resolveF Tryd.prog Tryd.f57 K_spec_l18Place = some F_spec_l18Place := by kernel_rfl
def X_spec_l18Place : Ctx := Ctx.cons 58 G_spec_l18Put (fun _ => none)
theorem co_spec_l18Place : CtxOk Tryd.prog X_spec_l18Place := CtxOk.cons (CtxOk.nil) ok_spec_l18Put
theorem cx_spec_l18Place : (CX X_spec_l18Place 58 G_spec_l18Put true) := cxI rfl rfl
def G_spec_l18Place : CK := .inl (runF X_spec_l18Place F_spec_l18Place)
theorem cl_spec_l18Place (args hp) : callS G_spec_l18Place args hp = runF X_spec_l18Place F_spec_l18Place args hp := rfl
theorem ok_spec_l18Place : InlOk Tryd.prog 57 (callS G_spec_l18Place) := runF_ok co_spec_l18Place Tryd.func57 r_spec_l18Place
def F_spec_l17Word : RF := ⟨15, 4, [.cell 8 6 true],
  .seq (.reg [o 8 (.new [(.str ⟨#[]⟩), (.int .i64 0), (.int .i64 0), (.int .i64 0), (.int .i64 0), (.str ⟨#[]⟩)])]) (.seq (.reg [o 9 (.mv (.t 0)), o 10 (.mv (.t 1)), o 11 (.mv (.t 2)), o 12 (.mv (.t 3)), o 13 (.build [(.int .i64 0), (.int .i64 0), (.int .i64 0), (.int .i64 0)] [(0, 1, (.t 9)), (1, 1, (.t 10)), (2, 1, (.t 11)), (3, 1, (.t 12))]), o 14 (.build [(.str ⟨#[]⟩), (.int .i64 0), (.int .i64 0), (.int .i64 0), (.int .i64 0), (.str ⟨#[]⟩)] [(1, 4, (.t 13))]), ⟨none, none, .st 6 (.t 8) (.t 14)⟩]) (.ret))⟩
def K_spec_l17Word : Keeps := []
theorem r_spec_l17Word : resolveF Tryd.prog Tryd.f59 K_spec_l17Word = some F_spec_l17Word := by kernel_rfl
def X_spec_l17Word : Ctx := fun _ => none
theorem co_spec_l17Word : CtxOk Tryd.prog X_spec_l17Word := CtxOk.nil
theorem cx_spec_l17Word : True := trivial
def S_spec_l17Word : ByV := ⟨none, false, semF X_spec_l17Word F_spec_l17Word none false⟩
def G_spec_l17Word : CK := .byv S_spec_l17Word
theorem sg_spec_l17Word (args : List AV) : S_spec_l17Word.sem args = semF X_spec_l17Word F_spec_l17Word none false args := rfl
theorem cl_spec_l17Word (args hp) : callS G_spec_l17Word args hp = byvS S_spec_l17Word args hp := callS_byv rfl rfl args hp
theorem ok_spec_l17Word : InlOk Tryd.prog 59 (callS G_spec_l17Word) := byv_none co_spec_l17Word Tryd.func59 r_spec_l17Word rfl (fun _ _ h => h)
def F_spec_l18To : RF := ⟨15, 4, [],
  .reg [o 8 (.mv (.t 0)), o 9 (.mv (.t 1)), o 10 (.mv (.t 2)), o 11 (.build [(.int .i64 0), (.int .i64 0), (.int .i64 0), (.int .i64 0)] [(0, 1, (.t 9)), (1, 1, (.t 10))]), o 12 (.mv (.t 3)), o 13 (.build [(.str ⟨#[]⟩), (.int .i64 0), (.int .i64 0), (.int .i64 0), (.int .i64 0), (.str ⟨#[]⟩)] [(1, 4, (.t 11)), (5, 1, (.t 12))]), o 14 (.call 58 [(.t 8), (.t 13)])]⟩
def K_spec_l18To : Keeps := []
theorem r_spec_l18To : resolveF Tryd.prog Tryd.f60 K_spec_l18To = some F_spec_l18To := by kernel_rfl
def X_spec_l18To : Ctx := Ctx.cons 58 G_spec_l18Put (fun _ => none)
theorem co_spec_l18To : CtxOk Tryd.prog X_spec_l18To := CtxOk.cons (CtxOk.nil) ok_spec_l18Put
theorem cx_spec_l18To : (CX X_spec_l18To 58 G_spec_l18Put true) := cxI rfl rfl
def G_spec_l18To : CK := .inl (runF X_spec_l18To F_spec_l18To)
theorem cl_spec_l18To (args hp) : callS G_spec_l18To args hp = runF X_spec_l18To F_spec_l18To args hp := rfl
theorem ok_spec_l18To : InlOk Tryd.prog 60 (callS G_spec_l18To) := runF_ok co_spec_l18To Tryd.func60 r_spec_l18To
def F_spec_l18Lock : RF := ⟨23, 1, [],
  .seq (.reg [o 4 (.mv (.t 0)), o 5 (.call 56 [(.t 4)]), o 2 (.mv (.t 5))]) (.seq (.reg [o 6 (.mv (.t 0)), o 7 (.call 56 [(.t 6)]), o 3 (.mv (.t 7))]) (.seq (.reg [o 8 (.mv (.t 0)), o 9 (.mv (.t 2)), o 10 (.call 57 [(.t 8), (.t 9)])]) (.seq (.reg [o 11 (.mv (.t 0)), o 12 (.call 59 [(.c (.int .i64 9)), (.c (.int .i64 7)), (.c (.int .i64 0)), (.c (.int .i64 0))]), o 13 (.call 58 [(.t 11), (.t 12)])]) (.seq (.reg [o 14 (.mv (.t 0)), o 15 (.mv (.t 3)), o 16 (.call 60 [(.t 14), (.c (.int .i64 7)), (.c (.int .i64 7)), (.t 15)])]) (.seq (.reg [o 17 (.mv (.t 0)), o 18 (.mv (.t 2)), o 19 (.call 60 [(.t 17), (.c (.int .i64 8)), (.c (.int .i64 0)), (.t 18)])]) (.reg [o 20 (.mv (.t 0)), o 21 (.mv (.t 3)), o 22 (.call 57 [(.t 20), (.t 21)])]))))))⟩
def K_spec_l18Lock : Keeps := []
theorem r_spec_l18Lock : resolveF Tryd.prog Tryd.f38 K_spec_l18Lock = some F_spec_l18Lock := by kernel_rfl
def X_spec_l18Lock : Ctx := Ctx.cons 56 G_spec_l18Label (Ctx.cons 57 G_spec_l18Place (Ctx.cons 59 G_spec_l17Word (Ctx.cons 58 G_spec_l18Put (Ctx.cons 60 G_spec_l18To (fun _ => none)))))
theorem co_spec_l18Lock : CtxOk Tryd.prog X_spec_l18Lock := CtxOk.cons (CtxOk.cons (CtxOk.cons (CtxOk.cons (CtxOk.cons (CtxOk.nil) ok_spec_l18To) ok_spec_l18Put) ok_spec_l17Word) ok_spec_l18Place) ok_spec_l18Label
theorem cx_spec_l18Lock : (CX X_spec_l18Lock 56 G_spec_l18Label true) ∧ (CX X_spec_l18Lock 57 G_spec_l18Place true) ∧ (CX X_spec_l18Lock 59 G_spec_l17Word false) ∧ (CX X_spec_l18Lock 58 G_spec_l18Put true) ∧ (CX X_spec_l18Lock 60 G_spec_l18To true) := ⟨cxI rfl rfl, cxI rfl rfl, cxI rfl rfl, cxI rfl rfl, cxI rfl rfl⟩
def G_spec_l18Lock : CK := .inl (runF X_spec_l18Lock F_spec_l18Lock)
theorem cl_spec_l18Lock (args hp) : callS G_spec_l18Lock args hp = runF X_spec_l18Lock F_spec_l18Lock args hp := rfl
theorem ok_spec_l18Lock : InlOk Tryd.prog 38 (callS G_spec_l18Lock) := runF_ok co_spec_l18Lock Tryd.func38 r_spec_l18Lock
def F_spec_GenLock : RF := ⟨8, 1, [.cell 2 3 true],
  .seq (.reg [o 1 (.box (.t 0)), o 2 (.new [(.nil 6), (.int .i64 0), (.bool false)])]) (.seq (.reg [o 4 (.ld 3 true (.t 1)), o 5 (.call 37 [(.t 4)]), o 3 (.new [(.nil 6), (.int .i64 0), (.bool false)]), ⟨none, none, .st 3 (.t 3) (.t 5)⟩]) (.seq (.reg [o 6 (.call 38 [(.t 3)])]) (.seq (.reg [o 7 (.ld 3 true (.t 3)), ⟨none, none, .st 3 (.t 2) (.t 7)⟩]) (.ret))))⟩
def K_spec_GenLock : Keeps := []
theorem r_spec_GenLock : resolveF Tryd.prog Tryd.f16 K_spec_GenLock = some F_spec_GenLock := by kernel_rfl
def X_spec_GenLock : Ctx := Ctx.cons 37 G_spec_l18Copy (Ctx.cons 38 G_spec_l18Lock (fun _ => none))
theorem co_spec_GenLock : CtxOk Tryd.prog X_spec_GenLock := CtxOk.cons (CtxOk.cons (CtxOk.nil) ok_spec_l18Lock) ok_spec_l18Copy
theorem cx_spec_GenLock : (CX X_spec_GenLock 37 G_spec_l18Copy false) ∧ (CX X_spec_GenLock 38 G_spec_l18Lock true) := ⟨cxI rfl rfl, cxI rfl rfl⟩
def S_spec_GenLock : ByV := ⟨none, false, semF X_spec_GenLock F_spec_GenLock none false⟩
def G_spec_GenLock : CK := .byv S_spec_GenLock
theorem sg_spec_GenLock (args : List AV) : S_spec_GenLock.sem args = semF X_spec_GenLock F_spec_GenLock none false args := rfl
theorem cl_spec_GenLock (args hp) : callS G_spec_GenLock args hp = byvS S_spec_GenLock args hp := callS_byv rfl rfl args hp
theorem ok_spec_GenLock : InlOk Tryd.prog 16 (callS G_spec_GenLock) := byv_none co_spec_GenLock Tryd.func16 r_spec_GenLock rfl (fun _ _ h => h)
def F_impl_copyGen : RF := ⟨8, 1, [.cell 2 3 true],
  .seq (.reg [o 1 (.box (.t 0)), o 2 (.new [(.nil 6), (.int .i64 0), (.bool false)])]) (.seq (.reg [o 3 (.fa 0 (.t 1)), o 4 (.ld 1 false (.t 3)), o 5 (.app true 6 64 (.c (.nil 6)) (.t 4)), o 6 (.fa 0 (.t 1)), ⟨none, none, .st 1 (.t 6) (.t 5)⟩]) (.seq (.reg [o 7 (.ld 3 true (.t 1)), ⟨none, none, .st 3 (.t 2) (.t 7)⟩]) (.ret)))⟩
def K_impl_copyGen : Keeps := []
theorem r_impl_copyGen : resolveF Tryd.prog Tryd.f40 K_impl_copyGen = some F_impl_copyGen := by kernel_rfl
def X_impl_copyGen : Ctx := fun _ => none
theorem co_impl_copyGen : CtxOk Tryd.prog X_impl_copyGen := CtxOk.nil
theorem cx_impl_copyGen : True := trivial
def S_impl_copyGen : ByV := ⟨none, false, semF X_impl_copyGen F_impl_copyGen none false⟩
def G_impl_copyGen : CK := .byv S_impl_copyGen
theorem sg_impl_copyGen (args : List AV) : S_impl_copyGen.sem args = semF X_impl_copyGen F_impl_copyGen none false args := rfl
theorem cl_impl_copyGen (args hp) : callS G_impl_copyGen args hp = byvS S_impl_copyGen args hp := callS_byv rfl rfl args hp
theorem ok_impl_copyGen : InlOk Tryd.prog 40 (callS G_impl_copyGen) := byv_none co_impl_copyGen Tryd.func40 r_impl_copyGen rfl (fun _ _ h => h)
def G_strconv_Itoa : CK := .inl itoaG
theorem cl_strconv_Itoa (args hp) : callS G_strconv_Itoa args hp = itoaG args hp := rfl
theorem ok_strconv_Itoa : InlOk Tryd.prog 54 (callS G_strconv_Itoa) := inl_itoa ⟨_, Tryd.func54, by kernel_rfl, by kernel_rfl⟩ (fun n w h h0 h1 => Tryd.strconv_Itoa n h0 h1 w (tabI h))
def F_impl_Decimal : RF := ⟨5, 1, [.t 2],
  .seq (.reg [o 2 (.mv (.c (.str ⟨#[]⟩)))]) (.seq (.reg [o 3 (.mv (.t 0)), o 4 (.call 54 [(.t 3)]), o 2 (.mv (.t 4))]) (.ret))⟩
def K_impl_Decimal : Keeps := []
theorem r_impl_Decimal : resolveF Tryd.prog Tryd.f32 K_impl_Decimal = some F_impl_Decimal := by kernel_rfl
def X_impl_Decimal : Ctx := Ctx.cons 54 G_strconv_Itoa (fun _ => none)
theorem co_impl_Decimal : CtxOk Tryd.prog X_impl_Decimal := CtxOk.cons (CtxOk.nil) ok_strconv_Itoa
theorem cx_impl_Decimal : (CX X_impl_Decimal 54 G_strconv_Itoa true) := cxI rfl rfl
def S_impl_Decimal : ByV := ⟨none, false, semF X_impl_Decimal F_impl_Decimal none false⟩
def G_impl_Decimal : CK := .byv S_impl_Decimal
theorem sg_impl_Decimal (args : List AV) : S_impl_Decimal.sem args = semF X_impl_Decimal F_impl_Decimal none false args := rfl
theorem cl_impl_Decimal (args hp) : callS G_impl_Decimal args hp = byvS S_impl_Decimal args hp := callS_byv rfl rfl args hp
theorem ok_impl_Decimal : InlOk Tryd.prog 32 (callS G_impl_Decimal) := byv_none co_impl_Decimal Tryd.func32 r_impl_Decimal rfl (fun _ _ h => h)
def F__impl_Gen_label : RF := ⟨19, 1, [.t 2],
  .seq (.reg [o 2 (.mv (.c (.str ⟨#[]⟩)))]) (.seq (.reg [o 4 (.mv (.t 0)), o 5 (.nck (.t 4)), o 6 (.fa 1 (.t 5)), o 7 (.ld 1 false (.t 6)), o 8 (.mx [(.t 7), (.c (.int .i64 0))]), o 9 (.call 32 [(.t 8)]), o 10 (.bin .add (.c (.str ⟨#[108]⟩)) (.t 9)), o 3 (.mv (.t 10))]) (.seq (.reg [o 11 (.mv (.t 0)), o 12 (.nck (.t 11)), o 13 (.fa 1 (.t 12)), o 14 (.ld 1 false (.t 13)), o 15 (.bin .add (.t 14) (.c (.int .i64 1))), o 16 (.nck (.t 11)), o 17 (.fa 1 (.t 16)), ⟨none, none, .st 1 (.t 17) (.t 15)⟩]) (.seq (.reg [o 18 (.mv (.t 3)), o 2 (.mv (.t 18))]) (.ret))))⟩
def K__impl_Gen_label : Keeps := []
theorem r__impl_Gen_label : resolveF Tryd.prog Tryd.f62 K__impl_Gen_label = some F__impl_Gen_label := by kernel_rfl
def X__impl_Gen_label : Ctx := Ctx.cons 32 G_impl_Decimal (fun _ => none)
theorem co__impl_Gen_label : CtxOk Tryd.prog X__impl_Gen_label := CtxOk.cons (CtxOk.nil) ok_impl_Decimal
theorem cx__impl_Gen_label : (CX X__impl_Gen_label 32 G_impl_Decimal false) := cxI rfl rfl
def G__impl_Gen_label : CK := .inl (runF X__impl_Gen_label F__impl_Gen_label)
theorem cl__impl_Gen_label (args hp) : callS G__impl_Gen_label args hp = runF X__impl_Gen_label F__impl_Gen_label args hp := rfl
theorem ok__impl_Gen_label : InlOk Tryd.prog 62 (callS G__impl_Gen_label) := runF_ok co__impl_Gen_label Tryd.func62 r__impl_Gen_label
def F__impl_Gen_put : RF := ⟨18, 2, [],
  .seq (.reg [o 4 (.mv (.t 0)), o 5 (.nck (.t 4)), o 6 (.fa 2 (.t 5)), o 7 (.ld 1 false (.t 6)), o 8 (.un .not (.t 7))]) (.cond (.t 8) (.reg [o 9 (.mv (.t 0)), o 10 (.mv (.t 0)), o 11 (.nck (.t 10)), o 12 (.fa 0 (.t 11)), o 13 (.ld 1 false (.t 12)), o 14 (.mv (.t 1)), o 15 (.app true 6 64 (.t 13) (.t 14)), o 16 (.nck (.t 9)), o 17 (.fa 0 (.t 16)), ⟨none, none, .st 1 (.t 17) (.t 15)⟩]) (.skip))⟩
def K__impl_Gen_put : Keeps := []
theorem r__impl_Gen_put : resolveF Tryd.prog Tryd.f64 K__impl_Gen_put = some F__impl_Gen_put := by kernel_rfl
def X__impl_Gen_put : Ctx := fun _ => none
theorem co__impl_Gen_put : CtxOk Tryd.prog X__impl_Gen_put := CtxOk.nil
theorem cx__impl_Gen_put : True := trivial
def G__impl_Gen_put : CK := .inl (runF X__impl_Gen_put F__impl_Gen_put)
theorem cl__impl_Gen_put (args hp) : callS G__impl_Gen_put args hp = runF X__impl_Gen_put F__impl_Gen_put args hp := rfl
theorem ok__impl_Gen_put : InlOk Tryd.prog 64 (callS G__impl_Gen_put) := runF_ok co__impl_Gen_put Tryd.func64 r__impl_Gen_put
def F__impl_Gen_here : RF := ⟨9, 2, [],
  .reg [o 4 (.mv (.t 0)), o 5 (.mv (.t 1)), o 6 (.build [(.str ⟨#[]⟩), (.int .i64 0), (.int .i64 0), (.int .i64 0), (.int .i64 0), (.str ⟨#[]⟩)] [(0, 1, (.t 5))]), o 7 (.bsl 6 [(.t 6)]), o 8 (.call 64 [(.t 4), (.t 7)])]⟩
def K__impl_Gen_here : Keeps := []
theorem r__impl_Gen_here : resolveF Tryd.prog Tryd.f63 K__impl_Gen_here = some F__impl_Gen_here := by kernel_rfl
def X__impl_Gen_here : Ctx := Ctx.cons 64 G__impl_Gen_put (fun _ => none)
theorem co__impl_Gen_here : CtxOk Tryd.prog X__impl_Gen_here := CtxOk.cons (CtxOk.nil) ok__impl_Gen_put
theorem cx__impl_Gen_here : (CX X__impl_Gen_here 64 G__impl_Gen_put true) := cxI rfl rfl
def G__impl_Gen_here : CK := .inl (runF X__impl_Gen_here F__impl_Gen_here)
theorem cl__impl_Gen_here (args hp) : callS G__impl_Gen_here args hp = runF X__impl_Gen_here F__impl_Gen_here args hp := rfl
theorem ok__impl_Gen_here : InlOk Tryd.prog 63 (callS G__impl_Gen_here) := runF_ok co__impl_Gen_here Tryd.func63 r__impl_Gen_here
def F_impl_word : RF := ⟨15, 4, [.cell 8 6 true],
  .seq (.reg [o 8 (.new [(.str ⟨#[]⟩), (.int .i64 0), (.int .i64 0), (.int .i64 0), (.int .i64 0), (.str ⟨#[]⟩)])]) (.seq (.reg [o 9 (.mv (.t 0)), o 10 (.mv (.t 1)), o 11 (.mv (.t 2)), o 12 (.mv (.t 3)), o 13 (.build [(.int .i64 0), (.int .i64 0), (.int .i64 0), (.int .i64 0)] [(0, 1, (.t 9)), (1, 1, (.t 10)), (2, 1, (.t 11)), (3, 1, (.t 12))]), o 14 (.build [(.str ⟨#[]⟩), (.int .i64 0), (.int .i64 0), (.int .i64 0), (.int .i64 0), (.str ⟨#[]⟩)] [(1, 4, (.t 13))]), ⟨none, none, .st 6 (.t 8) (.t 14)⟩]) (.ret))⟩
def K_impl_word : Keeps := []
theorem r_impl_word : resolveF Tryd.prog Tryd.f65 K_impl_word = some F_impl_word := by kernel_rfl
def X_impl_word : Ctx := fun _ => none
theorem co_impl_word : CtxOk Tryd.prog X_impl_word := CtxOk.nil
theorem cx_impl_word : True := trivial
def S_impl_word : ByV := ⟨none, false, semF X_impl_word F_impl_word none false⟩
def G_impl_word : CK := .byv S_impl_word
theorem sg_impl_word (args : List AV) : S_impl_word.sem args = semF X_impl_word F_impl_word none false args := rfl
theorem cl_impl_word (args hp) : callS G_impl_word args hp = byvS S_impl_word args hp := callS_byv rfl rfl args hp
theorem ok_impl_word : InlOk Tryd.prog 65 (callS G_impl_word) := byv_none co_impl_word Tryd.func65 r_impl_word rfl (fun _ _ h => h)
def F__impl_Gen_jump : RF := ⟨16, 4, [],
  .reg [o 8 (.mv (.t 0)), o 9 (.mv (.t 1)), o 10 (.mv (.t 2)), o 11 (.build [(.int .i64 0), (.int .i64 0), (.int .i64 0), (.int .i64 0)] [(0, 1, (.t 9)), (1, 1, (.t 10))]), o 12 (.mv (.t 3)), o 13 (.build [(.str ⟨#[]⟩), (.int .i64 0), (.int .i64 0), (.int .i64 0), (.int .i64 0), (.str ⟨#[]⟩)] [(1, 4, (.t 11)), (5, 1, (.t 12))]), o 14 (.bsl 6 [(.t 13)]), o 15 (.call 64 [(.t 8), (.t 14)])]⟩
def K__impl_Gen_jump : Keeps := []
theorem r__impl_Gen_jump : resolveF Tryd.prog Tryd.f66 K__impl_Gen_jump = some F__impl_Gen_jump := by kernel_rfl
def X__impl_Gen_jump : Ctx := Ctx.cons 64 G__impl_Gen_put (fun _ => none)
theorem co__impl_Gen_jump : CtxOk Tryd.prog X__impl_Gen_jump := CtxOk.cons (CtxOk.nil) ok__impl_Gen_put
theorem cx__impl_Gen_jump : (CX X__impl_Gen_jump 64 G__impl_Gen_put true) := cxI rfl rfl
def G__impl_Gen_jump : CK := .inl (runF X__impl_Gen_jump F__impl_Gen_jump)
theorem cl__impl_Gen_jump (args hp) : callS G__impl_Gen_jump args hp = runF X__impl_Gen_jump F__impl_Gen_jump args hp := rfl
theorem ok__impl_Gen_jump : InlOk Tryd.prog 66 (callS G__impl_Gen_jump) := runF_ok co__impl_Gen_jump Tryd.func66 r__impl_Gen_jump
def F__impl_Gen_lock : RF := ⟨24, 1, [],
  .seq (.reg [o 4 (.mv (.t 0)), o 5 (.call 62 [(.t 4)]), o 6 (.mv (.t 0)), o 7 (.call 62 [(.t 6)]), o 2 (.mv (.t 5)), o 3 (.mv (.t 7))]) (.seq (.reg [o 8 (.mv (.t 0)), o 9 (.mv (.t 2)), o 10 (.call 63 [(.t 8), (.t 9)])]) (.seq (.reg [o 11 (.mv (.t 0)), o 12 (.call 65 [(.c (.int .i64 9)), (.c (.int .i64 7)), (.c (.int .i64 0)), (.c (.int .i64 0))]), o 13 (.bsl 6 [(.t 12)]), o 14 (.call 64 [(.t 11), (.t 13)])]) (.seq (.reg [o 15 (.mv (.t 0)), o 16 (.mv (.t 3)), o 17 (.call 66 [(.t 15), (.c (.int .i64 7)), (.c (.int .i64 7)), (.t 16)])]) (.seq (.reg [o 18 (.mv (.t 0)), o 19 (.mv (.t 2)), o 20 (.call 66 [(.t 18), (.c (.int .i64 8)), (.c (.int .i64 0)), (.t 19)])]) (.reg [o 21 (.mv (.t 0)), o 22 (.mv (.t 3)), o 23 (.call 63 [(.t 21), (.t 22)])])))))⟩
def K__impl_Gen_lock : Keeps := []
theorem r__impl_Gen_lock : resolveF Tryd.prog Tryd.f41 K__impl_Gen_lock = some F__impl_Gen_lock := by kernel_rfl
def X__impl_Gen_lock : Ctx := Ctx.cons 62 G__impl_Gen_label (Ctx.cons 63 G__impl_Gen_here (Ctx.cons 65 G_impl_word (Ctx.cons 64 G__impl_Gen_put (Ctx.cons 66 G__impl_Gen_jump (fun _ => none)))))
theorem co__impl_Gen_lock : CtxOk Tryd.prog X__impl_Gen_lock := CtxOk.cons (CtxOk.cons (CtxOk.cons (CtxOk.cons (CtxOk.cons (CtxOk.nil) ok__impl_Gen_jump) ok__impl_Gen_put) ok_impl_word) ok__impl_Gen_here) ok__impl_Gen_label
theorem cx__impl_Gen_lock : (CX X__impl_Gen_lock 62 G__impl_Gen_label true) ∧ (CX X__impl_Gen_lock 63 G__impl_Gen_here true) ∧ (CX X__impl_Gen_lock 65 G_impl_word false) ∧ (CX X__impl_Gen_lock 64 G__impl_Gen_put true) ∧ (CX X__impl_Gen_lock 66 G__impl_Gen_jump true) := ⟨cxI rfl rfl, cxI rfl rfl, cxI rfl rfl, cxI rfl rfl, cxI rfl rfl⟩
def G__impl_Gen_lock : CK := .inl (runF X__impl_Gen_lock F__impl_Gen_lock)
theorem cl__impl_Gen_lock (args hp) : callS G__impl_Gen_lock args hp = runF X__impl_Gen_lock F__impl_Gen_lock args hp := rfl
theorem ok__impl_Gen_lock : InlOk Tryd.prog 41 (callS G__impl_Gen_lock) := runF_ok co__impl_Gen_lock Tryd.func41 r__impl_Gen_lock
def F_impl_GenLock : RF := ⟨8, 1, [.cell 2 3 true],
  .seq (.reg [o 1 (.box (.t 0)), o 2 (.new [(.nil 6), (.int .i64 0), (.bool false)])]) (.seq (.reg [o 4 (.ld 3 true (.t 1)), o 5 (.call 40 [(.t 4)]), o 3 (.new [(.nil 6), (.int .i64 0), (.bool false)]), ⟨none, none, .st 3 (.t 3) (.t 5)⟩]) (.seq (.reg [o 6 (.call 41 [(.t 3)])]) (.seq (.reg [o 7 (.ld 3 true (.t 3)), ⟨none, none, .st 3 (.t 2) (.t 7)⟩]) (.ret))))⟩
def K_impl_GenLock : Keeps := []
theorem r_impl_GenLock : resolveF Tryd.prog Tryd.f18 K_impl_GenLock = some F_impl_GenLock := by kernel_rfl
def X_impl_GenLock : Ctx := Ctx.cons 40 G_impl_copyGen (Ctx.cons 41 G__impl_Gen_lock (fun _ => none))
theorem co_impl_GenLock : CtxOk Tryd.prog X_impl_GenLock := CtxOk.cons (CtxOk.cons (CtxOk.nil) ok__impl_Gen_lock) ok_impl_copyGen
theorem cx_impl_GenLock : (CX X_impl_GenLock 40 G_impl_copyGen false) ∧ (CX X_impl_GenLock 41 G__impl_Gen_lock true) := ⟨cxI rfl rfl, cxI rfl rfl⟩
def S_impl_GenLock : ByV := ⟨none, false, semF X_impl_GenLock F_impl_GenLock none false⟩
def G_impl_GenLock : CK := .byv S_impl_GenLock
theorem sg_impl_GenLock (args : List AV) : S_impl_GenLock.sem args = semF X_impl_GenLock F_impl_GenLock none false args := rfl
theorem cl_impl_GenLock (args hp) : callS G_impl_GenLock args hp = byvS S_impl_GenLock args hp := callS_byv rfl rfl args hp
theorem ok_impl_GenLock : InlOk Tryd.prog 18 (callS G_impl_GenLock) := byv_none co_impl_GenLock Tryd.func18 r_impl_GenLock rfl (fun _ _ h => h)
def F_laws_eqIns : RF := ⟨25, 2, [.t 4],
  .seq (.reg [o 2 (.box (.t 0)), o 3 (.box (.t 1)), o 4 (.mv (.c (.bool false)))]) (.seq (.seq (.reg [o 5 (.fa 0 (.t 2)), o 6 (.ld 1 false (.t 5)), o 7 (.fa 0 (.t 3)), o 8 (.ld 1 false (.t 7)), o 9 (.bin .neq (.t 6) (.t 8))]) (.cond (.t 9) (.seq (.reg [o 4 (.mv (.c (.bool false)))]) (.ret)) (.skip))) (.seq (.seq (.reg [o 10 (.fa 1 (.t 2)), o 11 (.ld 1 false (.t 10)), o 12 (.fa 1 (.t 3)), o 13 (.ld 1 false (.t 12)), o 14 (.bin .neq (.t 11) (.t 13))]) (.cond (.t 14) (.seq (.reg [o 4 (.mv (.c (.bool false)))]) (.ret)) (.skip))) (.seq (.seq (.reg [o 15 (.fa 2 (.t 2)), o 16 (.ld 1 false (.t 15)), o 17 (.fa 2 (.t 3)), o 18 (.ld 1 false (.t 17)), o 19 (.bin .neq (.t 16) (.t 18))]) (.cond (.t 19) (.seq (.reg [o 4 (.mv (.c (.bool false)))]) (.ret)) (.skip))) (.seq (.seq (.reg [o 20 (.fa 3 (.t 2)), o 21 (.ld 1 false (.t 20)), o 22 (.fa 3 (.t 3)), o 23 (.ld 1 false (.t 22)), o 24 (.bin .neq (.t 21) (.t 23))]) (.cond (.t 24) (.seq (.reg [o 4 (.mv (.c (.bool false)))]) (.ret)) (.skip))) (.seq (.reg [o 4 (.mv (.c (.bool true)))]) (.ret))))))⟩
def K_laws_eqIns : Keeps := []
theorem r_laws_eqIns : resolveF Tryd.prog Tryd.f71 K_laws_eqIns = some F_laws_eqIns := by kernel_rfl
def X_laws_eqIns : Ctx := fun _ => none
theorem co_laws_eqIns : CtxOk Tryd.prog X_laws_eqIns := CtxOk.nil
theorem cx_laws_eqIns : True := trivial
def S_laws_eqIns : ByV := ⟨none, false, semF X_laws_eqIns F_laws_eqIns none false⟩
def G_laws_eqIns : CK := .byv S_laws_eqIns
theorem sg_laws_eqIns (args : List AV) : S_laws_eqIns.sem args = semF X_laws_eqIns F_laws_eqIns none false args := rfl
theorem cl_laws_eqIns (args hp) : callS G_laws_eqIns args hp = byvS S_laws_eqIns args hp := callS_byv rfl rfl args hp
theorem ok_laws_eqIns : InlOk Tryd.prog 71 (callS G_laws_eqIns) := byv_none co_laws_eqIns Tryd.func71 r_laws_eqIns rfl (fun _ _ h => h)
def F_laws_eqLine : RF := ⟨21, 2, [.t 4],
  .seq (.reg [o 2 (.box (.t 0)), o 3 (.box (.t 1)), o 4 (.mv (.c (.bool false)))]) (.seq (.seq (.reg [o 5 (.fa 0 (.t 2)), o 6 (.ld 1 false (.t 5)), o 7 (.fa 0 (.t 3)), o 8 (.ld 1 false (.t 7)), o 9 (.bin .neq (.t 6) (.t 8))]) (.cond (.t 9) (.seq (.reg [o 4 (.mv (.c (.bool false)))]) (.ret)) (.skip))) (.seq (.seq (.reg [o 10 (.fa 1 (.t 2)), o 11 (.ld 4 true (.t 10)), o 12 (.fa 1 (.t 3)), o 13 (.ld 4 true (.t 12)), o 14 (.call 71 [(.t 11), (.t 13)]), o 15 (.un .not (.t 14))]) (.cond (.t 15) (.seq (.reg [o 4 (.mv (.c (.bool false)))]) (.ret)) (.skip))) (.seq (.seq (.reg [o 16 (.fa 5 (.t 2)), o 17 (.ld 1 false (.t 16)), o 18 (.fa 5 (.t 3)), o 19 (.ld 1 false (.t 18)), o 20 (.bin .neq (.t 17) (.t 19))]) (.cond (.t 20) (.seq (.reg [o 4 (.mv (.c (.bool false)))]) (.ret)) (.skip))) (.seq (.reg [o 4 (.mv (.c (.bool true)))]) (.ret)))))⟩
def K_laws_eqLine : Keeps := []
theorem r_laws_eqLine : resolveF Tryd.prog Tryd.f67 K_laws_eqLine = some F_laws_eqLine := by kernel_rfl
def X_laws_eqLine : Ctx := Ctx.cons 71 G_laws_eqIns (fun _ => none)
theorem co_laws_eqLine : CtxOk Tryd.prog X_laws_eqLine := CtxOk.cons (CtxOk.nil) ok_laws_eqIns
theorem cx_laws_eqLine : (CX X_laws_eqLine 71 G_laws_eqIns false) := cxI rfl rfl
def S_laws_eqLine : ByV := ⟨none, false, semF X_laws_eqLine F_laws_eqLine none false⟩
def G_laws_eqLine : CK := .byv S_laws_eqLine
theorem sg_laws_eqLine (args : List AV) : S_laws_eqLine.sem args = semF X_laws_eqLine F_laws_eqLine none false args := rfl
theorem cl_laws_eqLine (args hp) : callS G_laws_eqLine args hp = byvS S_laws_eqLine args hp := callS_byv rfl rfl args hp
theorem ok_laws_eqLine : InlOk Tryd.prog 67 (callS G_laws_eqLine) := byv_none co_laws_eqLine Tryd.func67 r_laws_eqLine rfl (fun _ _ h => h)
def B0_laws_eqLineS : RC :=
  .seq (.seq (.reg [o 11 (.mv (.t 5)), o 12 (.mv (.t 0)), o 13 (.len false (.t 12)), o 14 (.bin .lss (.t 11) (.t 13))]) (.cond (.t 14) (.skip) (.exit 0))) (.seq (.block 1 (.seq (.regd [(0, o 17 (.mv (.t 0))), (0, o 18 (.mv (.t 5))), (1, o 19 (.ia 6 (.t 17) (.t 18))), (1, o 20 (.ld 6 true (.t 19))), (0, o 21 (.mv (.t 1))), (0, o 22 (.mv (.t 5))), (1, o 23 (.ia 6 (.t 21) (.t 22))), (1, o 24 (.ld 6 true (.t 23))), (1, o 25 (.call 67 [(.t 20), (.t 24)])), (0, o 26 (.un .not (.t 25)))] []) (.cond (.t 26) (.seq (.reg [o 4 (.mv (.c (.bool false)))]) (.ret)) (.skip)))) (.reg [o 15 (.mv (.t 5)), o 16 (.bin .add (.t 15) (.c (.int .i64 1))), o 5 (.mv (.t 16))]))
def F_laws_eqLineS : RF := ⟨27, 2, [.t 4],
  .seq (.reg [o 4 (.mv (.c (.bool false)))]) (.seq (.seq (.reg [o 6 (.mv (.t 0)), o 7 (.len false (.t 6)), o 8 (.mv (.t 1)), o 9 (.len false (.t 8)), o 10 (.bin .neq (.t 7) (.t 9))]) (.cond (.t 10) (.seq (.reg [o 4 (.mv (.c (.bool false)))]) (.ret)) (.skip))) (.seq (.seq (.reg [o 5 (.mv (.c (.int .i64 0)))]) (.block 0 (.loop [0, 1, 5] [(1, []), (0, [4])] B0_laws_eqLineS))) (.seq (.reg [o 4 (.mv (.c (.bool true)))]) (.ret))))⟩
def K_laws_eqLineS : Keeps := [([0, 1, 5], [(1, []), (0, [4])])]
theorem r_laws_eqLineS : resolveF Tryd.prog Tryd.f42 K_laws_eqLineS = some F_laws_eqLineS := by kernel_rfl
def X_laws_eqLineS : Ctx := Ctx.cons 67 G_laws_eqLine (fun _ => none)
theorem co_laws_eqLineS : CtxOk Tryd.prog X_laws_eqLineS := CtxOk.cons (CtxOk.nil) ok_laws_eqLine
theorem cx_laws_eqLineS : (CX X_laws_eqLineS 67 G_laws_eqLine false) := cxI rfl rfl
def S_laws_eqLineS : ByV := ⟨none, false, semF X_laws_eqLineS F_laws_eqLineS none false⟩
def G_laws_eqLineS : CK := .byv S_laws_eqLineS
theorem sg_laws_eqLineS (args : List AV) : S_laws_eqLineS.sem args = semF X_laws_eqLineS F_laws_eqLineS none false args := rfl
theorem cl_laws_eqLineS (args hp) : callS G_laws_eqLineS args hp = byvS S_laws_eqLineS args hp := callS_byv rfl rfl args hp
theorem ok_laws_eqLineS : InlOk Tryd.prog 42 (callS G_laws_eqLineS) := byv_none co_laws_eqLineS Tryd.func42 r_laws_eqLineS rfl (fun _ _ h => h)
def F_laws_eqGen : RF := ⟨21, 2, [.t 4],
  .seq (.reg [o 2 (.box (.t 0)), o 3 (.box (.t 1)), o 4 (.mv (.c (.bool false)))]) (.seq (.seq (.reg [o 5 (.fa 0 (.t 2)), o 6 (.ld 1 false (.t 5)), o 7 (.fa 0 (.t 3)), o 8 (.ld 1 false (.t 7)), o 9 (.call 42 [(.t 6), (.t 8)]), o 10 (.un .not (.t 9))]) (.cond (.t 10) (.seq (.reg [o 4 (.mv (.c (.bool false)))]) (.ret)) (.skip))) (.seq (.seq (.reg [o 11 (.fa 1 (.t 2)), o 12 (.ld 1 false (.t 11)), o 13 (.fa 1 (.t 3)), o 14 (.ld 1 false (.t 13)), o 15 (.bin .neq (.t 12) (.t 14))]) (.cond (.t 15) (.seq (.reg [o 4 (.mv (.c (.bool false)))]) (.ret)) (.skip))) (.seq (.seq (.reg [o 16 (.fa 2 (.t 2)), o 17 (.ld 1 false (.t 16)), o 18 (.fa 2 (.t 3)), o 19 (.ld 1 false (.t 18)), o 20 (.bib .neq (.t 17) (.t 19))]) (.cond (.t 20) (.seq (.reg [o 4 (.mv (.c (.bool false)))]) (.ret)) (.skip))) (.seq (.reg [o 4 (.mv (.c (.bool true)))]) (.ret)))))⟩
def K_laws_eqGen : Keeps := []
theorem r_laws_eqGen : resolveF Tryd.prog Tryd.f19 K_laws_eqGen = some F_laws_eqGen := by kernel_rfl
def X_laws_eqGen : Ctx := Ctx.cons 42 G_laws_eqLineS (fun _ => none)
theorem co_laws_eqGen : CtxOk Tryd.prog X_laws_eqGen := CtxOk.cons (CtxOk.nil) ok_laws_eqLineS
theorem cx_laws_eqGen : (CX X_laws_eqGen 42 G_laws_eqLineS false) := cxI rfl rfl
def S_laws_eqGen : ByV := ⟨none, false, semF X_laws_eqGen F_laws_eqGen none false⟩
def G_laws_eqGen : CK := .byv S_laws_eqGen
theorem sg_laws_eqGen (args : List AV) : S_laws_eqGen.sem args = semF X_laws_eqGen F_laws_eqGen none false args := rfl
theorem cl_laws_eqGen (args hp) : callS G_laws_eqGen args hp = byvS S_laws_eqGen args hp := callS_byv rfl rfl args hp
theorem ok_laws_eqGen : InlOk Tryd.prog 19 (callS G_laws_eqGen) := byv_none co_laws_eqGen Tryd.func19 r_laws_eqGen rfl (fun _ _ h => h)
def B0_laws_markText : RC :=
  .seq (.seq (.reg [o 6 (.mv (.t 0)), o 7 (.bin .gtr (.t 6) (.c (.int .i64 0)))]) (.cond (.t 7) (.skip) (.exit 0))) (.block 1 (.seq (.reg [o 8 (.mv (.t 0)), o 9 (.bin .rem (.t 8) (.c (.int .i64 10))), o 10 (.bin .add (.c (.int .i64 48)) (.t 9)), o 11 (.cvi .u8 (.t 10)), o 12 (.bsl 1 [(.t 11)]), o 13 (.b2s (.t 12)), o 14 (.mv (.t 3)), o 15 (.bin .add (.t 13) (.t 14)), o 3 (.mv (.t 15))]) (.reg [o 16 (.mv (.t 0)), o 17 (.bin .quo (.t 16) (.c (.int .i64 10))), o 0 (.mv (.t 17))])))
def F_laws_markText : RF := ⟨20, 1, [.t 2],
  .seq (.reg [o 2 (.mv (.c (.str ⟨#[]⟩)))]) (.seq (.seq (.reg [o 4 (.mv (.t 0)), o 5 (.bin .leq (.t 4) (.c (.int .i64 0)))]) (.cond (.t 5) (.seq (.reg [o 2 (.mv (.c (.str ⟨#[109, 48]⟩)))]) (.ret)) (.skip))) (.seq (.reg [o 3 (.mv (.c (.str ⟨#[]⟩)))]) (.seq (.block 0 (.loop [0, 3] [(1, [3])] B0_laws_markText)) (.seq (.reg [o 18 (.mv (.t 3)), o 19 (.bin .add (.c (.str ⟨#[109]⟩)) (.t 18)), o 2 (.mv (.t 19))]) (.ret)))))⟩
def K_laws_markText : Keeps := [([0, 3], [(1, [3])])]
theorem r_laws_markText : resolveF Tryd.prog Tryd.f68 K_laws_markText = some F_laws_markText := by kernel_rfl
def X_laws_markText : Ctx := fun _ => none
theorem co_laws_markText : CtxOk Tryd.prog X_laws_markText := CtxOk.nil
theorem cx_laws_markText : True := trivial
def S_laws_markText : ByV := ⟨none, false, semF X_laws_markText F_laws_markText none false⟩
def G_laws_markText : CK := .byv S_laws_markText
theorem sg_laws_markText (args : List AV) : S_laws_markText.sem args = semF X_laws_markText F_laws_markText none false args := rfl
theorem cl_laws_markText (args hp) : callS G_laws_markText args hp = byvS S_laws_markText args hp := callS_byv rfl rfl args hp
theorem ok_laws_markText : InlOk Tryd.prog 68 (callS G_laws_markText) := byv_none co_laws_markText Tryd.func68 r_laws_markText rfl (fun _ _ h => h)
def B0_laws_markLineS : RC :=
  .seq (.seq (.reg [o 6 (.mv (.t 5)), o 7 (.mv (.t 0)), o 8 (.len false (.t 7)), o 9 (.bin .lss (.t 6) (.t 8))]) (.cond (.t 9) (.skip) (.exit 0))) (.seq (.block 1 (.seq (.reg [o 12 (.mv (.t 0)), o 13 (.mv (.t 5)), o 14 (.mv (.t 1)), o 15 (.call 68 [(.t 14)]), o 16 (.ia 6 (.t 12) (.t 13)), o 17 (.fa 0 (.t 16)), ⟨none, none, .st 1 (.t 17) (.t 15)⟩]) (.seq (.reg [o 18 (.mv (.t 1)), o 19 (.bin .add (.t 18) (.c (.int .i64 1))), o 1 (.mv (.t 19))]) (.seq (.reg [o 20 (.mv (.t 0)), o 21 (.mv (.t 5)), o 22 (.mv (.t 1)), o 23 (.ia 6 (.t 20) (.t 21)), o 24 (.fa 1 (.t 23)), o 25 (.fa 0 (.t 24)), ⟨none, none, .st 1 (.t 25) (.t 22)⟩]) (.seq (.reg [o 26 (.mv (.t 1)), o 27 (.bin .add (.t 26) (.c (.int .i64 1))), o 1 (.mv (.t 27))]) (.seq (.reg [o 28 (.mv (.t 0)), o 29 (.mv (.t 5)), o 30 (.mv (.t 1)), o 31 (.ia 6 (.t 28) (.t 29)), o 32 (.fa 1 (.t 31)), o 33 (.fa 1 (.t 32)), ⟨none, none, .st 1 (.t 33) (.t 30)⟩]) (.seq (.reg [o 34 (.mv (.t 1)), o 35 (.bin .add (.t 34) (.c (.int .i64 1))), o 1 (.mv (.t 35))]) (.seq (.reg [o 36 (.mv (.t 0)), o 37 (.mv (.t 5)), o 38 (.mv (.t 1)), o 39 (.ia 6 (.t 36) (.t 37)), o 40 (.fa 1 (.t 39)), o 41 (.fa 2 (.t 40)), ⟨none, none, .st 1 (.t 41) (.t 38)⟩]) (.seq (.reg [o 42 (.mv (.t 1)), o 43 (.bin .add (.t 42) (.c (.int .i64 1))), o 1 (.mv (.t 43))]) (.seq (.reg [o 44 (.mv (.t 0)), o 45 (.mv (.t 5)), o 46 (.mv (.t 1)), o 47 (.ia 6 (.t 44) (.t 45)), o 48 (.fa 1 (.t 47)), o 49 (.fa 3 (.t 48)), ⟨none, none, .st 1 (.t 49) (.t 46)⟩]) (.seq (.reg [o 50 (.mv (.t 1)), o 51 (.bin .add (.t 50) (.c (.int .i64 1))), o 1 (.mv (.t 51))]) (.seq (.reg [o 52 (.mv (.t 0)), o 53 (.mv (.t 5)), o 54 (.mv (.t 1)), o 55 (.call 68 [(.t 54)]), o 56 (.ia 6 (.t 52) (.t 53)), o 57 (.fa 5 (.t 56)), ⟨none, none, .st 1 (.t 57) (.t 55)⟩]) (.reg [o 58 (.mv (.t 1)), o 59 (.bin .add (.t 58) (.c (.int .i64 1))), o 1 (.mv (.t 59))]))))))))))))) (.reg [o 10 (.mv (.t 5)), o 11 (.bin .add (.t 10) (.c (.int .i64 1))), o 5 (.mv (.t 11))]))
def F_laws_markLineS : RF := ⟨61, 2, [.t 4],
  .seq (.reg [o 4 (.mv (.c (.int .i64 0)))]) (.seq (.seq (.reg [o 5 (.mv (.c (.int .i64 0)))]) (.block 0 (.loop [0, 1, 5] [(1, [1])] B0_laws_markLineS))) (.seq (.reg [o 60 (.mv (.t 1)), o 4 (.mv (.t 60))]) (.ret)))⟩
def K_laws_markLineS : Keeps := [([0, 1, 5], [(1, [1])])]
theorem r_laws_markLineS : resolveF Tryd.prog Tryd.f43 K_laws_markLineS = some F_laws_markLineS := by kernel_rfl
def X_laws_markLineS : Ctx := Ctx.cons 68 G_laws_markText (fun _ => none)
theorem co_laws_markLineS : CtxOk Tryd.prog X_laws_markLineS := CtxOk.cons (CtxOk.nil) ok_laws_markText
theorem cx_laws_markLineS : (CX X_laws_markLineS 68 G_laws_markText false) := cxI rfl rfl
def S_laws_markLineS : ByV := ⟨some 0, false, semF X_laws_markLineS F_laws_markLineS (some 0) false⟩
def G_laws_markLineS : CK := .byv S_laws_markLineS
theorem sg_laws_markLineS (args : List AV) : S_laws_markLineS.sem args = semF X_laws_markLineS F_laws_markLineS (some 0) false args := rfl
theorem cl_laws_markLineS (args hp) : callS G_laws_markLineS args hp = byvM S_laws_markLineS args hp := callS_byvM rfl args hp
theorem ok_laws_markLineS : InlOk Tryd.prog 43 (callS G_laws_markLineS) := byv_mark co_laws_markLineS Tryd.func43 r_laws_markLineS rfl (ro := false) (fun _ _ h => h)
def F_laws_markGen : RF := ⟨10, 2, [.t 4],
  .seq (.reg [o 2 (.box (.t 0)), o 4 (.mv (.c (.int .i64 0)))]) (.seq (.reg [o 5 (.fa 0 (.t 2)), o 6 (.ld 1 false (.t 5)), o 7 (.mv (.t 1)), o 8 (.call 43 [(.t 6), (.t 7)]), o 1 (.mv (.t 8))]) (.seq (.reg [o 9 (.mv (.t 1)), o 4 (.mv (.t 9))]) (.ret)))⟩
def K_laws_markGen : Keeps := []
theorem r_laws_markGen : resolveF Tryd.prog Tryd.f20 K_laws_markGen = some F_laws_markGen := by kernel_rfl
def X_laws_markGen : Ctx := Ctx.cons 43 G_laws_markLineS (fun _ => none)
theorem co_laws_markGen : CtxOk Tryd.prog X_laws_markGen := CtxOk.cons (CtxOk.nil) ok_laws_markLineS
theorem cx_laws_markGen : (CX X_laws_markGen 43 G_laws_markLineS true) := cxI rfl rfl
def G_laws_markGen : CK := .inl (runF X_laws_markGen F_laws_markGen)
theorem cl_laws_markGen (args hp) : callS G_laws_markGen args hp = runF X_laws_markGen F_laws_markGen args hp := rfl
theorem ok_laws_markGen : InlOk Tryd.prog 20 (callS G_laws_markGen) := runF_ok co_laws_markGen Tryd.func20 r_laws_markGen
def B0_laws_heldLineS : RC :=
  .seq (.seq (.reg [o 6 (.mv (.t 5)), o 7 (.mv (.t 0)), o 8 (.len false (.t 7)), o 9 (.bin .lss (.t 6) (.t 8))]) (.cond (.t 9) (.skip) (.exit 0))) (.seq (.block 1 (.seq (.seq (.regd [(0, o 12 (.mv (.t 0))), (0, o 13 (.mv (.t 5))), (2, o 14 (.ia 6 (.t 12) (.t 13))), (0, o 15 (.fa 0 (.t 14))), (2, o 16 (.ld 1 false (.t 15))), (0, o 17 (.mv (.t 1))), (2, o 18 (.call 68 [(.t 17)])), (0, o 19 (.bin .neq (.t 16) (.t 18)))] [(2, 6), (4, 6)]) (.cond (.t 19) (.seq (.reg [o 4 (.mv (.c (.int .i64 (-1))))]) (.ret)) (.skip))) (.seq (.reg [o 20 (.mv (.t 1)), o 21 (.bin .add (.t 20) (.c (.int .i64 1))), o 1 (.mv (.t 21))]) (.seq (.seq (.reg [o 22 (.mv (.t 0)), o 23 (.mv (.t 5)), o 24 (.ia 6 (.t 22) (.t 23)), o 25 (.fa 1 (.t 24)), o 26 (.fa 0 (.t 25)), o 27 (.ld 1 false (.t 26)), o 28 (.mv (.t 1)), o 29 (.bin .neq (.t 27) (.t 28))]) (.cond (.t 29) (.seq (.reg [o 4 (.mv (.c (.int .i64 (-1))))]) (.ret)) (.skip))) (.seq (.reg [o 30 (.mv (.t 1)), o 31 (.bin .add (.t 30) (.c (.int .i64 1))), o 1 (.mv (.t 31))]) (.seq (.seq (.reg [o 32 (.mv (.t 0)), o 33 (.mv (.t 5)), o 34 (.ia 6 (.t 32) (.t 33)), o 35 (.fa 1 (.t 34)), o 36 (.fa 1 (.t 35)), o 37 (.ld 1 false (.t 36)), o 38 (.mv (.t 1)), o 39 (.bin .neq (.t 37) (.t 38))]) (.cond (.t 39) (.seq (.reg [o 4 (.mv (.c (.int .i64 (-1))))]) (.ret)) (.skip))) (.seq (.reg [o 40 (.mv (.t 1)), o 41 (.bin .add (.t 40) (.c (.int .i64 1))), o 1 (.mv (.t 41))]) (.seq (.seq (.reg [o 42 (.mv (.t 0)), o 43 (.mv (.t 5)), o 44 (.ia 6 (.t 42) (.t 43)), o 45 (.fa 1 (.t 44)), o 46 (.fa 2 (.t 45)), o 47 (.ld 1 false (.t 46)), o 48 (.mv (.t 1)), o 49 (.bin .neq (.t 47) (.t 48))]) (.cond (.t 49) (.seq (.reg [o 4 (.mv (.c (.int .i64 (-1))))]) (.ret)) (.skip))) (.seq (.reg [o 50 (.mv (.t 1)), o 51 (.bin .add (.t 50) (.c (.int .i64 1))), o 1 (.mv (.t 51))]) (.seq (.seq (.reg [o 52 (.mv (.t 0)), o 53 (.mv (.t 5)), o 54 (.ia 6 (.t 52) (.t 53)), o 55 (.fa 1 (.t 54)), o 56 (.fa 3 (.t 55)), o 57 (.ld 1 false (.t 56)), o 58 (.mv (.t 1)), o 59 (.bin .neq (.t 57) (.t 58))]) (.cond (.t 59) (.seq (.reg [o 4 (.mv (.c (.int .i64 (-1))))]) (.ret)) (.skip))) (.seq (.reg [o 60 (.mv (.t 1)), o 61 (.bin .add (.t 60) (.c (.int .i64 1))), o 1 (.mv (.t 61))]) (.seq (.seq (.regd [(0, o 62 (.mv (.t 0))), (0, o 63 (.mv (.t 5))), (2, o 64 (.ia 6 (.t 62) (.t 63))), (0, o 65 (.fa 5 (.t 64))), (2, o 66 (.ld 1 false (.t 65))), (0, o 67 (.mv (.t 1))), (2, o 68 (.call 68 [(.t 67)])), (0, o 69 (.bin .neq (.t 66) (.t 68)))] [(2, 6), (4, 6)]) (.cond (.t 69) (.seq (.reg [o 4 (.mv (.c (.int .i64 (-1))))]) (.ret)) (.skip))) (.reg [o 70 (.mv (.t 1)), o 71 (.bin .add (.t 70) (.c (.int .i64 1))), o 1 (.mv (.t 71))]))))))))))))) (.reg [o 10 (.mv (.t 5)), o 11 (.bin .add (.t 10) (.c (.int .i64 1))), o 5 (.mv (.t 11))]))
def F_laws_heldLineS : RF := ⟨73, 2, [.t 4],
  .seq (.reg [o 4 (.mv (.c (.int .i64 0)))]) (.seq (.seq (.reg [o 5 (.mv (.c (.int .i64 0)))]) (.block 0 (.loop [0, 1, 5] [(1, [1]), (0, [4])] B0_laws_heldLineS))) (.seq (.reg [o 72 (.mv (.t 1)), o 4 (.mv (.t 72))]) (.ret)))⟩
def K_laws_heldLineS : Keeps := [([0, 1, 5], [(1, [1]), (0, [4])])]
theorem r_laws_heldLineS : resolveF Tryd.prog Tryd.f44 K_laws_heldLineS = some F_laws_heldLineS := by kernel_rfl
def X_laws_heldLineS : Ctx := Ctx.cons 68 G_laws_markText (fun _ => none)
theorem co_laws_heldLineS : CtxOk Tryd.prog X_laws_heldLineS := CtxOk.cons (CtxOk.nil) ok_laws_markText
theorem cx_laws_heldLineS : (CX X_laws_heldLineS 68 G_laws_markText false) := cxI rfl rfl
def S_laws_heldLineS : ByV := ⟨none, false, semF X_laws_heldLineS F_laws_heldLineS none false⟩
def G_laws_heldLineS : CK := .byv S_laws_heldLineS
theorem sg_laws_heldLineS (args : List AV) : S_laws_heldLineS.sem args = semF X_laws_heldLineS F_laws_heldLineS none false args := rfl
theorem cl_laws_heldLineS (args hp) : callS G_laws_heldLineS args hp = byvS S_laws_heldLineS args hp := callS_byv rfl rfl args hp
theorem ok_laws_heldLineS : InlOk Tryd.prog 44 (callS G_laws_heldLineS) := byv_none co_laws_heldLineS Tryd.func44 r_laws_heldLineS rfl (fun _ _ h => h)
def F_laws_heldGen : RF := ⟨12, 2, [.t 4],
  .seq (.reg [o 2 (.box (.t 0)), o 4 (.mv (.c (.int .i64 0)))]) (.seq (.reg [o 5 (.fa 0 (.t 2)), o 6 (.ld 1 false (.t 5)), o 7 (.mv (.t 1)), o 8 (.call 44 [(.t 6), (.t 7)]), o 1 (.mv (.t 8))]) (.seq (.seq (.reg [o 9 (.mv (.t 1)), o 10 (.bin .lss (.t 9) (.c (.int .i64 0)))]) (.cond (.t 10) (.seq (.reg [o 4 (.mv (.c (.int .i64 (-1))))]) (.ret)) (.skip))) (.seq (.reg [o 11 (.mv (.t 1)), o 4 (.mv (.t 11))]) (.ret))))⟩
def K_laws_heldGen : Keeps := []
theorem r_laws_heldGen : resolveF Tryd.prog Tryd.f21 K_laws_heldGen = some F_laws_heldGen := by kernel_rfl
def X_laws_heldGen : Ctx := Ctx.cons 44 G_laws_heldLineS (fun _ => none)
theorem co_laws_heldGen : CtxOk Tryd.prog X_laws_heldGen := CtxOk.cons (CtxOk.nil) ok_laws_heldLineS
theorem cx_laws_heldGen : (CX X_laws_heldGen 44 G_laws_heldLineS false) := cxI rfl rfl
def S_laws_heldGen : ByV := ⟨none, false, semF X_laws_heldGen F_laws_heldGen none false⟩
def G_laws_heldGen : CK := .byv S_laws_heldGen
theorem sg_laws_heldGen (args : List AV) : S_laws_heldGen.sem args = semF X_laws_heldGen F_laws_heldGen none false args := rfl
theorem cl_laws_heldGen (args hp) : callS G_laws_heldGen args hp = byvS S_laws_heldGen args hp := callS_byv rfl rfl args hp
theorem ok_laws_heldGen : InlOk Tryd.prog 21 (callS G_laws_heldGen) := byv_none co_laws_heldGen Tryd.func21 r_laws_heldGen rfl (fun _ _ h => h)
def F_laws_FnExactGenLock : RF := ⟨69, 1, [.t 2],
  .seq (.reg [o 1 (.box (.t 0)), o 2 (.mv (.c (.bool false)))]) (.seq (.reg [o 3 (.mv (.c (.int .i64 1048576)))]) (.seq (.reg [o 11 (.ld 3 true (.t 1)), o 12 (.mv (.t 3)), o 13 (.call 15 [(.t 11), (.t 12)]), o 3 (.mv (.t 13))]) (.seq (.seq (.reg [o 14 (.mv (.t 3)), o 15 (.bin .lss (.t 14) (.c (.int .i64 0)))]) (.cond (.t 15) (.seq (.reg [o 2 (.mv (.c (.bool true)))]) (.ret)) (.skip))) (.seq (.reg [o 16 (.ld 3 true (.t 1)), o 17 (.call 17 [(.t 16)]), o 18 (.call 16 [(.t 17)]), o 4 (.new [(.nil 6), (.int .i64 0), (.bool false)]), ⟨none, none, .st 3 (.t 4) (.t 18)⟩]) (.seq (.reg [o 19 (.ld 3 true (.t 1)), o 20 (.call 17 [(.t 19)]), o 5 (.new [(.nil 6), (.int .i64 0), (.bool false)]), ⟨none, none, .st 3 (.t 5) (.t 20)⟩]) (.seq (.reg [o 21 (.ld 3 true (.t 5)), o 22 (.call 18 [(.t 21)]), o 6 (.new [(.nil 6), (.int .i64 0), (.bool false)]), ⟨none, none, .st 3 (.t 6) (.t 22)⟩]) (.seq (.seq (.reg [o 23 (.ld 3 true (.t 6)), o 24 (.ld 3 true (.t 4)), o 25 (.call 19 [(.t 23), (.t 24)]), o 26 (.un .not (.t 25))]) (.cond (.t 26) (.seq (.reg [o 2 (.mv (.c (.bool false)))]) (.ret)) (.skip))) (.seq (.seq (.regd [(2, o 27 (.ld 3 true (.t 5))), (1, o 28 (.ld 3 true (.t 1))), (2, o 29 (.call 17 [(.t 28)])), (1, o 30 (.call 19 [(.t 27), (.t 29)])), (0, o 31 (.un .not (.t 30)))] [(0, 2)]) (.cond (.t 31) (.seq (.reg [o 2 (.mv (.c (.bool false)))]) (.ret)) (.skip))) (.seq (.reg [o 7 (.mv (.c (.int .i64 1)))]) (.seq (.reg [o 32 (.ld 3 true (.t 5)), o 33 (.mv (.t 7)), o 34 (.call 20 [(.t 32), (.t 33)]), o 7 (.mv (.t 34))]) (.seq (.seq (.reg [o 35 (.mv (.t 7)), o 36 (.bin .lss (.t 35) (.c (.int .i64 0))), o 37 (.mv (.t 36)), ⟨some 38, some (37, false), .ld 3 true (.t 6)⟩, ⟨some 39, some (37, false), .ld 3 true (.t 4)⟩, ⟨some 40, some (37, false), .call 19 [(.t 38), (.t 39)]⟩, ⟨some 41, some (37, false), .un .not (.t 40)⟩, o 42 (.pick (.t 37) (.c (.bool true)) (.t 41))]) (.cond (.t 42) (.seq (.reg [o 2 (.mv (.c (.bool false)))]) (.ret)) (.skip))) (.seq (.reg [o 8 (.mv (.c (.int .i64 1)))]) (.seq (.reg [o 43 (.ld 3 true (.t 6)), o 44 (.mv (.t 8)), o 45 (.call 20 [(.t 43), (.t 44)]), o 8 (.mv (.t 45))]) (.seq (.reg [o 9 (.mv (.c (.int .i64 1)))]) (.seq (.reg [o 46 (.ld 3 true (.t 6)), o 47 (.mv (.t 9)), o 48 (.call 21 [(.t 46), (.t 47)]), o 9 (.mv (.t 48))]) (.seq (.seq (.reg [o 49 (.mv (.t 9)), o 50 (.bin .lss (.t 49) (.c (.int .i64 0)))]) (.cond (.t 50) (.seq (.reg [o 2 (.mv (.c (.bool false)))]) (.ret)) (.skip))) (.seq (.seq (.reg [o 51 (.mv (.t 9)), o 52 (.mv (.t 8)), o 53 (.bin .neq (.t 51) (.t 52))]) (.cond (.t 53) (.seq (.reg [o 2 (.mv (.c (.bool false)))]) (.ret)) (.skip))) (.seq (.reg [o 54 (.ld 3 true (.t 1)), o 55 (.call 17 [(.t 54)]), o 56 (.call 18 [(.t 55)]), o 10 (.new [(.nil 6), (.int .i64 0), (.bool false)]), ⟨none, none, .st 3 (.t 10) (.t 56)⟩]) (.seq (.seq (.reg [o 57 (.ld 3 true (.t 10)), o 58 (.ld 3 true (.t 4)), o 59 (.call 19 [(.t 57), (.t 58)]), o 60 (.un .not (.t 59))]) (.cond (.t 60) (.seq (.reg [o 2 (.mv (.c (.bool false)))]) (.ret)) (.skip))) (.seq (.reg [o 9 (.mv (.c (.int .i64 1)))]) (.seq (.reg [o 61 (.ld 3 true (.t 6)), o 62 (.mv (.t 9)), o 63 (.call 21 [(.t 61), (.t 62)]), o 9 (.mv (.t 63))]) (.seq (.seq (.reg [o 64 (.mv (.t 9)), o 65 (.bin .lss (.t 64) (.c (.int .i64 0)))]) (.cond (.t 65) (.seq (.reg [o 2 (.mv (.c (.bool false)))]) (.ret)) (.skip))) (.seq (.seq (.reg [o 66 (.mv (.t 9)), o 67 (.mv (.t 8)), o 68 (.bin .neq (.t 66) (.t 67))]) (.cond (.t 68) (.seq (.reg [o 2 (.mv (.c (.bool false)))]) (.ret)) (.skip))) (.seq (.reg [o 2 (.mv (.c (.bool true)))]) (.ret)))))))))))))))))))))))))⟩
def K_laws_FnExactGenLock : Keeps := []
theorem r_laws_FnExactGenLock : resolveF Tryd.prog Tryd.f5 K_laws_FnExactGenLock = some F_laws_FnExactGenLock := by kernel_rfl
def X_laws_FnExactGenLock : Ctx := Ctx.cons 15 G_laws_szGen (Ctx.cons 17 G_laws_toGen (Ctx.cons 16 G_spec_GenLock (Ctx.cons 18 G_impl_GenLock (Ctx.cons 19 G_laws_eqGen (Ctx.cons 20 G_laws_markGen (Ctx.cons 21 G_laws_heldGen (fun _ => none)))))))
theorem co_laws_FnExactGenLock : CtxOk Tryd.prog X_laws_FnExactGenLock := CtxOk.cons (CtxOk.cons (CtxOk.cons (CtxOk.cons (CtxOk.cons (CtxOk.cons (CtxOk.cons (CtxOk.nil) ok_laws_heldGen) ok_laws_markGen) ok_laws_eqGen) ok_impl_GenLock) ok_spec_GenLock) ok_laws_toGen) ok_laws_szGen
theorem cx_laws_FnExactGenLock : (CX X_laws_FnExactGenLock 15 G_laws_szGen false) ∧ (CX X_laws_FnExactGenLock 17 G_laws_toGen false) ∧ (CX X_laws_FnExactGenLock 16 G_spec_GenLock false) ∧ (CX X_laws_FnExactGenLock 18 G_impl_GenLock false) ∧ (CX X_laws_FnExactGenLock 19 G_laws_eqGen false) ∧ (CX X_laws_FnExactGenLock 20 G_laws_markGen true) ∧ (CX X_laws_FnExactGenLock 21 G_laws_heldGen false) := ⟨cxI rfl rfl, cxI rfl rfl, cxI rfl rfl, cxI rfl rfl, cxI rfl rfl, cxI rfl rfl, cxI rfl rfl⟩
end
end Go.Proofs.YtfoapfilmkapjaaDoor.AI
