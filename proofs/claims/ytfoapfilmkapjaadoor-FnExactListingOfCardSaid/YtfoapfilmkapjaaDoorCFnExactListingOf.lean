/- The functions that the law FnExactListingOf reaches, in the reckoner's words. -/
import Derived.Test.YtfoapfilmkapjaaDoorAItoa
import Derived.Test.YtfoapfilmkapjaaDoorChecked
import Derived.ProofKit
import Derived.Test.YtfoapfilmkapjaaDoorShelf
namespace Go.Proofs.YtfoapfilmkapjaaDoor.AI
open Go.Proofs
set_option linter.all false
set_option maxRecDepth 100000
noncomputable section
instance : Tabs := ⟨fun B => Tryd.prog.globalNamed "internal/strconv.uint64pow10" = some B, fun _ x => ∃ e fz, x = .cells (Lib.pow10Tab.map fun z => Value.int .u64 z).toArray e fz⟩
theorem tabI {w : World} (h : ∀ B, Tabs.at_ B → ∃ x, w.heap[B]? = some x ∧ Tabs.ok B x) : Lib.TabIs Tryd.prog w "internal/strconv.uint64pow10" .u64 Lib.pow10Tab := by
  obtain ⟨g, hg⟩ := Option.isSome_iff_exists.1 (show (Tryd.prog.globalNamed "internal/strconv.uint64pow10").isSome = true by kernel_rfl)
  obtain ⟨x, hx, e, fz, rfl⟩ := h g hg
  unfold Lib.TabIs World.var?
  rw [hg]
  simp only [Option.bind_some, hx]
theorem tabO {w : World} (h : Lib.TabIs Tryd.prog w "internal/strconv.uint64pow10" .u64 Lib.pow10Tab) : ∀ B, Tabs.at_ B → ∃ x, w.heap[B]? = some x ∧ Tabs.ok B x := by
  intro B hB
  unfold Lib.TabIs World.var? at h
  rw [show Tryd.prog.globalNamed "internal/strconv.uint64pow10" = some B from hB] at h
  simp only [Option.bind_some] at h
  split at h
  · rename_i cs e fz heq
    simp only [Option.some.injEq] at h
    exact ⟨_, heq, e, fz, by rw [h]⟩
  · cases h
def F_laws_szIntS : RF := ⟨12, 2, [.t 4],
  .seq (.reg [o 4 (.mv (.c (.int .i64 0)))]) (.seq (.reg [o 5 (.mv (.t 1)), o 6 (.mv (.t 0)), o 7 (.len false (.t 6)), o 8 (.bin .sub (.t 5) (.t 7)), o 1 (.mv (.t 8))]) (.seq (.seq (.reg [o 9 (.mv (.t 1)), o 10 (.bin .lss (.t 9) (.c (.int .i64 0)))]) (.cond (.t 10) (.seq (.reg [o 4 (.mv (.c (.int .i64 (-1))))]) (.ret)) (.skip))) (.seq (.reg [o 11 (.mv (.t 1)), o 4 (.mv (.t 11))]) (.ret))))⟩
def K_laws_szIntS : Keeps := []
theorem r_laws_szIntS : resolveF Tryd.prog Tryd.f33 K_laws_szIntS = some F_laws_szIntS := by kernel_rfl
def X_laws_szIntS : Ctx := fun _ => none
theorem co_laws_szIntS : CtxOk Tryd.prog X_laws_szIntS := CtxOk.nil
theorem cx_laws_szIntS : True := trivial
def S_laws_szIntS : ByV := ⟨none, false, semF X_laws_szIntS F_laws_szIntS none false⟩
def G_laws_szIntS : CK := .byv S_laws_szIntS
theorem sg_laws_szIntS (args : List AV) : S_laws_szIntS.sem args = semF X_laws_szIntS F_laws_szIntS none false args := rfl
theorem cl_laws_szIntS (args hp) : callS G_laws_szIntS args hp = byvS S_laws_szIntS args hp := callS_byv rfl rfl args hp
theorem ok_laws_szIntS : InlOk Tryd.prog 33 (callS G_laws_szIntS) := byv_none co_laws_szIntS Tryd.func33 r_laws_szIntS rfl (fun _ _ h => h)
def F_laws_szImage : RF := ⟨18, 2, [.t 4],
  .seq (.reg [o 2 (.box (.t 0)), o 4 (.mv (.c (.int .i64 0)))]) (.seq (.reg [o 5 (.fa 0 (.t 2)), o 6 (.ld 1 false (.t 5)), o 7 (.mv (.t 1)), o 8 (.call 33 [(.t 6), (.t 7)]), o 1 (.mv (.t 8))]) (.seq (.seq (.reg [o 9 (.mv (.t 1)), o 10 (.bin .lss (.t 9) (.c (.int .i64 0)))]) (.cond (.t 10) (.seq (.reg [o 4 (.mv (.c (.int .i64 (-1))))]) (.ret)) (.skip))) (.seq (.reg [o 11 (.fa 1 (.t 2)), o 12 (.ld 1 false (.t 11)), o 13 (.mv (.t 1)), o 14 (.call 33 [(.t 12), (.t 13)]), o 1 (.mv (.t 14))]) (.seq (.seq (.reg [o 15 (.mv (.t 1)), o 16 (.bin .lss (.t 15) (.c (.int .i64 0)))]) (.cond (.t 16) (.seq (.reg [o 4 (.mv (.c (.int .i64 (-1))))]) (.ret)) (.skip))) (.seq (.reg [o 17 (.mv (.t 1)), o 4 (.mv (.t 17))]) (.ret))))))⟩
def K_laws_szImage : Keeps := []
theorem r_laws_szImage : resolveF Tryd.prog Tryd.f10 K_laws_szImage = some F_laws_szImage := by kernel_rfl
def X_laws_szImage : Ctx := Ctx.cons 33 G_laws_szIntS (fun _ => none)
theorem co_laws_szImage : CtxOk Tryd.prog X_laws_szImage := CtxOk.cons (CtxOk.nil) ok_laws_szIntS
theorem cx_laws_szImage : (CX X_laws_szImage 33 G_laws_szIntS false) := cxI rfl rfl
def S_laws_szImage : ByV := ⟨none, false, semF X_laws_szImage F_laws_szImage none false⟩
def G_laws_szImage : CK := .byv S_laws_szImage
theorem sg_laws_szImage (args : List AV) : S_laws_szImage.sem args = semF X_laws_szImage F_laws_szImage none false args := rfl
theorem cl_laws_szImage (args hp) : callS G_laws_szImage args hp = byvS S_laws_szImage args hp := callS_byv rfl rfl args hp
theorem ok_laws_szImage : InlOk Tryd.prog 10 (callS G_laws_szImage) := byv_none co_laws_szImage Tryd.func10 r_laws_szImage rfl (fun _ _ h => h)
def B0_laws_toIntS : RC :=
  .seq (.seq (.reg [o 8 (.mv (.t 4)), o 9 (.mv (.t 0)), o 10 (.len false (.t 9)), o 11 (.bin .lss (.t 8) (.t 10))]) (.cond (.t 11) (.skip) (.exit 0))) (.seq (.block 1 (.reg [o 14 (.mv (.t 3)), o 15 (.mv (.t 4)), o 16 (.mv (.t 0)), o 17 (.mv (.t 4)), o 18 (.ia 1 (.t 16) (.t 17)), o 19 (.ld 1 false (.t 18)), o 20 (.ia 1 (.t 14) (.t 15)), ⟨none, none, .st 1 (.t 20) (.t 19)⟩])) (.reg [o 12 (.mv (.t 4)), o 13 (.bin .add (.t 12) (.c (.int .i64 1))), o 4 (.mv (.t 13))]))
def F_laws_toIntS : RF := ⟨22, 1, [.t 2],
  .seq (.reg [o 2 (.mv (.c (.nil 1)))]) (.seq (.reg [o 5 (.mv (.t 0)), o 6 (.len false (.t 5)), o 7 (.mk 1 [(.int .i64 0)] 8 (.t 6) (.t 6)), o 3 (.mv (.t 7))]) (.seq (.seq (.reg [o 4 (.mv (.c (.int .i64 0)))]) (.block 0 (.loop [0, 3, 4] [(1, [3])] B0_laws_toIntS))) (.seq (.reg [o 21 (.mv (.t 3)), o 2 (.mv (.t 21))]) (.ret))))⟩
def K_laws_toIntS : Keeps := [([0, 3, 4], [(1, [3])])]
theorem r_laws_toIntS : resolveF Tryd.prog Tryd.f34 K_laws_toIntS = some F_laws_toIntS := by kernel_rfl
def X_laws_toIntS : Ctx := fun _ => none
theorem co_laws_toIntS : CtxOk Tryd.prog X_laws_toIntS := CtxOk.nil
theorem cx_laws_toIntS : True := trivial
def S_laws_toIntS : ByV := ⟨none, false, semF X_laws_toIntS F_laws_toIntS none false⟩
def G_laws_toIntS : CK := .byv S_laws_toIntS
theorem sg_laws_toIntS (args : List AV) : S_laws_toIntS.sem args = semF X_laws_toIntS F_laws_toIntS none false args := rfl
theorem cl_laws_toIntS (args hp) : callS G_laws_toIntS args hp = byvS S_laws_toIntS args hp := callS_byv rfl rfl args hp
theorem ok_laws_toIntS : InlOk Tryd.prog 34 (callS G_laws_toIntS) := byv_none co_laws_toIntS Tryd.func34 r_laws_toIntS rfl (fun _ _ h => h)
def F_laws_toImage : RF := ⟨16, 1, [.cell 2 3 true],
  .seq (.reg [o 1 (.box (.t 0)), o 2 (.new [(.nil 1), (.nil 1), (.int .i64 0)])]) (.seq (.reg [o 3 (.new [(.nil 1), (.nil 1), (.int .i64 0)])]) (.seq (.reg [o 4 (.fa 0 (.t 1)), o 5 (.ld 1 false (.t 4)), o 6 (.call 34 [(.t 5)]), o 7 (.fa 0 (.t 3)), ⟨none, none, .st 1 (.t 7) (.t 6)⟩]) (.seq (.reg [o 8 (.fa 1 (.t 1)), o 9 (.ld 1 false (.t 8)), o 10 (.call 34 [(.t 9)]), o 11 (.fa 1 (.t 3)), ⟨none, none, .st 1 (.t 11) (.t 10)⟩]) (.seq (.reg [o 12 (.fa 2 (.t 1)), o 13 (.ld 1 false (.t 12)), o 14 (.fa 2 (.t 3)), ⟨none, none, .st 1 (.t 14) (.t 13)⟩]) (.seq (.reg [o 15 (.ld 3 true (.t 3)), ⟨none, none, .st 3 (.t 2) (.t 15)⟩]) (.ret))))))⟩
def K_laws_toImage : Keeps := []
theorem r_laws_toImage : resolveF Tryd.prog Tryd.f12 K_laws_toImage = some F_laws_toImage := by kernel_rfl
def X_laws_toImage : Ctx := Ctx.cons 34 G_laws_toIntS (fun _ => none)
theorem co_laws_toImage : CtxOk Tryd.prog X_laws_toImage := CtxOk.cons (CtxOk.nil) ok_laws_toIntS
theorem cx_laws_toImage : (CX X_laws_toImage 34 G_laws_toIntS false) := cxI rfl rfl
def S_laws_toImage : ByV := ⟨none, false, semF X_laws_toImage F_laws_toImage none false⟩
def G_laws_toImage : CK := .byv S_laws_toImage
theorem sg_laws_toImage (args : List AV) : S_laws_toImage.sem args = semF X_laws_toImage F_laws_toImage none false args := rfl
theorem cl_laws_toImage (args hp) : callS G_laws_toImage args hp = byvS S_laws_toImage args hp := callS_byv rfl rfl args hp
theorem ok_laws_toImage : InlOk Tryd.prog 12 (callS G_laws_toImage) := byv_none co_laws_toImage Tryd.func12 r_laws_toImage rfl (fun _ _ h => h)
def F_spec_l01In : RF := ⟨15, 3, [.t 6],
  .seq (.reg [o 6 (.mv (.c (.bool false)))]) (.seq (.reg [o 7 (.mv (.t 0)), o 8 (.mv (.t 1)), o 9 (.bin .geq (.t 7) (.t 8)), o 10 (.mv (.t 9)), ⟨some 11, some (10, true), .mv (.t 0)⟩, ⟨some 12, some (10, true), .mv (.t 2)⟩, ⟨some 13, some (10, true), .bin .leq (.t 11) (.t 12)⟩, o 14 (.pick (.t 10) (.t 13) (.c (.bool false))), o 6 (.mv (.t 14))]) (.ret))⟩
def K_spec_l01In : Keeps := []
theorem r_spec_l01In : resolveF Tryd.prog Tryd.f50 K_spec_l01In = some F_spec_l01In := by kernel_rfl
def X_spec_l01In : Ctx := fun _ => none
theorem co_spec_l01In : CtxOk Tryd.prog X_spec_l01In := CtxOk.nil
theorem cx_spec_l01In : True := trivial
def S_spec_l01In : ByV := ⟨none, false, semF X_spec_l01In F_spec_l01In none false⟩
def G_spec_l01In : CK := .byv S_spec_l01In
theorem sg_spec_l01In (args : List AV) : S_spec_l01In.sem args = semF X_spec_l01In F_spec_l01In none false args := rfl
theorem cl_spec_l01In (args hp) : callS G_spec_l01In args hp = byvS S_spec_l01In args hp := callS_byv rfl rfl args hp
theorem ok_spec_l01In : InlOk Tryd.prog 50 (callS G_spec_l01In) := byv_none co_spec_l01In Tryd.func50 r_spec_l01In rfl (fun _ _ h => h)
def F_spec_InsOk : RF := ⟨71, 1, [.t 2],
  .seq (.reg [o 1 (.box (.t 0)), o 2 (.mv (.c (.bool false)))]) (.seq (.seq (.reg [o 3 (.fa 0 (.t 1)), o 4 (.ld 1 false (.t 3)), o 5 (.call 50 [(.t 4), (.c (.int .i64 1)), (.c (.int .i64 10))]), o 6 (.un .not (.t 5)), o 7 (.mv (.t 6)), ⟨some 8, some (7, false), .fa 1 (.t 1)⟩, ⟨some 9, some (7, false), .ld 1 false (.t 8)⟩, ⟨some 10, some (7, false), .call 50 [(.t 9), (.c (.int .i64 0)), (.c (.int .i64 7))]⟩, ⟨some 11, some (7, false), .un .not (.t 10)⟩, o 12 (.pick (.t 7) (.c (.bool true)) (.t 11)), o 13 (.mv (.t 12)), ⟨some 14, some (13, false), .fa 2 (.t 1)⟩, ⟨some 15, some (13, false), .ld 1 false (.t 14)⟩, ⟨some 16, some (13, false), .call 50 [(.t 15), (.c (.int .i64 0)), (.c (.int .i64 7))]⟩, ⟨some 17, some (13, false), .un .not (.t 16)⟩, o 18 (.pick (.t 13) (.c (.bool true)) (.t 17)), o 19 (.mv (.t 18)), ⟨some 20, some (19, false), .fa 3 (.t 1)⟩, ⟨some 21, some (19, false), .ld 1 false (.t 20)⟩, ⟨some 22, some (19, false), .call 50 [(.t 21), (.c (.int .i64 0)), (.c (.int .i64 4194303))]⟩, ⟨some 23, some (19, false), .un .not (.t 22)⟩, o 24 (.pick (.t 19) (.c (.bool true)) (.t 23))]) (.cond (.t 24) (.seq (.reg [o 2 (.mv (.c (.bool false)))]) (.ret)) (.skip))) (.seq (.seq (.reg [o 25 (.fa 0 (.t 1)), o 26 (.ld 1 false (.t 25)), o 27 (.bin .neq (.t 26) (.c (.int .i64 4))), o 28 (.mv (.t 27)), ⟨some 29, some (28, true), .fa 0 (.t 1)⟩, ⟨some 30, some (28, true), .ld 1 false (.t 29)⟩, ⟨some 31, some (28, true), .bin .neq (.t 30) (.c (.int .i64 10))⟩, o 32 (.pick (.t 28) (.t 31) (.c (.bool false))), o 33 (.mv (.t 32)), ⟨some 34, some (33, true), .fa 2 (.t 1)⟩, ⟨some 35, some (33, true), .ld 1 false (.t 34)⟩, ⟨some 36, some (33, true), .bin .neq (.t 35) (.c (.int .i64 0))⟩, o 37 (.pick (.t 33) (.t 36) (.c (.bool false)))]) (.cond (.t 37) (.seq (.reg [o 2 (.mv (.c (.bool false)))]) (.ret)) (.skip))) (.seq (.seq (.reg [o 38 (.fa 0 (.t 1)), o 39 (.ld 1 false (.t 38))]) (.block 0 (.seq (.reg [o 41 (.bin .eql (.t 39) (.c (.int .i64 1))), o 40 (.mv (.t 41))]) (.cond (.t 40) (.seq (.reg [o 42 (.fa 3 (.t 1)), o 43 (.ld 1 false (.t 42)), o 44 (.bin .leq (.t 43) (.c (.int .i64 1000000))), o 2 (.mv (.t 44))]) (.ret)) (.seq (.reg [o 46 (.bin .eql (.t 39) (.c (.int .i64 4))), o 45 (.mv (.t 46))]) (.cond (.t 45) (.seq (.reg [o 47 (.fa 3 (.t 1)), o 48 (.ld 1 false (.t 47)), o 49 (.call 50 [(.t 48), (.c (.int .i64 1)), (.c (.int .i64 9))]), o 2 (.mv (.t 49))]) (.ret)) (.seq (.seq (.reg [o 51 (.bin .eql (.t 39) (.c (.int .i64 5))), o 50 (.mv (.t 51))]) (.cond (.t 50) (.skip) (.reg [o 52 (.bin .eql (.t 39) (.c (.int .i64 6))), o 50 (.mv (.t 52))]))) (.cond (.t 50) (.seq (.reg [o 53 (.fa 3 (.t 1)), o 54 (.ld 1 false (.t 53)), o 55 (.bin .eql (.t 54) (.c (.int .i64 0))), o 2 (.mv (.t 55))]) (.ret)) (.seq (.reg [o 57 (.bin .eql (.t 39) (.c (.int .i64 8))), o 56 (.mv (.t 57))]) (.cond (.t 56) (.seq (.reg [o 58 (.fa 1 (.t 1)), o 59 (.ld 1 false (.t 58)), o 60 (.bin .eql (.t 59) (.c (.int .i64 0))), o 2 (.mv (.t 60))]) (.ret)) (.seq (.reg [o 62 (.bin .eql (.t 39) (.c (.int .i64 10))), o 61 (.mv (.t 62))]) (.cond (.t 61) (.seq (.reg [o 63 (.fa 1 (.t 1)), o 64 (.ld 1 false (.t 63)), o 65 (.call 50 [(.t 64), (.c (.int .i64 1)), (.c (.int .i64 7))]), o 66 (.mv (.t 65)), ⟨some 67, some (66, true), .fa 2 (.t 1)⟩, ⟨some 68, some (66, true), .ld 1 false (.t 67)⟩, ⟨some 69, some (66, true), .bin .eql (.t 68) (.c (.int .i64 0))⟩, o 70 (.pick (.t 66) (.t 69) (.c (.bool false))), o 2 (.mv (.t 70))]) (.ret)) (.skip))))))))))))) (.seq (.reg [o 2 (.mv (.c (.bool true)))]) (.ret)))))⟩
def K_spec_InsOk : Keeps := []
theorem r_spec_InsOk : resolveF Tryd.prog Tryd.f29 K_spec_InsOk = some F_spec_InsOk := by kernel_rfl
def X_spec_InsOk : Ctx := Ctx.cons 50 G_spec_l01In (fun _ => none)
theorem co_spec_InsOk : CtxOk Tryd.prog X_spec_InsOk := CtxOk.cons (CtxOk.nil) ok_spec_l01In
theorem cx_spec_InsOk : (CX X_spec_InsOk 50 G_spec_l01In false) := cxI rfl rfl
def S_spec_InsOk : ByV := ⟨none, false, semF X_spec_InsOk F_spec_InsOk none false⟩
def G_spec_InsOk : CK := .byv S_spec_InsOk
theorem sg_spec_InsOk (args : List AV) : S_spec_InsOk.sem args = semF X_spec_InsOk F_spec_InsOk none false args := rfl
theorem cl_spec_InsOk (args hp) : callS G_spec_InsOk args hp = byvS S_spec_InsOk args hp := callS_byv rfl rfl args hp
theorem ok_spec_InsOk : InlOk Tryd.prog 29 (callS G_spec_InsOk) := byv_none co_spec_InsOk Tryd.func29 r_spec_InsOk rfl (fun _ _ h => h)
def F_spec_Decode : RF := ⟨25, 1, [.cell 2 4 true, .t 3],
  .seq (.reg [o 2 (.new [(.int .i64 0), (.int .i64 0), (.int .i64 0), (.int .i64 0)]), o 3 (.mv (.c (.bool false)))]) (.seq (.seq (.reg [o 5 (.mv (.t 0)), o 6 (.call 50 [(.t 5), (.c (.int .i64 0)), (.c (.int .i64 8589934592))]), o 7 (.un .not (.t 6))]) (.cond (.t 7) (.seq (.reg [o 8 (.build [(.int .i64 0), (.int .i64 0), (.int .i64 0), (.int .i64 0)] []), ⟨none, none, .st 4 (.t 2) (.t 8)⟩, o 3 (.mv (.c (.bool false)))]) (.ret)) (.skip))) (.seq (.reg [o 9 (.mv (.t 0)), o 10 (.bin .shr (.t 9) (.c (.int .u64 28))), o 11 (.mv (.t 0)), o 12 (.bin .shr (.t 11) (.c (.int .u64 25))), o 13 (.bin .and (.t 12) (.c (.int .i64 7))), o 14 (.mv (.t 0)), o 15 (.bin .shr (.t 14) (.c (.int .u64 22))), o 16 (.bin .and (.t 15) (.c (.int .i64 7))), o 17 (.mv (.t 0)), o 18 (.bin .and (.t 17) (.c (.int .i64 4194303))), o 19 (.build [(.int .i64 0), (.int .i64 0), (.int .i64 0), (.int .i64 0)] [(0, 1, (.t 10)), (1, 1, (.t 13)), (2, 1, (.t 16)), (3, 1, (.t 18))]), o 4 (.new [(.int .i64 0), (.int .i64 0), (.int .i64 0), (.int .i64 0)]), ⟨none, none, .st 4 (.t 4) (.t 19)⟩]) (.seq (.seq (.reg [o 20 (.ld 4 true (.t 4)), o 21 (.call 29 [(.t 20)]), o 22 (.un .not (.t 21))]) (.cond (.t 22) (.seq (.reg [o 23 (.build [(.int .i64 0), (.int .i64 0), (.int .i64 0), (.int .i64 0)] []), ⟨none, none, .st 4 (.t 2) (.t 23)⟩, o 3 (.mv (.c (.bool false)))]) (.ret)) (.skip))) (.seq (.reg [o 24 (.ld 4 true (.t 4)), ⟨none, none, .st 4 (.t 2) (.t 24)⟩, o 3 (.mv (.c (.bool true)))]) (.ret)))))⟩
def K_spec_Decode : Keeps := []
theorem r_spec_Decode : resolveF Tryd.prog Tryd.f27 K_spec_Decode = some F_spec_Decode := by kernel_rfl
def X_spec_Decode : Ctx := Ctx.cons 50 G_spec_l01In (Ctx.cons 29 G_spec_InsOk (fun _ => none))
theorem co_spec_Decode : CtxOk Tryd.prog X_spec_Decode := CtxOk.cons (CtxOk.cons (CtxOk.nil) ok_spec_InsOk) ok_spec_l01In
theorem cx_spec_Decode : (CX X_spec_Decode 50 G_spec_l01In false) ∧ (CX X_spec_Decode 29 G_spec_InsOk false) := ⟨cxI rfl rfl, cxI rfl rfl⟩
def S_spec_Decode : ByV := ⟨none, false, semF X_spec_Decode F_spec_Decode none false⟩
def G_spec_Decode : CK := .byv S_spec_Decode
theorem sg_spec_Decode (args : List AV) : S_spec_Decode.sem args = semF X_spec_Decode F_spec_Decode none false args := rfl
theorem cl_spec_Decode (args hp) : callS G_spec_Decode args hp = byvS S_spec_Decode args hp := callS_byv rfl rfl args hp
theorem ok_spec_Decode : InlOk Tryd.prog 27 (callS G_spec_Decode) := byv_none co_spec_Decode Tryd.func27 r_spec_Decode rfl (fun _ _ h => h)
def F_spec_l01Figure : RF := ⟨12, 1, [.t 2],
  .seq (.reg [o 2 (.mv (.c (.int .u8 0)))]) (.seq (.seq (.reg [o 3 (.mv (.t 0)), o 4 (.bin .lss (.t 3) (.c (.int .i64 10)))]) (.cond (.t 4) (.seq (.reg [o 5 (.mv (.t 0)), o 6 (.bin .add (.c (.int .i64 48)) (.t 5)), o 7 (.cvi .u8 (.t 6)), o 2 (.mv (.t 7))]) (.ret)) (.skip))) (.seq (.reg [o 8 (.mv (.t 0)), o 9 (.bin .add (.c (.int .i64 97)) (.t 8)), o 10 (.bin .sub (.t 9) (.c (.int .i64 10))), o 11 (.cvi .u8 (.t 10)), o 2 (.mv (.t 11))]) (.ret)))⟩
def K_spec_l01Figure : Keeps := []
theorem r_spec_l01Figure : resolveF Tryd.prog Tryd.f53 K_spec_l01Figure = some F_spec_l01Figure := by kernel_rfl
def X_spec_l01Figure : Ctx := fun _ => none
theorem co_spec_l01Figure : CtxOk Tryd.prog X_spec_l01Figure := CtxOk.nil
theorem cx_spec_l01Figure : True := trivial
def S_spec_l01Figure : ByV := ⟨none, false, semF X_spec_l01Figure F_spec_l01Figure none false⟩
def G_spec_l01Figure : CK := .byv S_spec_l01Figure
theorem sg_spec_l01Figure (args : List AV) : S_spec_l01Figure.sem args = semF X_spec_l01Figure F_spec_l01Figure none false args := rfl
theorem cl_spec_l01Figure (args hp) : callS G_spec_l01Figure args hp = byvS S_spec_l01Figure args hp := callS_byv rfl rfl args hp
theorem ok_spec_l01Figure : InlOk Tryd.prog 53 (callS G_spec_l01Figure) := byv_none co_spec_l01Figure Tryd.func53 r_spec_l01Figure rfl (fun _ _ h => h)
def B0_spec_Decimal : RC :=
  .seq (.seq (.reg [o 10 (.mv (.t 0)), o 11 (.bin .neq (.t 10) (.c (.int .i64 0)))]) (.cond (.t 11) (.skip) (.exit 0))) (.block 1 (.seq (.reg [o 12 (.mv (.t 0)), o 13 (.bin .rem (.t 12) (.c (.int .i64 10))), o 5 (.mv (.t 13))]) (.seq (.seq (.reg [o 14 (.mv (.t 5)), o 15 (.bin .lss (.t 14) (.c (.int .i64 0)))]) (.cond (.t 15) (.reg [o 16 (.mv (.t 5)), o 17 (.un .neg (.t 16)), o 5 (.mv (.t 17))]) (.skip))) (.seq (.reg [o 18 (.mv (.t 5)), o 19 (.call 53 [(.t 18)]), o 20 (.bsl 1 [(.t 19)]), o 21 (.b2s (.t 20)), o 22 (.mv (.t 4)), o 23 (.bin .add (.t 21) (.t 22)), o 4 (.mv (.t 23))]) (.reg [o 24 (.mv (.t 0)), o 25 (.bin .quo (.t 24) (.c (.int .i64 10))), o 0 (.mv (.t 25))])))))
def F_spec_Decimal : RF := ⟨30, 1, [.t 2],
  .seq (.reg [o 2 (.mv (.c (.str ⟨#[]⟩)))]) (.seq (.seq (.reg [o 6 (.mv (.t 0)), o 7 (.bin .eql (.t 6) (.c (.int .i64 0)))]) (.cond (.t 7) (.seq (.reg [o 2 (.mv (.c (.str ⟨#[48]⟩)))]) (.ret)) (.skip))) (.seq (.reg [o 8 (.mv (.t 0)), o 9 (.bin .lss (.t 8) (.c (.int .i64 0))), o 3 (.mv (.t 9))]) (.seq (.reg [o 4 (.mv (.c (.str ⟨#[]⟩)))]) (.seq (.block 0 (.loop [0, 3, 4] [(1, [3, 4])] B0_spec_Decimal)) (.seq (.seq (.reg [o 26 (.mv (.t 3))]) (.cond (.t 26) (.seq (.reg [o 27 (.mv (.t 4)), o 28 (.bin .add (.c (.str ⟨#[45]⟩)) (.t 27)), o 2 (.mv (.t 28))]) (.ret)) (.skip))) (.seq (.reg [o 29 (.mv (.t 4)), o 2 (.mv (.t 29))]) (.ret)))))))⟩
def K_spec_Decimal : Keeps := [([0, 3, 4], [(1, [3, 4])])]
theorem r_spec_Decimal : resolveF Tryd.prog Tryd.f31 K_spec_Decimal = some F_spec_Decimal := by kernel_rfl
def X_spec_Decimal : Ctx := Ctx.cons 53 G_spec_l01Figure (fun _ => none)
theorem co_spec_Decimal : CtxOk Tryd.prog X_spec_Decimal := CtxOk.cons (CtxOk.nil) ok_spec_l01Figure
theorem cx_spec_Decimal : (CX X_spec_Decimal 53 G_spec_l01Figure false) := cxI rfl rfl
def S_spec_Decimal : ByV := ⟨none, false, semF X_spec_Decimal F_spec_Decimal none false⟩
def G_spec_Decimal : CK := .byv S_spec_Decimal
theorem sg_spec_Decimal (args : List AV) : S_spec_Decimal.sem args = semF X_spec_Decimal F_spec_Decimal none false args := rfl
theorem cl_spec_Decimal (args hp) : callS G_spec_Decimal args hp = byvS S_spec_Decimal args hp := callS_byv rfl rfl args hp
theorem ok_spec_Decimal : InlOk Tryd.prog 31 (callS G_spec_Decimal) := byv_none co_spec_Decimal Tryd.func31 r_spec_Decimal rfl (fun _ _ h => h)
def F_spec_ShowIns : RF := ⟨24, 1, [.t 2],
  .seq (.reg [o 1 (.box (.t 0)), o 2 (.mv (.c (.str ⟨#[]⟩)))]) (.seq (.seq (.reg [o 3 (.ld 4 true (.t 1)), o 4 (.call 29 [(.t 3)]), o 5 (.un .not (.t 4))]) (.cond (.t 5) (.seq (.reg [o 2 (.mv (.c (.str ⟨#[]⟩)))]) (.ret)) (.skip))) (.seq (.regd [(0, o 6 (.fa 0 (.t 1))), (1, o 7 (.ld 1 false (.t 6))), (2, o 8 (.call 31 [(.t 7)])), (0, o 9 (.bin .add (.t 8) (.c (.str ⟨#[32]⟩)))), (0, o 10 (.fa 1 (.t 1))), (2, o 11 (.ld 1 false (.t 10))), (2, o 12 (.call 31 [(.t 11)])), (0, o 13 (.bin .add (.t 9) (.t 12))), (0, o 14 (.bin .add (.t 13) (.c (.str ⟨#[32]⟩)))), (0, o 15 (.fa 2 (.t 1))), (2, o 16 (.ld 1 false (.t 15))), (2, o 17 (.call 31 [(.t 16)])), (0, o 18 (.bin .add (.t 14) (.t 17))), (0, o 19 (.bin .add (.t 18) (.c (.str ⟨#[32]⟩)))), (0, o 20 (.fa 3 (.t 1))), (2, o 21 (.ld 1 false (.t 20))), (1, o 22 (.call 31 [(.t 21)])), (0, o 23 (.bin .add (.t 19) (.t 22))), (0, o 2 (.mv (.t 23)))] [(2, 5), (2, 10), (6, 10), (2, 15), (6, 15), (11, 15)]) (.ret)))⟩
def K_spec_ShowIns : Keeps := []
theorem r_spec_ShowIns : resolveF Tryd.prog Tryd.f7 K_spec_ShowIns = some F_spec_ShowIns := by kernel_rfl
def X_spec_ShowIns : Ctx := Ctx.cons 29 G_spec_InsOk (Ctx.cons 31 G_spec_Decimal (fun _ => none))
theorem co_spec_ShowIns : CtxOk Tryd.prog X_spec_ShowIns := CtxOk.cons (CtxOk.cons (CtxOk.nil) ok_spec_Decimal) ok_spec_InsOk
theorem cx_spec_ShowIns : (CX X_spec_ShowIns 29 G_spec_InsOk false) ∧ (CX X_spec_ShowIns 31 G_spec_Decimal false) := ⟨cxI rfl rfl, cxI rfl rfl⟩
def S_spec_ShowIns : ByV := ⟨none, false, semF X_spec_ShowIns F_spec_ShowIns none false⟩
def G_spec_ShowIns : CK := .byv S_spec_ShowIns
theorem sg_spec_ShowIns (args : List AV) : S_spec_ShowIns.sem args = semF X_spec_ShowIns F_spec_ShowIns none false args := rfl
theorem cl_spec_ShowIns (args hp) : callS G_spec_ShowIns args hp = byvS S_spec_ShowIns args hp := callS_byv rfl rfl args hp
theorem ok_spec_ShowIns : InlOk Tryd.prog 7 (callS G_spec_ShowIns) := byv_none co_spec_ShowIns Tryd.func7 r_spec_ShowIns rfl (fun _ _ h => h)
def B0_spec_ListingOf : RC :=
  .seq (.seq (.reg [o 7 (.mv (.t 4)), o 8 (.fa 0 (.t 1)), o 9 (.ld 1 false (.t 8)), o 10 (.len false (.t 9)), o 11 (.bin .lss (.t 7) (.t 10))]) (.cond (.t 11) (.skip) (.exit 0))) (.seq (.block 1 (.seq (.reg [o 15 (.fa 0 (.t 1)), o 16 (.ld 1 false (.t 15)), o 17 (.mv (.t 4)), o 18 (.ia 1 (.t 16) (.t 17)), o 19 (.ld 1 false (.t 18)), o 20 (.call 27 [(.t 19)]), o 14 (.mv (.t 20)), o 21 (.ex (.t 14) 0), o 22 (.ex (.t 14) 1), o 5 (.new [(.int .i64 0), (.int .i64 0), (.int .i64 0), (.int .i64 0)]), ⟨none, none, .st 4 (.t 5) (.t 21)⟩, o 6 (.mv (.t 22))]) (.seq (.reg [o 23 (.mv (.t 6))]) (.cond (.t 23) (.reg [o 24 (.mv (.t 3)), o 25 (.ld 4 true (.t 5)), o 26 (.call 7 [(.t 25)]), o 27 (.bin .add (.t 24) (.t 26)), o 28 (.bin .add (.t 27) (.c (.str ⟨#[10]⟩))), o 3 (.mv (.t 28))]) (.reg [o 29 (.mv (.t 3)), o 30 (.bin .add (.t 29) (.c (.str ⟨#[63, 10]⟩))), o 3 (.mv (.t 30))]))))) (.reg [o 12 (.mv (.t 4)), o 13 (.bin .add (.t 12) (.c (.int .i64 1))), o 4 (.mv (.t 13))]))
def F_spec_ListingOf : RF := ⟨32, 1, [.t 2],
  .seq (.reg [o 1 (.box (.t 0)), o 2 (.mv (.c (.str ⟨#[]⟩)))]) (.seq (.reg [o 3 (.mv (.c (.str ⟨#[]⟩)))]) (.seq (.seq (.reg [o 4 (.mv (.c (.int .i64 0)))]) (.block 0 (.loop [1, 3, 4] [(1, [3])] B0_spec_ListingOf))) (.seq (.reg [o 31 (.mv (.t 3)), o 2 (.mv (.t 31))]) (.ret))))⟩
def K_spec_ListingOf : Keeps := [([1, 3, 4], [(1, [3])])]
theorem r_spec_ListingOf : resolveF Tryd.prog Tryd.f11 K_spec_ListingOf = some F_spec_ListingOf := by kernel_rfl
def X_spec_ListingOf : Ctx := Ctx.cons 27 G_spec_Decode (Ctx.cons 7 G_spec_ShowIns (fun _ => none))
theorem co_spec_ListingOf : CtxOk Tryd.prog X_spec_ListingOf := CtxOk.cons (CtxOk.cons (CtxOk.nil) ok_spec_ShowIns) ok_spec_Decode
theorem cx_spec_ListingOf : (CX X_spec_ListingOf 27 G_spec_Decode false) ∧ (CX X_spec_ListingOf 7 G_spec_ShowIns false) := ⟨cxI rfl rfl, cxI rfl rfl⟩
def S_spec_ListingOf : ByV := ⟨none, false, semF X_spec_ListingOf F_spec_ListingOf none false⟩
def G_spec_ListingOf : CK := .byv S_spec_ListingOf
theorem sg_spec_ListingOf (args : List AV) : S_spec_ListingOf.sem args = semF X_spec_ListingOf F_spec_ListingOf none false args := rfl
theorem cl_spec_ListingOf (args hp) : callS G_spec_ListingOf args hp = byvS S_spec_ListingOf args hp := callS_byv rfl rfl args hp
theorem ok_spec_ListingOf : InlOk Tryd.prog 11 (callS G_spec_ListingOf) := byv_none co_spec_ListingOf Tryd.func11 r_spec_ListingOf rfl (fun _ _ h => h)
def F_impl_within : RF := ⟨15, 3, [.t 6],
  .seq (.reg [o 6 (.mv (.c (.bool false)))]) (.seq (.reg [o 7 (.mv (.t 0)), o 8 (.mv (.t 1)), o 9 (.bin .geq (.t 7) (.t 8)), o 10 (.mv (.t 9)), ⟨some 11, some (10, true), .mv (.t 0)⟩, ⟨some 12, some (10, true), .mv (.t 2)⟩, ⟨some 13, some (10, true), .bin .leq (.t 11) (.t 12)⟩, o 14 (.pick (.t 10) (.t 13) (.c (.bool false))), o 6 (.mv (.t 14))]) (.ret))⟩
def K_impl_within : Keeps := []
theorem r_impl_within : resolveF Tryd.prog Tryd.f52 K_impl_within = some F_impl_within := by kernel_rfl
def X_impl_within : Ctx := fun _ => none
theorem co_impl_within : CtxOk Tryd.prog X_impl_within := CtxOk.nil
theorem cx_impl_within : True := trivial
def S_impl_within : ByV := ⟨none, false, semF X_impl_within F_impl_within none false⟩
def G_impl_within : CK := .byv S_impl_within
theorem sg_impl_within (args : List AV) : S_impl_within.sem args = semF X_impl_within F_impl_within none false args := rfl
theorem cl_impl_within (args hp) : callS G_impl_within args hp = byvS S_impl_within args hp := callS_byv rfl rfl args hp
theorem ok_impl_within : InlOk Tryd.prog 52 (callS G_impl_within) := byv_none co_impl_within Tryd.func52 r_impl_within rfl (fun _ _ h => h)
def F_impl_InsOk : RF := ⟨63, 1, [.t 2],
  .seq (.reg [o 1 (.box (.t 0)), o 2 (.mv (.c (.bool false)))]) (.seq (.seq (.reg [o 3 (.fa 0 (.t 1)), o 4 (.ld 1 false (.t 3)), o 5 (.call 52 [(.t 4), (.c (.int .i64 1)), (.c (.int .i64 10))]), o 6 (.un .not (.t 5)), o 7 (.mv (.t 6)), ⟨some 8, some (7, false), .fa 1 (.t 1)⟩, ⟨some 9, some (7, false), .ld 1 false (.t 8)⟩, ⟨some 10, some (7, false), .call 52 [(.t 9), (.c (.int .i64 0)), (.c (.int .i64 7))]⟩, ⟨some 11, some (7, false), .un .not (.t 10)⟩, o 12 (.pick (.t 7) (.c (.bool true)) (.t 11)), o 13 (.mv (.t 12)), ⟨some 14, some (13, false), .fa 2 (.t 1)⟩, ⟨some 15, some (13, false), .ld 1 false (.t 14)⟩, ⟨some 16, some (13, false), .call 52 [(.t 15), (.c (.int .i64 0)), (.c (.int .i64 7))]⟩, ⟨some 17, some (13, false), .un .not (.t 16)⟩, o 18 (.pick (.t 13) (.c (.bool true)) (.t 17)), o 19 (.mv (.t 18)), ⟨some 20, some (19, false), .fa 3 (.t 1)⟩, ⟨some 21, some (19, false), .ld 1 false (.t 20)⟩, ⟨some 22, some (19, false), .call 52 [(.t 21), (.c (.int .i64 0)), (.c (.int .i64 4194303))]⟩, ⟨some 23, some (19, false), .un .not (.t 22)⟩, o 24 (.pick (.t 19) (.c (.bool true)) (.t 23)), o 25 (.mv (.t 24)), ⟨some 26, some (25, false), .fa 0 (.t 1)⟩, ⟨some 27, some (25, false), .ld 1 false (.t 26)⟩, ⟨some 28, some (25, false), .bin .neq (.t 27) (.c (.int .i64 4))⟩, ⟨some 29, some (25, false), .mv (.t 28)⟩, ⟨some 30, some (29, true), .fa 2 (.t 1)⟩, ⟨some 31, some (29, true), .ld 1 false (.t 30)⟩, ⟨some 32, some (29, true), .bin .neq (.t 31) (.c (.int .i64 0))⟩, ⟨some 33, some (25, false), .pick (.t 29) (.t 32) (.c (.bool false))⟩, o 34 (.pick (.t 25) (.c (.bool true)) (.t 33))]) (.cond (.t 34) (.seq (.reg [o 2 (.mv (.c (.bool false)))]) (.ret)) (.skip))) (.seq (.seq (.reg [o 35 (.fa 0 (.t 1)), o 36 (.ld 1 false (.t 35))]) (.block 0 (.seq (.reg [o 38 (.bin .eql (.t 36) (.c (.int .i64 1))), o 37 (.mv (.t 38))]) (.cond (.t 37) (.seq (.reg [o 39 (.fa 3 (.t 1)), o 40 (.ld 1 false (.t 39)), o 41 (.bin .leq (.t 40) (.c (.int .i64 1000000))), o 2 (.mv (.t 41))]) (.ret)) (.seq (.reg [o 43 (.bin .eql (.t 36) (.c (.int .i64 4))), o 42 (.mv (.t 43))]) (.cond (.t 42) (.seq (.reg [o 44 (.fa 3 (.t 1)), o 45 (.ld 1 false (.t 44)), o 46 (.call 52 [(.t 45), (.c (.int .i64 1)), (.c (.int .i64 9))]), o 2 (.mv (.t 46))]) (.ret)) (.seq (.seq (.reg [o 48 (.bin .eql (.t 36) (.c (.int .i64 5))), o 47 (.mv (.t 48))]) (.cond (.t 47) (.skip) (.reg [o 49 (.bin .eql (.t 36) (.c (.int .i64 6))), o 47 (.mv (.t 49))]))) (.cond (.t 47) (.seq (.reg [o 50 (.fa 3 (.t 1)), o 51 (.ld 1 false (.t 50)), o 52 (.bin .eql (.t 51) (.c (.int .i64 0))), o 2 (.mv (.t 52))]) (.ret)) (.seq (.reg [o 54 (.bin .eql (.t 36) (.c (.int .i64 8))), o 53 (.mv (.t 54))]) (.cond (.t 53) (.seq (.reg [o 55 (.fa 1 (.t 1)), o 56 (.ld 1 false (.t 55)), o 57 (.bin .eql (.t 56) (.c (.int .i64 0))), o 2 (.mv (.t 57))]) (.ret)) (.seq (.reg [o 59 (.bin .eql (.t 36) (.c (.int .i64 10))), o 58 (.mv (.t 59))]) (.cond (.t 58) (.seq (.reg [o 60 (.fa 1 (.t 1)), o 61 (.ld 1 false (.t 60)), o 62 (.bin .geq (.t 61) (.c (.int .i64 1))), o 2 (.mv (.t 62))]) (.ret)) (.skip))))))))))))) (.seq (.reg [o 2 (.mv (.c (.bool true)))]) (.ret))))⟩
def K_impl_InsOk : Keeps := []
theorem r_impl_InsOk : resolveF Tryd.prog Tryd.f30 K_impl_InsOk = some F_impl_InsOk := by kernel_rfl
def X_impl_InsOk : Ctx := Ctx.cons 52 G_impl_within (fun _ => none)
theorem co_impl_InsOk : CtxOk Tryd.prog X_impl_InsOk := CtxOk.cons (CtxOk.nil) ok_impl_within
theorem cx_impl_InsOk : (CX X_impl_InsOk 52 G_impl_within false) := cxI rfl rfl
def S_impl_InsOk : ByV := ⟨none, false, semF X_impl_InsOk F_impl_InsOk none false⟩
def G_impl_InsOk : CK := .byv S_impl_InsOk
theorem sg_impl_InsOk (args : List AV) : S_impl_InsOk.sem args = semF X_impl_InsOk F_impl_InsOk none false args := rfl
theorem cl_impl_InsOk (args hp) : callS G_impl_InsOk args hp = byvS S_impl_InsOk args hp := callS_byv rfl rfl args hp
theorem ok_impl_InsOk : InlOk Tryd.prog 30 (callS G_impl_InsOk) := byv_none co_impl_InsOk Tryd.func30 r_impl_InsOk rfl (fun _ _ h => h)
def F_impl_Decode : RF := ⟨24, 1, [.cell 2 4 true, .t 3],
  .seq (.reg [o 2 (.new [(.int .i64 0), (.int .i64 0), (.int .i64 0), (.int .i64 0)]), o 3 (.mv (.c (.bool false)))]) (.seq (.seq (.reg [o 5 (.mv (.t 0)), o 6 (.bin .lss (.t 5) (.c (.int .i64 0)))]) (.cond (.t 6) (.seq (.reg [o 7 (.build [(.int .i64 0), (.int .i64 0), (.int .i64 0), (.int .i64 0)] []), ⟨none, none, .st 4 (.t 2) (.t 7)⟩, o 3 (.mv (.c (.bool false)))]) (.ret)) (.skip))) (.seq (.reg [o 8 (.mv (.t 0)), o 9 (.bin .shr (.t 8) (.c (.int .u64 28))), o 10 (.mv (.t 0)), o 11 (.bin .shr (.t 10) (.c (.int .u64 25))), o 12 (.bin .and (.t 11) (.c (.int .i64 7))), o 13 (.mv (.t 0)), o 14 (.bin .shr (.t 13) (.c (.int .u64 22))), o 15 (.bin .and (.t 14) (.c (.int .i64 7))), o 16 (.mv (.t 0)), o 17 (.bin .and (.t 16) (.c (.int .i64 4194303))), o 18 (.build [(.int .i64 0), (.int .i64 0), (.int .i64 0), (.int .i64 0)] [(0, 1, (.t 9)), (1, 1, (.t 12)), (2, 1, (.t 15)), (3, 1, (.t 17))]), o 4 (.new [(.int .i64 0), (.int .i64 0), (.int .i64 0), (.int .i64 0)]), ⟨none, none, .st 4 (.t 4) (.t 18)⟩]) (.seq (.seq (.reg [o 19 (.ld 4 true (.t 4)), o 20 (.call 30 [(.t 19)]), o 21 (.un .not (.t 20))]) (.cond (.t 21) (.seq (.reg [o 22 (.build [(.int .i64 0), (.int .i64 0), (.int .i64 0), (.int .i64 0)] []), ⟨none, none, .st 4 (.t 2) (.t 22)⟩, o 3 (.mv (.c (.bool false)))]) (.ret)) (.skip))) (.seq (.reg [o 23 (.ld 4 true (.t 4)), ⟨none, none, .st 4 (.t 2) (.t 23)⟩, o 3 (.mv (.c (.bool true)))]) (.ret)))))⟩
def K_impl_Decode : Keeps := []
theorem r_impl_Decode : resolveF Tryd.prog Tryd.f25 K_impl_Decode = some F_impl_Decode := by kernel_rfl
def X_impl_Decode : Ctx := Ctx.cons 30 G_impl_InsOk (fun _ => none)
theorem co_impl_Decode : CtxOk Tryd.prog X_impl_Decode := CtxOk.cons (CtxOk.nil) ok_impl_InsOk
theorem cx_impl_Decode : (CX X_impl_Decode 30 G_impl_InsOk false) := cxI rfl rfl
def S_impl_Decode : ByV := ⟨none, false, semF X_impl_Decode F_impl_Decode none false⟩
def G_impl_Decode : CK := .byv S_impl_Decode
theorem sg_impl_Decode (args : List AV) : S_impl_Decode.sem args = semF X_impl_Decode F_impl_Decode none false args := rfl
theorem cl_impl_Decode (args hp) : callS G_impl_Decode args hp = byvS S_impl_Decode args hp := callS_byv rfl rfl args hp
theorem ok_impl_Decode : InlOk Tryd.prog 25 (callS G_impl_Decode) := byv_none co_impl_Decode Tryd.func25 r_impl_Decode rfl (fun _ _ h => h)
def G_strconv_Itoa : CK := .inl itoaG
theorem cl_strconv_Itoa (args hp) : callS G_strconv_Itoa args hp = itoaG args hp := rfl
theorem ok_strconv_Itoa : InlOk Tryd.prog 54 (callS G_strconv_Itoa) := inl_itoa ⟨_, Tryd.func54, by kernel_rfl, by kernel_rfl⟩ (fun n w h h0 h1 => Tryd.strconv_Itoa n h0 h1 w (tabI h))
def F_impl_Decimal : RF := ⟨5, 1, [.t 2],
  .seq (.reg [o 2 (.mv (.c (.str ⟨#[]⟩)))]) (.seq (.reg [o 3 (.mv (.t 0)), o 4 (.call 54 [(.t 3)]), o 2 (.mv (.t 4))]) (.ret))⟩
def K_impl_Decimal : Keeps := []
theorem r_impl_Decimal : resolveF Tryd.prog Tryd.f32 K_impl_Decimal = some F_impl_Decimal := by kernel_rfl
def X_impl_Decimal : Ctx := Ctx.cons 54 G_strconv_Itoa (fun _ => none)
theorem co_impl_Decimal : CtxOk Tryd.prog X_impl_Decimal := CtxOk.cons (CtxOk.nil) ok_strconv_Itoa
theorem cx_impl_Decimal : (CX X_impl_Decimal 54 G_strconv_Itoa true) := cxI rfl rfl
def S_impl_Decimal : ByV := ⟨none, false, semF X_impl_Decimal F_impl_Decimal none false⟩
def G_impl_Decimal : CK := .byv S_impl_Decimal
theorem sg_impl_Decimal (args : List AV) : S_impl_Decimal.sem args = semF X_impl_Decimal F_impl_Decimal none false args := rfl
theorem cl_impl_Decimal (args hp) : callS G_impl_Decimal args hp = byvS S_impl_Decimal args hp := callS_byv rfl rfl args hp
theorem ok_impl_Decimal : InlOk Tryd.prog 32 (callS G_impl_Decimal) := byv_none co_impl_Decimal Tryd.func32 r_impl_Decimal rfl (fun _ _ h => h)
def F_impl_ShowIns : RF := ⟨24, 1, [.t 2],
  .seq (.reg [o 1 (.box (.t 0)), o 2 (.mv (.c (.str ⟨#[]⟩)))]) (.seq (.seq (.reg [o 3 (.ld 4 true (.t 1)), o 4 (.call 30 [(.t 3)]), o 5 (.un .not (.t 4))]) (.cond (.t 5) (.seq (.reg [o 2 (.mv (.c (.str ⟨#[]⟩)))]) (.ret)) (.skip))) (.seq (.regd [(0, o 6 (.fa 0 (.t 1))), (1, o 7 (.ld 1 false (.t 6))), (2, o 8 (.call 32 [(.t 7)])), (0, o 9 (.bin .add (.t 8) (.c (.str ⟨#[32]⟩)))), (0, o 10 (.fa 1 (.t 1))), (2, o 11 (.ld 1 false (.t 10))), (2, o 12 (.call 32 [(.t 11)])), (0, o 13 (.bin .add (.t 9) (.t 12))), (0, o 14 (.bin .add (.t 13) (.c (.str ⟨#[32]⟩)))), (0, o 15 (.fa 2 (.t 1))), (2, o 16 (.ld 1 false (.t 15))), (2, o 17 (.call 32 [(.t 16)])), (0, o 18 (.bin .add (.t 14) (.t 17))), (0, o 19 (.bin .add (.t 18) (.c (.str ⟨#[32]⟩)))), (0, o 20 (.fa 3 (.t 1))), (2, o 21 (.ld 1 false (.t 20))), (1, o 22 (.call 32 [(.t 21)])), (0, o 23 (.bin .add (.t 19) (.t 22))), (0, o 2 (.mv (.t 23)))] [(2, 5), (2, 10), (6, 10), (2, 15), (6, 15), (11, 15)]) (.ret)))⟩
def K_impl_ShowIns : Keeps := []
theorem r_impl_ShowIns : resolveF Tryd.prog Tryd.f9 K_impl_ShowIns = some F_impl_ShowIns := by kernel_rfl
def X_impl_ShowIns : Ctx := Ctx.cons 30 G_impl_InsOk (Ctx.cons 32 G_impl_Decimal (fun _ => none))
theorem co_impl_ShowIns : CtxOk Tryd.prog X_impl_ShowIns := CtxOk.cons (CtxOk.cons (CtxOk.nil) ok_impl_Decimal) ok_impl_InsOk
theorem cx_impl_ShowIns : (CX X_impl_ShowIns 30 G_impl_InsOk false) ∧ (CX X_impl_ShowIns 32 G_impl_Decimal false) := ⟨cxI rfl rfl, cxI rfl rfl⟩
def S_impl_ShowIns : ByV := ⟨none, false, semF X_impl_ShowIns F_impl_ShowIns none false⟩
def G_impl_ShowIns : CK := .byv S_impl_ShowIns
theorem sg_impl_ShowIns (args : List AV) : S_impl_ShowIns.sem args = semF X_impl_ShowIns F_impl_ShowIns none false args := rfl
theorem cl_impl_ShowIns (args hp) : callS G_impl_ShowIns args hp = byvS S_impl_ShowIns args hp := callS_byv rfl rfl args hp
theorem ok_impl_ShowIns : InlOk Tryd.prog 9 (callS G_impl_ShowIns) := byv_none co_impl_ShowIns Tryd.func9 r_impl_ShowIns rfl (fun _ _ h => h)
def B0_impl_ListingOf : RC :=
  .seq (.reg [o 13 (.bin .lss (.t 12) (.t 11))]) (.seq (.cond (.t 13) (.skip) (.exit 0)) (.seq (.block 1 (.seq (.reg [o 14 (.ia 1 (.t 10) (.t 12)), o 15 (.ld 1 false (.t 14)), o 5 (.mv (.t 15))]) (.seq (.reg [o 6 (.mv (.c (.str ⟨#[63]⟩)))]) (.seq (.seq (.reg [o 17 (.mv (.t 5)), o 18 (.call 25 [(.t 17)]), o 16 (.mv (.t 18)), o 19 (.ex (.t 16) 0), o 20 (.ex (.t 16) 1), o 7 (.new [(.int .i64 0), (.int .i64 0), (.int .i64 0), (.int .i64 0)]), ⟨none, none, .st 4 (.t 7) (.t 19)⟩, o 8 (.mv (.t 20))]) (.seq (.reg [o 21 (.mv (.t 8))]) (.cond (.t 21) (.reg [o 22 (.ld 4 true (.t 7)), o 23 (.call 9 [(.t 22)]), o 6 (.mv (.t 23))]) (.skip)))) (.reg [o 24 (.mv (.t 3)), o 25 (.mv (.t 6)), o 26 (.bin .add (.t 25) (.c (.str ⟨#[10]⟩))), o 27 (.app true 1 1 (.t 24) (.t 26)), o 3 (.mv (.t 27))]))))) (.reg [o 28 (.bin .add (.t 12) (.c (.int .i64 1))), o 12 (.mv (.t 28))])))
def F_impl_ListingOf : RF := ⟨31, 1, [.t 2],
  .seq (.reg [o 1 (.box (.t 0)), o 2 (.mv (.c (.str ⟨#[]⟩)))]) (.seq (.reg [o 3 (.mv (.c (.nil 1)))]) (.seq (.seq (.reg [o 9 (.fa 0 (.t 1)), o 10 (.ld 1 false (.t 9)), o 11 (.len false (.t 10)), o 12 (.mv (.c (.int .i64 0)))]) (.block 0 (.loop [3, 10, 11, 12] [(1, [3])] B0_impl_ListingOf))) (.seq (.reg [o 29 (.mv (.t 3)), o 30 (.b2s (.t 29)), o 2 (.mv (.t 30))]) (.ret))))⟩
def K_impl_ListingOf : Keeps := [([3, 10, 11, 12], [(1, [3])])]
theorem r_impl_ListingOf : resolveF Tryd.prog Tryd.f13 K_impl_ListingOf = some F_impl_ListingOf := by kernel_rfl
def X_impl_ListingOf : Ctx := Ctx.cons 25 G_impl_Decode (Ctx.cons 9 G_impl_ShowIns (fun _ => none))
theorem co_impl_ListingOf : CtxOk Tryd.prog X_impl_ListingOf := CtxOk.cons (CtxOk.cons (CtxOk.nil) ok_impl_ShowIns) ok_impl_Decode
theorem cx_impl_ListingOf : (CX X_impl_ListingOf 25 G_impl_Decode false) ∧ (CX X_impl_ListingOf 9 G_impl_ShowIns false) := ⟨cxI rfl rfl, cxI rfl rfl⟩
def S_impl_ListingOf : ByV := ⟨none, false, semF X_impl_ListingOf F_impl_ListingOf none false⟩
def G_impl_ListingOf : CK := .byv S_impl_ListingOf
theorem sg_impl_ListingOf (args : List AV) : S_impl_ListingOf.sem args = semF X_impl_ListingOf F_impl_ListingOf none false args := rfl
theorem cl_impl_ListingOf (args hp) : callS G_impl_ListingOf args hp = byvS S_impl_ListingOf args hp := callS_byv rfl rfl args hp
theorem ok_impl_ListingOf : InlOk Tryd.prog 13 (callS G_impl_ListingOf) := byv_none co_impl_ListingOf Tryd.func13 r_impl_ListingOf rfl (fun _ _ h => h)
def B0_laws_eqIntS : RC :=
  .seq (.seq (.reg [o 11 (.mv (.t 5)), o 12 (.mv (.t 0)), o 13 (.len false (.t 12)), o 14 (.bin .lss (.t 11) (.t 13))]) (.cond (.t 14) (.skip) (.exit 0))) (.seq (.block 1 (.seq (.regd [(0, o 17 (.mv (.t 0))), (0, o 18 (.mv (.t 5))), (1, o 19 (.ia 1 (.t 17) (.t 18))), (1, o 20 (.ld 1 false (.t 19))), (0, o 21 (.mv (.t 1))), (0, o 22 (.mv (.t 5))), (1, o 23 (.ia 1 (.t 21) (.t 22))), (1, o 24 (.ld 1 false (.t 23))), (0, o 25 (.bin .neq (.t 20) (.t 24)))] []) (.cond (.t 25) (.seq (.reg [o 4 (.mv (.c (.bool false)))]) (.ret)) (.skip)))) (.reg [o 15 (.mv (.t 5)), o 16 (.bin .add (.t 15) (.c (.int .i64 1))), o 5 (.mv (.t 16))]))
def F_laws_eqIntS : RF := ⟨26, 2, [.t 4],
  .seq (.reg [o 4 (.mv (.c (.bool false)))]) (.seq (.seq (.reg [o 6 (.mv (.t 0)), o 7 (.len false (.t 6)), o 8 (.mv (.t 1)), o 9 (.len false (.t 8)), o 10 (.bin .neq (.t 7) (.t 9))]) (.cond (.t 10) (.seq (.reg [o 4 (.mv (.c (.bool false)))]) (.ret)) (.skip))) (.seq (.seq (.reg [o 5 (.mv (.c (.int .i64 0)))]) (.block 0 (.loop [0, 1, 5] [(1, []), (0, [4])] B0_laws_eqIntS))) (.seq (.reg [o 4 (.mv (.c (.bool true)))]) (.ret))))⟩
def K_laws_eqIntS : Keeps := [([0, 1, 5], [(1, []), (0, [4])])]
theorem r_laws_eqIntS : resolveF Tryd.prog Tryd.f35 K_laws_eqIntS = some F_laws_eqIntS := by kernel_rfl
def X_laws_eqIntS : Ctx := fun _ => none
theorem co_laws_eqIntS : CtxOk Tryd.prog X_laws_eqIntS := CtxOk.nil
theorem cx_laws_eqIntS : True := trivial
def S_laws_eqIntS : ByV := ⟨none, false, semF X_laws_eqIntS F_laws_eqIntS none false⟩
def G_laws_eqIntS : CK := .byv S_laws_eqIntS
theorem sg_laws_eqIntS (args : List AV) : S_laws_eqIntS.sem args = semF X_laws_eqIntS F_laws_eqIntS none false args := rfl
theorem cl_laws_eqIntS (args hp) : callS G_laws_eqIntS args hp = byvS S_laws_eqIntS args hp := callS_byv rfl rfl args hp
theorem ok_laws_eqIntS : InlOk Tryd.prog 35 (callS G_laws_eqIntS) := byv_none co_laws_eqIntS Tryd.func35 r_laws_eqIntS rfl (fun _ _ h => h)
def F_laws_eqImage : RF := ⟨22, 2, [.t 4],
  .seq (.reg [o 2 (.box (.t 0)), o 3 (.box (.t 1)), o 4 (.mv (.c (.bool false)))]) (.seq (.seq (.reg [o 5 (.fa 0 (.t 2)), o 6 (.ld 1 false (.t 5)), o 7 (.fa 0 (.t 3)), o 8 (.ld 1 false (.t 7)), o 9 (.call 35 [(.t 6), (.t 8)]), o 10 (.un .not (.t 9))]) (.cond (.t 10) (.seq (.reg [o 4 (.mv (.c (.bool false)))]) (.ret)) (.skip))) (.seq (.seq (.reg [o 11 (.fa 1 (.t 2)), o 12 (.ld 1 false (.t 11)), o 13 (.fa 1 (.t 3)), o 14 (.ld 1 false (.t 13)), o 15 (.call 35 [(.t 12), (.t 14)]), o 16 (.un .not (.t 15))]) (.cond (.t 16) (.seq (.reg [o 4 (.mv (.c (.bool false)))]) (.ret)) (.skip))) (.seq (.seq (.reg [o 17 (.fa 2 (.t 2)), o 18 (.ld 1 false (.t 17)), o 19 (.fa 2 (.t 3)), o 20 (.ld 1 false (.t 19)), o 21 (.bin .neq (.t 18) (.t 20))]) (.cond (.t 21) (.seq (.reg [o 4 (.mv (.c (.bool false)))]) (.ret)) (.skip))) (.seq (.reg [o 4 (.mv (.c (.bool true)))]) (.ret)))))⟩
def K_laws_eqImage : Keeps := []
theorem r_laws_eqImage : resolveF Tryd.prog Tryd.f14 K_laws_eqImage = some F_laws_eqImage := by kernel_rfl
def X_laws_eqImage : Ctx := Ctx.cons 35 G_laws_eqIntS (fun _ => none)
theorem co_laws_eqImage : CtxOk Tryd.prog X_laws_eqImage := CtxOk.cons (CtxOk.nil) ok_laws_eqIntS
theorem cx_laws_eqImage : (CX X_laws_eqImage 35 G_laws_eqIntS false) := cxI rfl rfl
def S_laws_eqImage : ByV := ⟨none, false, semF X_laws_eqImage F_laws_eqImage none false⟩
def G_laws_eqImage : CK := .byv S_laws_eqImage
theorem sg_laws_eqImage (args : List AV) : S_laws_eqImage.sem args = semF X_laws_eqImage F_laws_eqImage none false args := rfl
theorem cl_laws_eqImage (args hp) : callS G_laws_eqImage args hp = byvS S_laws_eqImage args hp := callS_byv rfl rfl args hp
theorem ok_laws_eqImage : InlOk Tryd.prog 14 (callS G_laws_eqImage) := byv_none co_laws_eqImage Tryd.func14 r_laws_eqImage rfl (fun _ _ h => h)
def F_laws_FnExactListingOf : RF := ⟨27, 1, [.t 2],
  .seq (.reg [o 1 (.box (.t 0)), o 2 (.mv (.c (.bool false)))]) (.seq (.reg [o 3 (.mv (.c (.int .i64 1048576)))]) (.seq (.reg [o 7 (.ld 3 true (.t 1)), o 8 (.mv (.t 3)), o 9 (.call 10 [(.t 7), (.t 8)]), o 3 (.mv (.t 9))]) (.seq (.seq (.reg [o 10 (.mv (.t 3)), o 11 (.bin .lss (.t 10) (.c (.int .i64 0)))]) (.cond (.t 11) (.seq (.reg [o 2 (.mv (.c (.bool true)))]) (.ret)) (.skip))) (.seq (.reg [o 12 (.ld 3 true (.t 1)), o 13 (.call 12 [(.t 12)]), o 14 (.call 11 [(.t 13)]), o 4 (.mv (.t 14))]) (.seq (.reg [o 15 (.ld 3 true (.t 1)), o 16 (.call 12 [(.t 15)]), o 5 (.new [(.nil 1), (.nil 1), (.int .i64 0)]), ⟨none, none, .st 3 (.t 5) (.t 16)⟩]) (.seq (.reg [o 17 (.ld 3 true (.t 5)), o 18 (.call 13 [(.t 17)]), o 6 (.mv (.t 18))]) (.seq (.seq (.reg [o 19 (.mv (.t 6)), o 20 (.mv (.t 4)), o 21 (.bin .neq (.t 19) (.t 20))]) (.cond (.t 21) (.seq (.reg [o 2 (.mv (.c (.bool false)))]) (.ret)) (.skip))) (.seq (.seq (.regd [(2, o 22 (.ld 3 true (.t 5))), (1, o 23 (.ld 3 true (.t 1))), (2, o 24 (.call 12 [(.t 23)])), (1, o 25 (.call 14 [(.t 22), (.t 24)])), (0, o 26 (.un .not (.t 25)))] [(0, 2)]) (.cond (.t 26) (.seq (.reg [o 2 (.mv (.c (.bool false)))]) (.ret)) (.skip))) (.seq (.reg [o 2 (.mv (.c (.bool true)))]) (.ret))))))))))⟩
def K_laws_FnExactListingOf : Keeps := []
theorem r_laws_FnExactListingOf : resolveF Tryd.prog Tryd.f4 K_laws_FnExactListingOf = some F_laws_FnExactListingOf := by kernel_rfl
def X_laws_FnExactListingOf : Ctx := Ctx.cons 10 G_laws_szImage (Ctx.cons 12 G_laws_toImage (Ctx.cons 11 G_spec_ListingOf (Ctx.cons 13 G_impl_ListingOf (Ctx.cons 14 G_laws_eqImage (fun _ => none)))))
theorem co_laws_FnExactListingOf : CtxOk Tryd.prog X_laws_FnExactListingOf := CtxOk.cons (CtxOk.cons (CtxOk.cons (CtxOk.cons (CtxOk.cons (CtxOk.nil) ok_laws_eqImage) ok_impl_ListingOf) ok_spec_ListingOf) ok_laws_toImage) ok_laws_szImage
theorem cx_laws_FnExactListingOf : (CX X_laws_FnExactListingOf 10 G_laws_szImage false) ∧ (CX X_laws_FnExactListingOf 12 G_laws_toImage false) ∧ (CX X_laws_FnExactListingOf 11 G_spec_ListingOf false) ∧ (CX X_laws_FnExactListingOf 13 G_impl_ListingOf false) ∧ (CX X_laws_FnExactListingOf 14 G_laws_eqImage false) := ⟨cxI rfl rfl, cxI rfl rfl, cxI rfl rfl, cxI rfl rfl, cxI rfl rfl⟩
end
end Go.Proofs.YtfoapfilmkapjaaDoor.AI
