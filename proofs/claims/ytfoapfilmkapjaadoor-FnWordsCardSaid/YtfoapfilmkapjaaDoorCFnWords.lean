/- The functions that the law FnWords reaches, in the reckoner's words. -/
import Derived.Test.YtfoapfilmkapjaaDoorAItoa
import Derived.Test.YtfoapfilmkapjaaDoorChecked
import Derived.ProofKit
import Derived.Test.YtfoapfilmkapjaaDoorShelf
namespace Go.Proofs.YtfoapfilmkapjaaDoor.AI
open Go.Proofs
set_option linter.all false
set_option maxRecDepth 100000
noncomputable section
instance : Tabs := ⟨fun B => Tryd.prog.globalNamed "internal/strconv.uint64pow10" = some B, fun _ x => ∃ e fz, x = .cells (Lib.pow10Tab.map fun z => Value.int .u64 z).toArray e fz⟩
theorem tabI {w : World} (h : ∀ B, Tabs.at_ B → ∃ x, w.heap[B]? = some x ∧ Tabs.ok B x) : Lib.TabIs Tryd.prog w "internal/strconv.uint64pow10" .u64 Lib.pow10Tab := by
  obtain ⟨g, hg⟩ := Option.isSome_iff_exists.1 (show (Tryd.prog.globalNamed "internal/strconv.uint64pow10").isSome = true by kernel_rfl)
  obtain ⟨x, hx, e, fz, rfl⟩ := h g hg
  unfold Lib.TabIs World.var?
  rw [hg]
  simp only [Option.bind_some, hx]
theorem tabO {w : World} (h : Lib.TabIs Tryd.prog w "internal/strconv.uint64pow10" .u64 Lib.pow10Tab) : ∀ B, Tabs.at_ B → ∃ x, w.heap[B]? = some x ∧ Tabs.ok B x := by
  intro B hB
  unfold Lib.TabIs World.var? at h
  rw [show Tryd.prog.globalNamed "internal/strconv.uint64pow10" = some B from hB] at h
  simp only [Option.bind_some] at h
  split at h
  · rename_i cs e fz heq
    simp only [Option.some.injEq] at h
    exact ⟨_, heq, e, fz, by rw [h]⟩
  · cases h
def F_laws_big : RF := ⟨6, 1, [.t 2],
  .seq (.reg [o 2 (.mv (.c (.bool false)))]) (.seq (.reg [o 3 (.mv (.t 0)), o 4 (.len false (.t 3)), o 5 (.bin .gtr (.t 4) (.c (.int .i64 1048576))), o 2 (.mv (.t 5))]) (.ret))⟩
def K_laws_big : Keeps := []
theorem r_laws_big : resolveF Tryd.prog Tryd.f22 K_laws_big = some F_laws_big := by kernel_rfl
def X_laws_big : Ctx := fun _ => none
theorem co_laws_big : CtxOk Tryd.prog X_laws_big := CtxOk.nil
theorem cx_laws_big : True := trivial
def S_laws_big : ByV := ⟨none, false, semF X_laws_big F_laws_big none false⟩
def G_laws_big : CK := .byv S_laws_big
theorem sg_laws_big (args : List AV) : S_laws_big.sem args = semF X_laws_big F_laws_big none false args := rfl
theorem cl_laws_big (args hp) : callS G_laws_big args hp = byvS S_laws_big args hp := callS_byv rfl rfl args hp
theorem ok_laws_big : InlOk Tryd.prog 22 (callS G_laws_big) := byv_none co_laws_big Tryd.func22 r_laws_big rfl (fun _ _ h => h)
def B0_spec_l01New : RC :=
  .seq (.seq (.reg [o 8 (.mv (.t 4)), o 9 (.mv (.t 0)), o 10 (.len false (.t 9)), o 11 (.bin .lss (.t 8) (.t 10)), o 12 (.mv (.t 11)), ⟨some 13, some (12, true), .mv (.t 4)⟩, ⟨some 14, some (12, true), .bin .lss (.t 13) (.c (.int .i64 4000))⟩, o 15 (.pick (.t 12) (.t 14) (.c (.bool false)))]) (.cond (.t 15) (.skip) (.exit 0))) (.seq (.block 1 (.reg [o 18 (.mv (.t 3)), o 19 (.bin .mul (.t 18) (.c (.int .i64 131))), o 20 (.mv (.t 0)), o 21 (.mv (.t 4)), o 22 (.ia 1 (.t 20) (.t 21)), o 23 (.ld 1 false (.t 22)), o 24 (.cvi .i64 (.t 23)), o 25 (.bin .add (.t 19) (.t 24)), o 26 (.bin .add (.t 25) (.c (.int .i64 7))), o 27 (.bin .and (.t 26) (.c (.int .i64 1073741823))), o 3 (.mv (.t 27))])) (.reg [o 16 (.mv (.t 4)), o 17 (.bin .add (.t 16) (.c (.int .i64 1))), o 4 (.mv (.t 17))]))
def F_spec_l01New : RF := ⟨32, 1, [.t 2],
  .seq (.reg [o 2 (.mv (.c .pnil))]) (.seq (.reg [o 5 (.mv (.t 0)), o 6 (.len false (.t 5)), o 7 (.bin .add (.c (.int .i64 76401)) (.t 6)), o 3 (.mv (.t 7))]) (.seq (.seq (.reg [o 4 (.mv (.c (.int .i64 0)))]) (.block 0 (.loop [0, 3, 4] [(1, [0, 3])] B0_spec_l01New))) (.seq (.reg [o 28 (.mv (.t 0)), o 29 (.mv (.t 3)), o 30 (.build [(.nil 1), (.int .i64 0), (.int .i64 0)] [(0, 1, (.t 28)), (2, 1, (.t 29))]), o 31 (.box (.t 30)), o 2 (.mv (.t 31))]) (.ret))))⟩
def K_spec_l01New : Keeps := [([0, 3, 4], [(1, [0, 3])])]
theorem r_spec_l01New : resolveF Tryd.prog Tryd.f46 K_spec_l01New = some F_spec_l01New := by kernel_rfl
def X_spec_l01New : Ctx := fun _ => none
theorem co_spec_l01New : CtxOk Tryd.prog X_spec_l01New := CtxOk.nil
theorem cx_spec_l01New : True := trivial
def H_spec_l01New : List AV → Hp → Option (AV × Hp) := runF X_spec_l01New F_spec_l01New
theorem sh_spec_l01New (args hp) : H_spec_l01New args hp = runF X_spec_l01New F_spec_l01New args hp := rfl
def G_spec_l01New : CK := .inl (frame H_spec_l01New)
theorem cl_spec_l01New (args hp) : callS G_spec_l01New args hp = frame H_spec_l01New args hp := rfl
theorem ok_spec_l01New : InlOk Tryd.prog 46 (callS G_spec_l01New) := frame_ok (runF_ok co_spec_l01New Tryd.func46 r_spec_l01New)
def F_spec_l01Byte : RF := ⟨58, 1, [.t 2],
  .seq (.reg [o 2 (.mv (.c (.int .i64 0)))]) (.seq (.reg [o 4 (.mv (.t 0)), o 5 (.mv (.t 0)), o 6 (.nck (.t 5)), o 7 (.fa 2 (.t 6)), o 8 (.ld 1 false (.t 7)), o 9 (.bin .mul (.t 8) (.c (.int .i64 6364136223846793005))), o 10 (.bin .add (.t 9) (.c (.int .i64 1442695040888963407))), o 11 (.nck (.t 4)), o 12 (.fa 2 (.t 11)), ⟨none, none, .st 1 (.t 12) (.t 10)⟩]) (.seq (.regd [(0, o 13 (.mv (.t 0))), (0, o 14 (.nck (.t 13))), (0, o 15 (.fa 2 (.t 14))), (1, o 16 (.ld 1 false (.t 15))), (0, o 17 (.bin .shr (.t 16) (.c (.int .u64 33)))), (0, o 18 (.mv (.t 0))), (0, o 19 (.nck (.t 18))), (0, o 20 (.fa 2 (.t 19))), (1, o 21 (.ld 1 false (.t 20))), (0, o 22 (.bin .shr (.t 21) (.c (.int .u64 45)))), (0, o 23 (.bin .xor (.t 17) (.t 22))), (0, o 24 (.bin .and (.t 23) (.c (.int .i64 255)))), (0, o 3 (.mv (.t 24)))] []) (.seq (.seq (.regd [(0, o 25 (.mv (.t 0))), (0, o 26 (.nck (.t 25))), (0, o 27 (.fa 1 (.t 26))), (1, o 28 (.ld 1 false (.t 27))), (0, o 29 (.mv (.t 0))), (0, o 30 (.nck (.t 29))), (0, o 31 (.fa 0 (.t 30))), (1, o 32 (.ld 1 false (.t 31))), (0, o 33 (.len false (.t 32))), (0, o 34 (.bin .lss (.t 28) (.t 33)))] []) (.cond (.t 34) (.seq (.regd [(0, o 35 (.mv (.t 3))), (0, o 36 (.mv (.t 0))), (0, o 37 (.nck (.t 36))), (0, o 38 (.fa 0 (.t 37))), (1, o 39 (.ld 1 false (.t 38))), (0, o 40 (.mv (.t 0))), (0, o 41 (.nck (.t 40))), (0, o 42 (.fa 1 (.t 41))), (1, o 43 (.ld 1 false (.t 42))), (1, o 44 (.ia 1 (.t 39) (.t 43))), (1, o 45 (.ld 1 false (.t 44))), (0, o 46 (.cvi .i64 (.t 45))), (0, o 47 (.bin .add (.t 35) (.t 46))), (0, o 48 (.bin .and (.t 47) (.c (.int .i64 255)))), (0, o 3 (.mv (.t 48)))] []) (.reg [o 49 (.mv (.t 0)), o 50 (.mv (.t 0)), o 51 (.nck (.t 50)), o 52 (.fa 1 (.t 51)), o 53 (.ld 1 false (.t 52)), o 54 (.bin .add (.t 53) (.c (.int .i64 1))), o 55 (.nck (.t 49)), o 56 (.fa 1 (.t 55)), ⟨none, none, .st 1 (.t 56) (.t 54)⟩])) (.skip))) (.seq (.reg [o 57 (.mv (.t 3)), o 2 (.mv (.t 57))]) (.ret)))))⟩
def K_spec_l01Byte : Keeps := []
theorem r_spec_l01Byte : resolveF Tryd.prog Tryd.f69 K_spec_l01Byte = some F_spec_l01Byte := by kernel_rfl
def X_spec_l01Byte : Ctx := fun _ => none
theorem co_spec_l01Byte : CtxOk Tryd.prog X_spec_l01Byte := CtxOk.nil
theorem cx_spec_l01Byte : True := trivial
def H_spec_l01Byte : List AV → Hp → Option (AV × Hp) := runF X_spec_l01Byte F_spec_l01Byte
theorem sh_spec_l01Byte (args hp) : H_spec_l01Byte args hp = runF X_spec_l01Byte F_spec_l01Byte args hp := rfl
def G_spec_l01Byte : CK := .inl (frame H_spec_l01Byte)
theorem cl_spec_l01Byte (args hp) : callS G_spec_l01Byte args hp = frame H_spec_l01Byte args hp := rfl
theorem ok_spec_l01Byte : InlOk Tryd.prog 69 (callS G_spec_l01Byte) := frame_ok (runF_ok co_spec_l01Byte Tryd.func69 r_spec_l01Byte)
def F_spec_l01Below : RF := ⟨37, 2, [.t 4],
  .seq (.reg [o 4 (.mv (.c (.int .i64 0)))]) (.seq (.seq (.reg [o 9 (.mv (.t 1)), o 10 (.bin .leq (.t 9) (.c (.int .i64 0)))]) (.cond (.t 10) (.seq (.reg [o 4 (.mv (.c (.int .i64 0)))]) (.ret)) (.skip))) (.seq (.seq (.reg [o 11 (.mv (.t 1)), o 12 (.bin .leq (.t 11) (.c (.int .i64 256)))]) (.cond (.t 12) (.seq (.reg [o 13 (.mv (.t 0)), o 14 (.call 69 [(.t 13)]), o 15 (.mv (.t 1)), o 16 (.bin .rem (.t 14) (.t 15)), o 4 (.mv (.t 16))]) (.ret)) (.skip))) (.seq (.reg [o 17 (.mv (.t 0)), o 18 (.call 69 [(.t 17)]), o 5 (.mv (.t 18))]) (.seq (.reg [o 19 (.mv (.t 0)), o 20 (.call 69 [(.t 19)]), o 6 (.mv (.t 20))]) (.seq (.reg [o 21 (.mv (.t 0)), o 22 (.call 69 [(.t 21)]), o 7 (.mv (.t 22))]) (.seq (.reg [o 23 (.mv (.t 0)), o 24 (.call 69 [(.t 23)]), o 8 (.mv (.t 24))]) (.seq (.reg [o 25 (.mv (.t 5)), o 26 (.bin .mul (.t 25) (.c (.int .i64 16777216))), o 27 (.mv (.t 6)), o 28 (.bin .mul (.t 27) (.c (.int .i64 65536))), o 29 (.bin .add (.t 26) (.t 28)), o 30 (.mv (.t 7)), o 31 (.bin .mul (.t 30) (.c (.int .i64 256))), o 32 (.bin .add (.t 29) (.t 31)), o 33 (.mv (.t 8)), o 34 (.bin .add (.t 32) (.t 33)), o 35 (.mv (.t 1)), o 36 (.bin .rem (.t 34) (.t 35)), o 4 (.mv (.t 36))]) (.ret))))))))⟩
def K_spec_l01Below : Keeps := []
theorem r_spec_l01Below : resolveF Tryd.prog Tryd.f47 K_spec_l01Below = some F_spec_l01Below := by kernel_rfl
def X_spec_l01Below : Ctx := Ctx.cons 69 G_spec_l01Byte (fun _ => none)
theorem co_spec_l01Below : CtxOk Tryd.prog X_spec_l01Below := CtxOk.cons (CtxOk.nil) ok_spec_l01Byte
theorem cx_spec_l01Below : (CX X_spec_l01Below 69 G_spec_l01Byte true) := cxI rfl rfl
def H_spec_l01Below : List AV → Hp → Option (AV × Hp) := runF X_spec_l01Below F_spec_l01Below
theorem sh_spec_l01Below (args hp) : H_spec_l01Below args hp = runF X_spec_l01Below F_spec_l01Below args hp := rfl
def G_spec_l01Below : CK := .inl (frame H_spec_l01Below)
theorem cl_spec_l01Below (args hp) : callS G_spec_l01Below args hp = frame H_spec_l01Below args hp := rfl
theorem ok_spec_l01Below : InlOk Tryd.prog 47 (callS G_spec_l01Below) := frame_ok (runF_ok co_spec_l01Below Tryd.func47 r_spec_l01Below)
def F_spec_l01PickInt : RF := ⟨12, 2, [.t 4],
  .seq (.reg [o 4 (.mv (.c (.int .i64 0)))]) (.seq (.reg [o 5 (.mv (.t 1)), o 6 (.mv (.t 0)), o 7 (.mv (.t 1)), o 8 (.len false (.t 7)), o 9 (.call 47 [(.t 6), (.t 8)]), o 10 (.ia 1 (.t 5) (.t 9)), o 11 (.ld 1 false (.t 10)), o 4 (.mv (.t 11))]) (.ret))⟩
def K_spec_l01PickInt : Keeps := []
theorem r_spec_l01PickInt : resolveF Tryd.prog Tryd.f49 K_spec_l01PickInt = some F_spec_l01PickInt := by kernel_rfl
def X_spec_l01PickInt : Ctx := Ctx.cons 47 G_spec_l01Below (fun _ => none)
theorem co_spec_l01PickInt : CtxOk Tryd.prog X_spec_l01PickInt := CtxOk.cons (CtxOk.nil) ok_spec_l01Below
theorem cx_spec_l01PickInt : (CX X_spec_l01PickInt 47 G_spec_l01Below true) := cxI rfl rfl
def H_spec_l01PickInt : List AV → Hp → Option (AV × Hp) := runF X_spec_l01PickInt F_spec_l01PickInt
theorem sh_spec_l01PickInt (args hp) : H_spec_l01PickInt args hp = runF X_spec_l01PickInt F_spec_l01PickInt args hp := rfl
def G_spec_l01PickInt : CK := .inl (frame H_spec_l01PickInt)
theorem cl_spec_l01PickInt (args hp) : callS G_spec_l01PickInt args hp = frame H_spec_l01PickInt args hp := rfl
theorem ok_spec_l01PickInt : InlOk Tryd.prog 49 (callS G_spec_l01PickInt) := frame_ok (runF_ok co_spec_l01PickInt Tryd.func49 r_spec_l01PickInt)
def F_spec_l14Ins : RF := ⟨49, 1, [.cell 2 4 true],
  .seq (.reg [o 2 (.new [(.int .i64 0), (.int .i64 0), (.int .i64 0), (.int .i64 0)])]) (.seq (.reg [o 4 (.mv (.t 0)), o 5 (.call 47 [(.t 4), (.c (.int .i64 10))]), o 6 (.bin .add (.c (.int .i64 1)) (.t 5)), o 7 (.mv (.t 0)), o 8 (.call 47 [(.t 7), (.c (.int .i64 8))]), o 9 (.build [(.int .i64 0), (.int .i64 0), (.int .i64 0), (.int .i64 0)] [(0, 1, (.t 6)), (1, 1, (.t 8))]), o 3 (.new [(.int .i64 0), (.int .i64 0), (.int .i64 0), (.int .i64 0)]), ⟨none, none, .st 4 (.t 3) (.t 9)⟩]) (.seq (.seq (.reg [o 10 (.fa 0 (.t 3)), o 11 (.ld 1 false (.t 10))]) (.block 0 (.seq (.reg [o 16 (.bin .eql (.t 11) (.c (.int .i64 1))), o 15 (.mv (.t 16))]) (.cond (.t 15) (.reg [o 17 (.mv (.t 0)), o 18 (.bsl 1 [(.c (.int .i64 0)), (.c (.int .i64 1)), (.c (.int .i64 7)), (.c (.int .i64 1000000))]), o 19 (.call 49 [(.t 17), (.t 18)]), o 20 (.fa 3 (.t 3)), ⟨none, none, .st 1 (.t 20) (.t 19)⟩]) (.seq (.reg [o 22 (.bin .eql (.t 11) (.c (.int .i64 4))), o 21 (.mv (.t 22))]) (.cond (.t 21) (.seq (.reg [o 23 (.mv (.t 0)), o 24 (.call 47 [(.t 23), (.c (.int .i64 8))]), o 25 (.fa 2 (.t 3)), ⟨none, none, .st 1 (.t 25) (.t 24)⟩]) (.reg [o 26 (.mv (.t 0)), o 27 (.call 47 [(.t 26), (.c (.int .i64 9))]), o 28 (.bin .add (.c (.int .i64 1)) (.t 27)), o 29 (.fa 3 (.t 3)), ⟨none, none, .st 1 (.t 29) (.t 28)⟩])) (.seq (.seq (.reg [o 31 (.bin .eql (.t 11) (.c (.int .i64 5))), o 30 (.mv (.t 31))]) (.cond (.t 30) (.skip) (.reg [o 32 (.bin .eql (.t 11) (.c (.int .i64 6))), o 30 (.mv (.t 32))]))) (.cond (.t 30) (.skip) (.seq (.reg [o 34 (.bin .eql (.t 11) (.c (.int .i64 8))), o 33 (.mv (.t 34))]) (.cond (.t 33) (.seq (.reg [o 35 (.fa 1 (.t 3)), ⟨none, none, .st 1 (.t 35) (.c (.int .i64 0))⟩]) (.reg [o 36 (.mv (.t 0)), o 37 (.call 47 [(.t 36), (.c (.int .i64 20))]), o 38 (.fa 3 (.t 3)), ⟨none, none, .st 1 (.t 38) (.t 37)⟩])) (.seq (.reg [o 40 (.bin .eql (.t 11) (.c (.int .i64 10))), o 39 (.mv (.t 40))]) (.cond (.t 39) (.seq (.reg [o 41 (.mv (.t 0)), o 42 (.call 47 [(.t 41), (.c (.int .i64 7))]), o 43 (.bin .add (.c (.int .i64 1)) (.t 42)), o 44 (.fa 1 (.t 3)), ⟨none, none, .st 1 (.t 44) (.t 43)⟩]) (.reg [o 45 (.mv (.t 0)), o 46 (.call 47 [(.t 45), (.c (.int .i64 5))]), o 47 (.fa 3 (.t 3)), ⟨none, none, .st 1 (.t 47) (.t 46)⟩])) (.reg [o 12 (.mv (.t 0)), o 13 (.call 47 [(.t 12), (.c (.int .i64 30))]), o 14 (.fa 3 (.t 3)), ⟨none, none, .st 1 (.t 14) (.t 13)⟩]))))))))))))) (.seq (.reg [o 48 (.ld 4 true (.t 3)), ⟨none, none, .st 4 (.t 2) (.t 48)⟩]) (.ret))))⟩
def K_spec_l14Ins : Keeps := []
theorem r_spec_l14Ins : resolveF Tryd.prog Tryd.f51 K_spec_l14Ins = some F_spec_l14Ins := by kernel_rfl
def X_spec_l14Ins : Ctx := Ctx.cons 47 G_spec_l01Below (Ctx.cons 49 G_spec_l01PickInt (fun _ => none))
theorem co_spec_l14Ins : CtxOk Tryd.prog X_spec_l14Ins := CtxOk.cons (CtxOk.cons (CtxOk.nil) ok_spec_l01PickInt) ok_spec_l01Below
theorem cx_spec_l14Ins : (CX X_spec_l14Ins 47 G_spec_l01Below true) ∧ (CX X_spec_l14Ins 49 G_spec_l01PickInt true) := ⟨cxI rfl rfl, cxI rfl rfl⟩
def H_spec_l14Ins : List AV → Hp → Option (AV × Hp) := runF X_spec_l14Ins F_spec_l14Ins
theorem sh_spec_l14Ins (args hp) : H_spec_l14Ins args hp = runF X_spec_l14Ins F_spec_l14Ins args hp := rfl
def G_spec_l14Ins : CK := .inl (frame H_spec_l14Ins)
theorem cl_spec_l14Ins (args hp) : callS G_spec_l14Ins args hp = frame H_spec_l14Ins args hp := rfl
theorem ok_spec_l14Ins : InlOk Tryd.prog 51 (callS G_spec_l14Ins) := frame_ok (runF_ok co_spec_l14Ins Tryd.func51 r_spec_l14Ins)
def F_spec_l14Any : RF := ⟨38, 1, [.cell 2 4 true],
  .seq (.reg [o 2 (.new [(.int .i64 0), (.int .i64 0), (.int .i64 0), (.int .i64 0)])]) (.seq (.reg [o 6 (.mv (.t 0)), o 7 (.call 47 [(.t 6), (.c (.int .i64 10))]), o 3 (.mv (.t 7))]) (.seq (.reg [o 8 (.mv (.t 0)), o 9 (.call 47 [(.t 8), (.c (.int .i64 60))]), o 4 (.mv (.t 9))]) (.seq (.reg [o 10 (.mv (.t 0)), o 11 (.call 51 [(.t 10)]), o 5 (.new [(.int .i64 0), (.int .i64 0), (.int .i64 0), (.int .i64 0)]), ⟨none, none, .st 4 (.t 5) (.t 11)⟩]) (.seq (.seq (.reg [o 12 (.mv (.t 3))]) (.block 0 (.seq (.reg [o 14 (.bin .eql (.t 12) (.c (.int .i64 0))), o 13 (.mv (.t 14))]) (.cond (.t 13) (.reg [o 15 (.mv (.t 4)), o 16 (.bin .rem (.t 15) (.c (.int .i64 12))), o 17 (.fa 0 (.t 5)), ⟨none, none, .st 1 (.t 17) (.t 16)⟩]) (.seq (.reg [o 19 (.bin .eql (.t 12) (.c (.int .i64 1))), o 18 (.mv (.t 19))]) (.cond (.t 18) (.reg [o 20 (.mv (.t 4)), o 21 (.bin .rem (.t 20) (.c (.int .i64 10))), o 22 (.bin .sub (.t 21) (.c (.int .i64 1))), o 23 (.fa 1 (.t 5)), ⟨none, none, .st 1 (.t 23) (.t 22)⟩]) (.seq (.reg [o 25 (.bin .eql (.t 12) (.c (.int .i64 2))), o 24 (.mv (.t 25))]) (.cond (.t 24) (.reg [o 26 (.mv (.t 4)), o 27 (.bin .rem (.t 26) (.c (.int .i64 10))), o 28 (.fa 2 (.t 5)), ⟨none, none, .st 1 (.t 28) (.t 27)⟩]) (.seq (.reg [o 30 (.bin .eql (.t 12) (.c (.int .i64 3))), o 29 (.mv (.t 30))]) (.cond (.t 29) (.reg [o 31 (.bsl 1 [(.c (.int .i64 (-1))), (.c (.int .i64 0)), (.c (.int .i64 4194303)), (.c (.int .i64 4194304)), (.c (.int .i64 1000001))]), o 32 (.mv (.t 4)), o 33 (.bin .rem (.t 32) (.c (.int .i64 5))), o 34 (.ia 1 (.t 31) (.t 33)), o 35 (.ld 1 false (.t 34)), o 36 (.fa 3 (.t 5)), ⟨none, none, .st 1 (.t 36) (.t 35)⟩]) (.skip))))))))))) (.seq (.reg [o 37 (.ld 4 true (.t 5)), ⟨none, none, .st 4 (.t 2) (.t 37)⟩]) (.ret))))))⟩
def K_spec_l14Any : Keeps := []
theorem r_spec_l14Any : resolveF Tryd.prog Tryd.f45 K_spec_l14Any = some F_spec_l14Any := by kernel_rfl
def X_spec_l14Any : Ctx := Ctx.cons 47 G_spec_l01Below (Ctx.cons 51 G_spec_l14Ins (fun _ => none))
theorem co_spec_l14Any : CtxOk Tryd.prog X_spec_l14Any := CtxOk.cons (CtxOk.cons (CtxOk.nil) ok_spec_l14Ins) ok_spec_l01Below
theorem cx_spec_l14Any : (CX X_spec_l14Any 47 G_spec_l01Below true) ∧ (CX X_spec_l14Any 51 G_spec_l14Ins true) := ⟨cxI rfl rfl, cxI rfl rfl⟩
def H_spec_l14Any : List AV → Hp → Option (AV × Hp) := runF X_spec_l14Any F_spec_l14Any
theorem sh_spec_l14Any (args hp) : H_spec_l14Any args hp = runF X_spec_l14Any F_spec_l14Any args hp := rfl
def G_spec_l14Any : CK := .inl (frame H_spec_l14Any)
theorem cl_spec_l14Any (args hp) : callS G_spec_l14Any args hp = frame H_spec_l14Any args hp := rfl
theorem ok_spec_l14Any : InlOk Tryd.prog 45 (callS G_spec_l14Any) := frame_ok (runF_ok co_spec_l14Any Tryd.func45 r_spec_l14Any)
def F_spec_DrawEncode : RF := ⟨6, 1, [.cell 2 4 true],
  .seq (.reg [o 2 (.new [(.int .i64 0), (.int .i64 0), (.int .i64 0), (.int .i64 0)])]) (.seq (.reg [o 3 (.mv (.t 0)), o 4 (.call 46 [(.t 3)]), o 5 (.call 45 [(.t 4)]), ⟨none, none, .st 4 (.t 2) (.t 5)⟩]) (.ret))⟩
def K_spec_DrawEncode : Keeps := []
theorem r_spec_DrawEncode : resolveF Tryd.prog Tryd.f23 K_spec_DrawEncode = some F_spec_DrawEncode := by kernel_rfl
def X_spec_DrawEncode : Ctx := Ctx.cons 46 G_spec_l01New (Ctx.cons 45 G_spec_l14Any (fun _ => none))
theorem co_spec_DrawEncode : CtxOk Tryd.prog X_spec_DrawEncode := CtxOk.cons (CtxOk.cons (CtxOk.nil) ok_spec_l14Any) ok_spec_l01New
theorem cx_spec_DrawEncode : (CX X_spec_DrawEncode 46 G_spec_l01New true) ∧ (CX X_spec_DrawEncode 45 G_spec_l14Any true) := ⟨cxI rfl rfl, cxI rfl rfl⟩
def S_spec_DrawEncode : ByV := ⟨none, false, semF X_spec_DrawEncode F_spec_DrawEncode none false⟩
def G_spec_DrawEncode : CK := .byv S_spec_DrawEncode
theorem sg_spec_DrawEncode (args : List AV) : S_spec_DrawEncode.sem args = semF X_spec_DrawEncode F_spec_DrawEncode none false args := rfl
theorem cl_spec_DrawEncode (args hp) : callS G_spec_DrawEncode args hp = byvS S_spec_DrawEncode args hp := callS_byv rfl rfl args hp
theorem ok_spec_DrawEncode : InlOk Tryd.prog 23 (callS G_spec_DrawEncode) := byv_none co_spec_DrawEncode Tryd.func23 r_spec_DrawEncode rfl (fun _ _ h => h)
def F_impl_within : RF := ⟨15, 3, [.t 6],
  .seq (.reg [o 6 (.mv (.c (.bool false)))]) (.seq (.reg [o 7 (.mv (.t 0)), o 8 (.mv (.t 1)), o 9 (.bin .geq (.t 7) (.t 8)), o 10 (.mv (.t 9)), ⟨some 11, some (10, true), .mv (.t 0)⟩, ⟨some 12, some (10, true), .mv (.t 2)⟩, ⟨some 13, some (10, true), .bin .leq (.t 11) (.t 12)⟩, o 14 (.pick (.t 10) (.t 13) (.c (.bool false))), o 6 (.mv (.t 14))]) (.ret))⟩
def K_impl_within : Keeps := []
theorem r_impl_within : resolveF Tryd.prog Tryd.f52 K_impl_within = some F_impl_within := by kernel_rfl
def X_impl_within : Ctx := fun _ => none
theorem co_impl_within : CtxOk Tryd.prog X_impl_within := CtxOk.nil
theorem cx_impl_within : True := trivial
def S_impl_within : ByV := ⟨none, false, semF X_impl_within F_impl_within none false⟩
def G_impl_within : CK := .byv S_impl_within
theorem sg_impl_within (args : List AV) : S_impl_within.sem args = semF X_impl_within F_impl_within none false args := rfl
theorem cl_impl_within (args hp) : callS G_impl_within args hp = byvS S_impl_within args hp := callS_byv rfl rfl args hp
theorem ok_impl_within : InlOk Tryd.prog 52 (callS G_impl_within) := byv_none co_impl_within Tryd.func52 r_impl_within rfl (fun _ _ h => h)
def F_impl_InsOk : RF := ⟨63, 1, [.t 2],
  .seq (.reg [o 1 (.box (.t 0)), o 2 (.mv (.c (.bool false)))]) (.seq (.seq (.reg [o 3 (.fa 0 (.t 1)), o 4 (.ld 1 false (.t 3)), o 5 (.call 52 [(.t 4), (.c (.int .i64 1)), (.c (.int .i64 10))]), o 6 (.un .not (.t 5)), o 7 (.mv (.t 6)), ⟨some 8, some (7, false), .fa 1 (.t 1)⟩, ⟨some 9, some (7, false), .ld 1 false (.t 8)⟩, ⟨some 10, some (7, false), .call 52 [(.t 9), (.c (.int .i64 0)), (.c (.int .i64 7))]⟩, ⟨some 11, some (7, false), .un .not (.t 10)⟩, o 12 (.pick (.t 7) (.c (.bool true)) (.t 11)), o 13 (.mv (.t 12)), ⟨some 14, some (13, false), .fa 2 (.t 1)⟩, ⟨some 15, some (13, false), .ld 1 false (.t 14)⟩, ⟨some 16, some (13, false), .call 52 [(.t 15), (.c (.int .i64 0)), (.c (.int .i64 7))]⟩, ⟨some 17, some (13, false), .un .not (.t 16)⟩, o 18 (.pick (.t 13) (.c (.bool true)) (.t 17)), o 19 (.mv (.t 18)), ⟨some 20, some (19, false), .fa 3 (.t 1)⟩, ⟨some 21, some (19, false), .ld 1 false (.t 20)⟩, ⟨some 22, some (19, false), .call 52 [(.t 21), (.c (.int .i64 0)), (.c (.int .i64 4194303))]⟩, ⟨some 23, some (19, false), .un .not (.t 22)⟩, o 24 (.pick (.t 19) (.c (.bool true)) (.t 23)), o 25 (.mv (.t 24)), ⟨some 26, some (25, false), .fa 0 (.t 1)⟩, ⟨some 27, some (25, false), .ld 1 false (.t 26)⟩, ⟨some 28, some (25, false), .bin .neq (.t 27) (.c (.int .i64 4))⟩, ⟨some 29, some (25, false), .mv (.t 28)⟩, ⟨some 30, some (29, true), .fa 2 (.t 1)⟩, ⟨some 31, some (29, true), .ld 1 false (.t 30)⟩, ⟨some 32, some (29, true), .bin .neq (.t 31) (.c (.int .i64 0))⟩, ⟨some 33, some (25, false), .pick (.t 29) (.t 32) (.c (.bool false))⟩, o 34 (.pick (.t 25) (.c (.bool true)) (.t 33))]) (.cond (.t 34) (.seq (.reg [o 2 (.mv (.c (.bool false)))]) (.ret)) (.skip))) (.seq (.seq (.reg [o 35 (.fa 0 (.t 1)), o 36 (.ld 1 false (.t 35))]) (.block 0 (.seq (.reg [o 38 (.bin .eql (.t 36) (.c (.int .i64 1))), o 37 (.mv (.t 38))]) (.cond (.t 37) (.seq (.reg [o 39 (.fa 3 (.t 1)), o 40 (.ld 1 false (.t 39)), o 41 (.bin .leq (.t 40) (.c (.int .i64 1000000))), o 2 (.mv (.t 41))]) (.ret)) (.seq (.reg [o 43 (.bin .eql (.t 36) (.c (.int .i64 4))), o 42 (.mv (.t 43))]) (.cond (.t 42) (.seq (.reg [o 44 (.fa 3 (.t 1)), o 45 (.ld 1 false (.t 44)), o 46 (.call 52 [(.t 45), (.c (.int .i64 1)), (.c (.int .i64 9))]), o 2 (.mv (.t 46))]) (.ret)) (.seq (.seq (.reg [o 48 (.bin .eql (.t 36) (.c (.int .i64 5))), o 47 (.mv (.t 48))]) (.cond (.t 47) (.skip) (.reg [o 49 (.bin .eql (.t 36) (.c (.int .i64 6))), o 47 (.mv (.t 49))]))) (.cond (.t 47) (.seq (.reg [o 50 (.fa 3 (.t 1)), o 51 (.ld 1 false (.t 50)), o 52 (.bin .eql (.t 51) (.c (.int .i64 0))), o 2 (.mv (.t 52))]) (.ret)) (.seq (.reg [o 54 (.bin .eql (.t 36) (.c (.int .i64 8))), o 53 (.mv (.t 54))]) (.cond (.t 53) (.seq (.reg [o 55 (.fa 1 (.t 1)), o 56 (.ld 1 false (.t 55)), o 57 (.bin .eql (.t 56) (.c (.int .i64 0))), o 2 (.mv (.t 57))]) (.ret)) (.seq (.reg [o 59 (.bin .eql (.t 36) (.c (.int .i64 10))), o 58 (.mv (.t 59))]) (.cond (.t 58) (.seq (.reg [o 60 (.fa 1 (.t 1)), o 61 (.ld 1 false (.t 60)), o 62 (.bin .geq (.t 61) (.c (.int .i64 1))), o 2 (.mv (.t 62))]) (.ret)) (.skip))))))))))))) (.seq (.reg [o 2 (.mv (.c (.bool true)))]) (.ret))))⟩
def K_impl_InsOk : Keeps := []
theorem r_impl_InsOk : resolveF Tryd.prog Tryd.f30 K_impl_InsOk = some F_impl_InsOk := by kernel_rfl
def X_impl_InsOk : Ctx := Ctx.cons 52 G_impl_within (fun _ => none)
theorem co_impl_InsOk : CtxOk Tryd.prog X_impl_InsOk := CtxOk.cons (CtxOk.nil) ok_impl_within
theorem cx_impl_InsOk : (CX X_impl_InsOk 52 G_impl_within false) := cxI rfl rfl
def S_impl_InsOk : ByV := ⟨none, false, semF X_impl_InsOk F_impl_InsOk none false⟩
def G_impl_InsOk : CK := .byv S_impl_InsOk
theorem sg_impl_InsOk (args : List AV) : S_impl_InsOk.sem args = semF X_impl_InsOk F_impl_InsOk none false args := rfl
theorem cl_impl_InsOk (args hp) : callS G_impl_InsOk args hp = byvS S_impl_InsOk args hp := callS_byv rfl rfl args hp
theorem ok_impl_InsOk : InlOk Tryd.prog 30 (callS G_impl_InsOk) := byv_none co_impl_InsOk Tryd.func30 r_impl_InsOk rfl (fun _ _ h => h)
def F_impl_Encode : RF := ⟨21, 1, [.t 2, .t 3],
  .seq (.reg [o 1 (.box (.t 0)), o 2 (.mv (.c (.int .i64 0))), o 3 (.mv (.c (.bool false)))]) (.seq (.seq (.reg [o 4 (.ld 4 true (.t 1)), o 5 (.call 30 [(.t 4)]), o 6 (.un .not (.t 5))]) (.cond (.t 6) (.seq (.reg [o 2 (.mv (.c (.int .i64 0))), o 3 (.mv (.c (.bool false)))]) (.ret)) (.skip))) (.seq (.reg [o 7 (.fa 0 (.t 1)), o 8 (.ld 1 false (.t 7)), o 9 (.bin .shl (.t 8) (.c (.int .u64 28))), o 10 (.fa 1 (.t 1)), o 11 (.ld 1 false (.t 10)), o 12 (.bin .shl (.t 11) (.c (.int .u64 25))), o 13 (.bin .add (.t 9) (.t 12)), o 14 (.fa 2 (.t 1)), o 15 (.ld 1 false (.t 14)), o 16 (.bin .shl (.t 15) (.c (.int .u64 22))), o 17 (.bin .add (.t 13) (.t 16)), o 18 (.fa 3 (.t 1)), o 19 (.ld 1 false (.t 18)), o 20 (.bin .add (.t 17) (.t 19)), o 2 (.mv (.t 20)), o 3 (.mv (.c (.bool true)))]) (.ret)))⟩
def K_impl_Encode : Keeps := []
theorem r_impl_Encode : resolveF Tryd.prog Tryd.f24 K_impl_Encode = some F_impl_Encode := by kernel_rfl
def X_impl_Encode : Ctx := Ctx.cons 30 G_impl_InsOk (fun _ => none)
theorem co_impl_Encode : CtxOk Tryd.prog X_impl_Encode := CtxOk.cons (CtxOk.nil) ok_impl_InsOk
theorem cx_impl_Encode : (CX X_impl_Encode 30 G_impl_InsOk false) := cxI rfl rfl
def S_impl_Encode : ByV := ⟨none, false, semF X_impl_Encode F_impl_Encode none false⟩
def G_impl_Encode : CK := .byv S_impl_Encode
theorem sg_impl_Encode (args : List AV) : S_impl_Encode.sem args = semF X_impl_Encode F_impl_Encode none false args := rfl
theorem cl_impl_Encode (args hp) : callS G_impl_Encode args hp = byvS S_impl_Encode args hp := callS_byv rfl rfl args hp
theorem ok_impl_Encode : InlOk Tryd.prog 24 (callS G_impl_Encode) := byv_none co_impl_Encode Tryd.func24 r_impl_Encode rfl (fun _ _ h => h)
def F_impl_Decode : RF := ⟨24, 1, [.cell 2 4 true, .t 3],
  .seq (.reg [o 2 (.new [(.int .i64 0), (.int .i64 0), (.int .i64 0), (.int .i64 0)]), o 3 (.mv (.c (.bool false)))]) (.seq (.seq (.reg [o 5 (.mv (.t 0)), o 6 (.bin .lss (.t 5) (.c (.int .i64 0)))]) (.cond (.t 6) (.seq (.reg [o 7 (.build [(.int .i64 0), (.int .i64 0), (.int .i64 0), (.int .i64 0)] []), ⟨none, none, .st 4 (.t 2) (.t 7)⟩, o 3 (.mv (.c (.bool false)))]) (.ret)) (.skip))) (.seq (.reg [o 8 (.mv (.t 0)), o 9 (.bin .shr (.t 8) (.c (.int .u64 28))), o 10 (.mv (.t 0)), o 11 (.bin .shr (.t 10) (.c (.int .u64 25))), o 12 (.bin .and (.t 11) (.c (.int .i64 7))), o 13 (.mv (.t 0)), o 14 (.bin .shr (.t 13) (.c (.int .u64 22))), o 15 (.bin .and (.t 14) (.c (.int .i64 7))), o 16 (.mv (.t 0)), o 17 (.bin .and (.t 16) (.c (.int .i64 4194303))), o 18 (.build [(.int .i64 0), (.int .i64 0), (.int .i64 0), (.int .i64 0)] [(0, 1, (.t 9)), (1, 1, (.t 12)), (2, 1, (.t 15)), (3, 1, (.t 17))]), o 4 (.new [(.int .i64 0), (.int .i64 0), (.int .i64 0), (.int .i64 0)]), ⟨none, none, .st 4 (.t 4) (.t 18)⟩]) (.seq (.seq (.reg [o 19 (.ld 4 true (.t 4)), o 20 (.call 30 [(.t 19)]), o 21 (.un .not (.t 20))]) (.cond (.t 21) (.seq (.reg [o 22 (.build [(.int .i64 0), (.int .i64 0), (.int .i64 0), (.int .i64 0)] []), ⟨none, none, .st 4 (.t 2) (.t 22)⟩, o 3 (.mv (.c (.bool false)))]) (.ret)) (.skip))) (.seq (.reg [o 23 (.ld 4 true (.t 4)), ⟨none, none, .st 4 (.t 2) (.t 23)⟩, o 3 (.mv (.c (.bool true)))]) (.ret)))))⟩
def K_impl_Decode : Keeps := []
theorem r_impl_Decode : resolveF Tryd.prog Tryd.f25 K_impl_Decode = some F_impl_Decode := by kernel_rfl
def X_impl_Decode : Ctx := Ctx.cons 30 G_impl_InsOk (fun _ => none)
theorem co_impl_Decode : CtxOk Tryd.prog X_impl_Decode := CtxOk.cons (CtxOk.nil) ok_impl_InsOk
theorem cx_impl_Decode : (CX X_impl_Decode 30 G_impl_InsOk false) := cxI rfl rfl
def S_impl_Decode : ByV := ⟨none, false, semF X_impl_Decode F_impl_Decode none false⟩
def G_impl_Decode : CK := .byv S_impl_Decode
theorem sg_impl_Decode (args : List AV) : S_impl_Decode.sem args = semF X_impl_Decode F_impl_Decode none false args := rfl
theorem cl_impl_Decode (args hp) : callS G_impl_Decode args hp = byvS S_impl_Decode args hp := callS_byv rfl rfl args hp
theorem ok_impl_Decode : InlOk Tryd.prog 25 (callS G_impl_Decode) := byv_none co_impl_Decode Tryd.func25 r_impl_Decode rfl (fun _ _ h => h)
def F_spec_l01In : RF := ⟨15, 3, [.t 6],
  .seq (.reg [o 6 (.mv (.c (.bool false)))]) (.seq (.reg [o 7 (.mv (.t 0)), o 8 (.mv (.t 1)), o 9 (.bin .geq (.t 7) (.t 8)), o 10 (.mv (.t 9)), ⟨some 11, some (10, true), .mv (.t 0)⟩, ⟨some 12, some (10, true), .mv (.t 2)⟩, ⟨some 13, some (10, true), .bin .leq (.t 11) (.t 12)⟩, o 14 (.pick (.t 10) (.t 13) (.c (.bool false))), o 6 (.mv (.t 14))]) (.ret))⟩
def K_spec_l01In : Keeps := []
theorem r_spec_l01In : resolveF Tryd.prog Tryd.f50 K_spec_l01In = some F_spec_l01In := by kernel_rfl
def X_spec_l01In : Ctx := fun _ => none
theorem co_spec_l01In : CtxOk Tryd.prog X_spec_l01In := CtxOk.nil
theorem cx_spec_l01In : True := trivial
def S_spec_l01In : ByV := ⟨none, false, semF X_spec_l01In F_spec_l01In none false⟩
def G_spec_l01In : CK := .byv S_spec_l01In
theorem sg_spec_l01In (args : List AV) : S_spec_l01In.sem args = semF X_spec_l01In F_spec_l01In none false args := rfl
theorem cl_spec_l01In (args hp) : callS G_spec_l01In args hp = byvS S_spec_l01In args hp := callS_byv rfl rfl args hp
theorem ok_spec_l01In : InlOk Tryd.prog 50 (callS G_spec_l01In) := byv_none co_spec_l01In Tryd.func50 r_spec_l01In rfl (fun _ _ h => h)
def F_spec_InsOk : RF := ⟨71, 1, [.t 2],
  .seq (.reg [o 1 (.box (.t 0)), o 2 (.mv (.c (.bool false)))]) (.seq (.seq (.reg [o 3 (.fa 0 (.t 1)), o 4 (.ld 1 false (.t 3)), o 5 (.call 50 [(.t 4), (.c (.int .i64 1)), (.c (.int .i64 10))]), o 6 (.un .not (.t 5)), o 7 (.mv (.t 6)), ⟨some 8, some (7, false), .fa 1 (.t 1)⟩, ⟨some 9, some (7, false), .ld 1 false (.t 8)⟩, ⟨some 10, some (7, false), .call 50 [(.t 9), (.c (.int .i64 0)), (.c (.int .i64 7))]⟩, ⟨some 11, some (7, false), .un .not (.t 10)⟩, o 12 (.pick (.t 7) (.c (.bool true)) (.t 11)), o 13 (.mv (.t 12)), ⟨some 14, some (13, false), .fa 2 (.t 1)⟩, ⟨some 15, some (13, false), .ld 1 false (.t 14)⟩, ⟨some 16, some (13, false), .call 50 [(.t 15), (.c (.int .i64 0)), (.c (.int .i64 7))]⟩, ⟨some 17, some (13, false), .un .not (.t 16)⟩, o 18 (.pick (.t 13) (.c (.bool true)) (.t 17)), o 19 (.mv (.t 18)), ⟨some 20, some (19, false), .fa 3 (.t 1)⟩, ⟨some 21, some (19, false), .ld 1 false (.t 20)⟩, ⟨some 22, some (19, false), .call 50 [(.t 21), (.c (.int .i64 0)), (.c (.int .i64 4194303))]⟩, ⟨some 23, some (19, false), .un .not (.t 22)⟩, o 24 (.pick (.t 19) (.c (.bool true)) (.t 23))]) (.cond (.t 24) (.seq (.reg [o 2 (.mv (.c (.bool false)))]) (.ret)) (.skip))) (.seq (.seq (.reg [o 25 (.fa 0 (.t 1)), o 26 (.ld 1 false (.t 25)), o 27 (.bin .neq (.t 26) (.c (.int .i64 4))), o 28 (.mv (.t 27)), ⟨some 29, some (28, true), .fa 0 (.t 1)⟩, ⟨some 30, some (28, true), .ld 1 false (.t 29)⟩, ⟨some 31, some (28, true), .bin .neq (.t 30) (.c (.int .i64 10))⟩, o 32 (.pick (.t 28) (.t 31) (.c (.bool false))), o 33 (.mv (.t 32)), ⟨some 34, some (33, true), .fa 2 (.t 1)⟩, ⟨some 35, some (33, true), .ld 1 false (.t 34)⟩, ⟨some 36, some (33, true), .bin .neq (.t 35) (.c (.int .i64 0))⟩, o 37 (.pick (.t 33) (.t 36) (.c (.bool false)))]) (.cond (.t 37) (.seq (.reg [o 2 (.mv (.c (.bool false)))]) (.ret)) (.skip))) (.seq (.seq (.reg [o 38 (.fa 0 (.t 1)), o 39 (.ld 1 false (.t 38))]) (.block 0 (.seq (.reg [o 41 (.bin .eql (.t 39) (.c (.int .i64 1))), o 40 (.mv (.t 41))]) (.cond (.t 40) (.seq (.reg [o 42 (.fa 3 (.t 1)), o 43 (.ld 1 false (.t 42)), o 44 (.bin .leq (.t 43) (.c (.int .i64 1000000))), o 2 (.mv (.t 44))]) (.ret)) (.seq (.reg [o 46 (.bin .eql (.t 39) (.c (.int .i64 4))), o 45 (.mv (.t 46))]) (.cond (.t 45) (.seq (.reg [o 47 (.fa 3 (.t 1)), o 48 (.ld 1 false (.t 47)), o 49 (.call 50 [(.t 48), (.c (.int .i64 1)), (.c (.int .i64 9))]), o 2 (.mv (.t 49))]) (.ret)) (.seq (.seq (.reg [o 51 (.bin .eql (.t 39) (.c (.int .i64 5))), o 50 (.mv (.t 51))]) (.cond (.t 50) (.skip) (.reg [o 52 (.bin .eql (.t 39) (.c (.int .i64 6))), o 50 (.mv (.t 52))]))) (.cond (.t 50) (.seq (.reg [o 53 (.fa 3 (.t 1)), o 54 (.ld 1 false (.t 53)), o 55 (.bin .eql (.t 54) (.c (.int .i64 0))), o 2 (.mv (.t 55))]) (.ret)) (.seq (.reg [o 57 (.bin .eql (.t 39) (.c (.int .i64 8))), o 56 (.mv (.t 57))]) (.cond (.t 56) (.seq (.reg [o 58 (.fa 1 (.t 1)), o 59 (.ld 1 false (.t 58)), o 60 (.bin .eql (.t 59) (.c (.int .i64 0))), o 2 (.mv (.t 60))]) (.ret)) (.seq (.reg [o 62 (.bin .eql (.t 39) (.c (.int .i64 10))), o 61 (.mv (.t 62))]) (.cond (.t 61) (.seq (.reg [o 63 (.fa 1 (.t 1)), o 64 (.ld 1 false (.t 63)), o 65 (.call 50 [(.t 64), (.c (.int .i64 1)), (.c (.int .i64 7))]), o 66 (.mv (.t 65)), ⟨some 67, some (66, true), .fa 2 (.t 1)⟩, ⟨some 68, some (66, true), .ld 1 false (.t 67)⟩, ⟨some 69, some (66, true), .bin .eql (.t 68) (.c (.int .i64 0))⟩, o 70 (.pick (.t 66) (.t 69) (.c (.bool false))), o 2 (.mv (.t 70))]) (.ret)) (.skip))))))))))))) (.seq (.reg [o 2 (.mv (.c (.bool true)))]) (.ret)))))⟩
def K_spec_InsOk : Keeps := []
theorem r_spec_InsOk : resolveF Tryd.prog Tryd.f29 K_spec_InsOk = some F_spec_InsOk := by kernel_rfl
def X_spec_InsOk : Ctx := Ctx.cons 50 G_spec_l01In (fun _ => none)
theorem co_spec_InsOk : CtxOk Tryd.prog X_spec_InsOk := CtxOk.cons (CtxOk.nil) ok_spec_l01In
theorem cx_spec_InsOk : (CX X_spec_InsOk 50 G_spec_l01In false) := cxI rfl rfl
def S_spec_InsOk : ByV := ⟨none, false, semF X_spec_InsOk F_spec_InsOk none false⟩
def G_spec_InsOk : CK := .byv S_spec_InsOk
theorem sg_spec_InsOk (args : List AV) : S_spec_InsOk.sem args = semF X_spec_InsOk F_spec_InsOk none false args := rfl
theorem cl_spec_InsOk (args hp) : callS G_spec_InsOk args hp = byvS S_spec_InsOk args hp := callS_byv rfl rfl args hp
theorem ok_spec_InsOk : InlOk Tryd.prog 29 (callS G_spec_InsOk) := byv_none co_spec_InsOk Tryd.func29 r_spec_InsOk rfl (fun _ _ h => h)
def F_spec_Encode : RF := ⟨21, 1, [.t 2, .t 3],
  .seq (.reg [o 1 (.box (.t 0)), o 2 (.mv (.c (.int .i64 0))), o 3 (.mv (.c (.bool false)))]) (.seq (.seq (.reg [o 4 (.ld 4 true (.t 1)), o 5 (.call 29 [(.t 4)]), o 6 (.un .not (.t 5))]) (.cond (.t 6) (.seq (.reg [o 2 (.mv (.c (.int .i64 0))), o 3 (.mv (.c (.bool false)))]) (.ret)) (.skip))) (.seq (.reg [o 7 (.fa 0 (.t 1)), o 8 (.ld 1 false (.t 7)), o 9 (.bin .shl (.t 8) (.c (.int .u64 28))), o 10 (.fa 1 (.t 1)), o 11 (.ld 1 false (.t 10)), o 12 (.bin .shl (.t 11) (.c (.int .u64 25))), o 13 (.bin .add (.t 9) (.t 12)), o 14 (.fa 2 (.t 1)), o 15 (.ld 1 false (.t 14)), o 16 (.bin .shl (.t 15) (.c (.int .u64 22))), o 17 (.bin .add (.t 13) (.t 16)), o 18 (.fa 3 (.t 1)), o 19 (.ld 1 false (.t 18)), o 20 (.bin .add (.t 17) (.t 19)), o 2 (.mv (.t 20)), o 3 (.mv (.c (.bool true)))]) (.ret)))⟩
def K_spec_Encode : Keeps := []
theorem r_spec_Encode : resolveF Tryd.prog Tryd.f48 K_spec_Encode = some F_spec_Encode := by kernel_rfl
def X_spec_Encode : Ctx := Ctx.cons 29 G_spec_InsOk (fun _ => none)
theorem co_spec_Encode : CtxOk Tryd.prog X_spec_Encode := CtxOk.cons (CtxOk.nil) ok_spec_InsOk
theorem cx_spec_Encode : (CX X_spec_Encode 29 G_spec_InsOk false) := cxI rfl rfl
def S_spec_Encode : ByV := ⟨none, false, semF X_spec_Encode F_spec_Encode none false⟩
def G_spec_Encode : CK := .byv S_spec_Encode
theorem sg_spec_Encode (args : List AV) : S_spec_Encode.sem args = semF X_spec_Encode F_spec_Encode none false args := rfl
theorem cl_spec_Encode (args hp) : callS G_spec_Encode args hp = byvS S_spec_Encode args hp := callS_byv rfl rfl args hp
theorem ok_spec_Encode : InlOk Tryd.prog 48 (callS G_spec_Encode) := byv_none co_spec_Encode Tryd.func48 r_spec_Encode rfl (fun _ _ h => h)
def F_spec_DrawDecode : RF := ⟨31, 1, [.t 2],
  .seq (.reg [o 2 (.mv (.c (.int .i64 0)))]) (.seq (.reg [o 7 (.mv (.t 0)), o 8 (.call 46 [(.t 7)]), o 3 (.mv (.t 8))]) (.seq (.reg [o 9 (.mv (.t 3)), o 10 (.call 47 [(.t 9), (.c (.int .i64 4))]), o 4 (.mv (.t 10))]) (.seq (.reg [o 12 (.mv (.t 3)), o 13 (.call 45 [(.t 12)]), o 14 (.call 48 [(.t 13)]), o 11 (.mv (.t 14)), o 15 (.ex (.t 11) 0), o 16 (.ex (.t 11) 1), o 5 (.mv (.t 15)), o 6 (.mv (.t 16))]) (.seq (.seq (.reg [o 17 (.mv (.t 4)), o 18 (.bin .eql (.t 17) (.c (.int .i64 0)))]) (.cond (.t 18) (.seq (.reg [o 19 (.mv (.t 3)), o 20 (.bsl 1 [(.c (.int .i64 0)), (.c (.int .i64 (-1))), (.c (.int .i64 8589934592)), (.c (.int .i64 9223372036854775807)), (.c (.int .i64 268435456))]), o 21 (.call 49 [(.t 19), (.t 20)]), o 2 (.mv (.t 21))]) (.ret)) (.skip))) (.seq (.seq (.reg [o 22 (.mv (.t 4)), o 23 (.bin .eql (.t 22) (.c (.int .i64 1)))]) (.cond (.t 23) (.seq (.reg [o 24 (.mv (.t 5)), o 25 (.mv (.t 3)), o 26 (.call 47 [(.t 25), (.c (.int .i64 34))]), o 27 (.cvi .u64 (.t 26)), o 28 (.bin .shl (.c (.int .i64 1)) (.t 27)), o 29 (.bin .add (.t 24) (.t 28)), o 2 (.mv (.t 29))]) (.ret)) (.skip))) (.seq (.reg [o 30 (.mv (.t 5)), o 2 (.mv (.t 30))]) (.ret)))))))⟩
def K_spec_DrawDecode : Keeps := []
theorem r_spec_DrawDecode : resolveF Tryd.prog Tryd.f26 K_spec_DrawDecode = some F_spec_DrawDecode := by kernel_rfl
def X_spec_DrawDecode : Ctx := Ctx.cons 46 G_spec_l01New (Ctx.cons 47 G_spec_l01Below (Ctx.cons 45 G_spec_l14Any (Ctx.cons 48 G_spec_Encode (Ctx.cons 49 G_spec_l01PickInt (fun _ => none)))))
theorem co_spec_DrawDecode : CtxOk Tryd.prog X_spec_DrawDecode := CtxOk.cons (CtxOk.cons (CtxOk.cons (CtxOk.cons (CtxOk.cons (CtxOk.nil) ok_spec_l01PickInt) ok_spec_Encode) ok_spec_l14Any) ok_spec_l01Below) ok_spec_l01New
theorem cx_spec_DrawDecode : (CX X_spec_DrawDecode 46 G_spec_l01New true) ∧ (CX X_spec_DrawDecode 47 G_spec_l01Below true) ∧ (CX X_spec_DrawDecode 45 G_spec_l14Any true) ∧ (CX X_spec_DrawDecode 48 G_spec_Encode false) ∧ (CX X_spec_DrawDecode 49 G_spec_l01PickInt true) := ⟨cxI rfl rfl, cxI rfl rfl, cxI rfl rfl, cxI rfl rfl, cxI rfl rfl⟩
def S_spec_DrawDecode : ByV := ⟨none, false, semF X_spec_DrawDecode F_spec_DrawDecode none false⟩
def G_spec_DrawDecode : CK := .byv S_spec_DrawDecode
theorem sg_spec_DrawDecode (args : List AV) : S_spec_DrawDecode.sem args = semF X_spec_DrawDecode F_spec_DrawDecode none false args := rfl
theorem cl_spec_DrawDecode (args hp) : callS G_spec_DrawDecode args hp = byvS S_spec_DrawDecode args hp := callS_byv rfl rfl args hp
theorem ok_spec_DrawDecode : InlOk Tryd.prog 26 (callS G_spec_DrawDecode) := byv_none co_spec_DrawDecode Tryd.func26 r_spec_DrawDecode rfl (fun _ _ h => h)
def F_spec_Decode : RF := ⟨25, 1, [.cell 2 4 true, .t 3],
  .seq (.reg [o 2 (.new [(.int .i64 0), (.int .i64 0), (.int .i64 0), (.int .i64 0)]), o 3 (.mv (.c (.bool false)))]) (.seq (.seq (.reg [o 5 (.mv (.t 0)), o 6 (.call 50 [(.t 5), (.c (.int .i64 0)), (.c (.int .i64 8589934592))]), o 7 (.un .not (.t 6))]) (.cond (.t 7) (.seq (.reg [o 8 (.build [(.int .i64 0), (.int .i64 0), (.int .i64 0), (.int .i64 0)] []), ⟨none, none, .st 4 (.t 2) (.t 8)⟩, o 3 (.mv (.c (.bool false)))]) (.ret)) (.skip))) (.seq (.reg [o 9 (.mv (.t 0)), o 10 (.bin .shr (.t 9) (.c (.int .u64 28))), o 11 (.mv (.t 0)), o 12 (.bin .shr (.t 11) (.c (.int .u64 25))), o 13 (.bin .and (.t 12) (.c (.int .i64 7))), o 14 (.mv (.t 0)), o 15 (.bin .shr (.t 14) (.c (.int .u64 22))), o 16 (.bin .and (.t 15) (.c (.int .i64 7))), o 17 (.mv (.t 0)), o 18 (.bin .and (.t 17) (.c (.int .i64 4194303))), o 19 (.build [(.int .i64 0), (.int .i64 0), (.int .i64 0), (.int .i64 0)] [(0, 1, (.t 10)), (1, 1, (.t 13)), (2, 1, (.t 16)), (3, 1, (.t 18))]), o 4 (.new [(.int .i64 0), (.int .i64 0), (.int .i64 0), (.int .i64 0)]), ⟨none, none, .st 4 (.t 4) (.t 19)⟩]) (.seq (.seq (.reg [o 20 (.ld 4 true (.t 4)), o 21 (.call 29 [(.t 20)]), o 22 (.un .not (.t 21))]) (.cond (.t 22) (.seq (.reg [o 23 (.build [(.int .i64 0), (.int .i64 0), (.int .i64 0), (.int .i64 0)] []), ⟨none, none, .st 4 (.t 2) (.t 23)⟩, o 3 (.mv (.c (.bool false)))]) (.ret)) (.skip))) (.seq (.reg [o 24 (.ld 4 true (.t 4)), ⟨none, none, .st 4 (.t 2) (.t 24)⟩, o 3 (.mv (.c (.bool true)))]) (.ret)))))⟩
def K_spec_Decode : Keeps := []
theorem r_spec_Decode : resolveF Tryd.prog Tryd.f27 K_spec_Decode = some F_spec_Decode := by kernel_rfl
def X_spec_Decode : Ctx := Ctx.cons 50 G_spec_l01In (Ctx.cons 29 G_spec_InsOk (fun _ => none))
theorem co_spec_Decode : CtxOk Tryd.prog X_spec_Decode := CtxOk.cons (CtxOk.cons (CtxOk.nil) ok_spec_InsOk) ok_spec_l01In
theorem cx_spec_Decode : (CX X_spec_Decode 50 G_spec_l01In false) ∧ (CX X_spec_Decode 29 G_spec_InsOk false) := ⟨cxI rfl rfl, cxI rfl rfl⟩
def S_spec_Decode : ByV := ⟨none, false, semF X_spec_Decode F_spec_Decode none false⟩
def G_spec_Decode : CK := .byv S_spec_Decode
theorem sg_spec_Decode (args : List AV) : S_spec_Decode.sem args = semF X_spec_Decode F_spec_Decode none false args := rfl
theorem cl_spec_Decode (args hp) : callS G_spec_Decode args hp = byvS S_spec_Decode args hp := callS_byv rfl rfl args hp
theorem ok_spec_Decode : InlOk Tryd.prog 27 (callS G_spec_Decode) := byv_none co_spec_Decode Tryd.func27 r_spec_Decode rfl (fun _ _ h => h)
def F_spec_DrawIns : RF := ⟨6, 1, [.cell 2 4 true],
  .seq (.reg [o 2 (.new [(.int .i64 0), (.int .i64 0), (.int .i64 0), (.int .i64 0)])]) (.seq (.reg [o 3 (.mv (.t 0)), o 4 (.call 46 [(.t 3)]), o 5 (.call 51 [(.t 4)]), ⟨none, none, .st 4 (.t 2) (.t 5)⟩]) (.ret))⟩
def K_spec_DrawIns : Keeps := []
theorem r_spec_DrawIns : resolveF Tryd.prog Tryd.f28 K_spec_DrawIns = some F_spec_DrawIns := by kernel_rfl
def X_spec_DrawIns : Ctx := Ctx.cons 46 G_spec_l01New (Ctx.cons 51 G_spec_l14Ins (fun _ => none))
theorem co_spec_DrawIns : CtxOk Tryd.prog X_spec_DrawIns := CtxOk.cons (CtxOk.cons (CtxOk.nil) ok_spec_l14Ins) ok_spec_l01New
theorem cx_spec_DrawIns : (CX X_spec_DrawIns 46 G_spec_l01New true) ∧ (CX X_spec_DrawIns 51 G_spec_l14Ins true) := ⟨cxI rfl rfl, cxI rfl rfl⟩
def S_spec_DrawIns : ByV := ⟨none, false, semF X_spec_DrawIns F_spec_DrawIns none false⟩
def G_spec_DrawIns : CK := .byv S_spec_DrawIns
theorem sg_spec_DrawIns (args : List AV) : S_spec_DrawIns.sem args = semF X_spec_DrawIns F_spec_DrawIns none false args := rfl
theorem cl_spec_DrawIns (args hp) : callS G_spec_DrawIns args hp = byvS S_spec_DrawIns args hp := callS_byv rfl rfl args hp
theorem ok_spec_DrawIns : InlOk Tryd.prog 28 (callS G_spec_DrawIns) := byv_none co_spec_DrawIns Tryd.func28 r_spec_DrawIns rfl (fun _ _ h => h)
def G_strconv_Itoa : CK := .inl itoaG
theorem cl_strconv_Itoa (args hp) : callS G_strconv_Itoa args hp = itoaG args hp := rfl
theorem ok_strconv_Itoa : InlOk Tryd.prog 54 (callS G_strconv_Itoa) := inl_itoa ⟨_, Tryd.func54, by kernel_rfl, by kernel_rfl⟩ (fun n w h h0 h1 => Tryd.strconv_Itoa n h0 h1 w (tabI h))
def F_impl_Decimal : RF := ⟨5, 1, [.t 2],
  .seq (.reg [o 2 (.mv (.c (.str ⟨#[]⟩)))]) (.seq (.reg [o 3 (.mv (.t 0)), o 4 (.call 54 [(.t 3)]), o 2 (.mv (.t 4))]) (.ret))⟩
def K_impl_Decimal : Keeps := []
theorem r_impl_Decimal : resolveF Tryd.prog Tryd.f32 K_impl_Decimal = some F_impl_Decimal := by kernel_rfl
def X_impl_Decimal : Ctx := Ctx.cons 54 G_strconv_Itoa (fun _ => none)
theorem co_impl_Decimal : CtxOk Tryd.prog X_impl_Decimal := CtxOk.cons (CtxOk.nil) ok_strconv_Itoa
theorem cx_impl_Decimal : (CX X_impl_Decimal 54 G_strconv_Itoa true) := cxI rfl rfl
def S_impl_Decimal : ByV := ⟨none, false, semF X_impl_Decimal F_impl_Decimal none false⟩
def G_impl_Decimal : CK := .byv S_impl_Decimal
theorem sg_impl_Decimal (args : List AV) : S_impl_Decimal.sem args = semF X_impl_Decimal F_impl_Decimal none false args := rfl
theorem cl_impl_Decimal (args hp) : callS G_impl_Decimal args hp = byvS S_impl_Decimal args hp := callS_byv rfl rfl args hp
theorem ok_impl_Decimal : InlOk Tryd.prog 32 (callS G_impl_Decimal) := byv_none co_impl_Decimal Tryd.func32 r_impl_Decimal rfl (fun _ _ h => h)
def F_impl_ShowIns : RF := ⟨24, 1, [.t 2],
  .seq (.reg [o 1 (.box (.t 0)), o 2 (.mv (.c (.str ⟨#[]⟩)))]) (.seq (.seq (.reg [o 3 (.ld 4 true (.t 1)), o 4 (.call 30 [(.t 3)]), o 5 (.un .not (.t 4))]) (.cond (.t 5) (.seq (.reg [o 2 (.mv (.c (.str ⟨#[]⟩)))]) (.ret)) (.skip))) (.seq (.regd [(0, o 6 (.fa 0 (.t 1))), (1, o 7 (.ld 1 false (.t 6))), (2, o 8 (.call 32 [(.t 7)])), (0, o 9 (.bin .add (.t 8) (.c (.str ⟨#[32]⟩)))), (0, o 10 (.fa 1 (.t 1))), (2, o 11 (.ld 1 false (.t 10))), (2, o 12 (.call 32 [(.t 11)])), (0, o 13 (.bin .add (.t 9) (.t 12))), (0, o 14 (.bin .add (.t 13) (.c (.str ⟨#[32]⟩)))), (0, o 15 (.fa 2 (.t 1))), (2, o 16 (.ld 1 false (.t 15))), (2, o 17 (.call 32 [(.t 16)])), (0, o 18 (.bin .add (.t 14) (.t 17))), (0, o 19 (.bin .add (.t 18) (.c (.str ⟨#[32]⟩)))), (0, o 20 (.fa 3 (.t 1))), (2, o 21 (.ld 1 false (.t 20))), (1, o 22 (.call 32 [(.t 21)])), (0, o 23 (.bin .add (.t 19) (.t 22))), (0, o 2 (.mv (.t 23)))] [(2, 5), (2, 10), (6, 10), (2, 15), (6, 15), (11, 15)]) (.ret)))⟩
def K_impl_ShowIns : Keeps := []
theorem r_impl_ShowIns : resolveF Tryd.prog Tryd.f9 K_impl_ShowIns = some F_impl_ShowIns := by kernel_rfl
def X_impl_ShowIns : Ctx := Ctx.cons 30 G_impl_InsOk (Ctx.cons 32 G_impl_Decimal (fun _ => none))
theorem co_impl_ShowIns : CtxOk Tryd.prog X_impl_ShowIns := CtxOk.cons (CtxOk.cons (CtxOk.nil) ok_impl_Decimal) ok_impl_InsOk
theorem cx_impl_ShowIns : (CX X_impl_ShowIns 30 G_impl_InsOk false) ∧ (CX X_impl_ShowIns 32 G_impl_Decimal false) := ⟨cxI rfl rfl, cxI rfl rfl⟩
def S_impl_ShowIns : ByV := ⟨none, false, semF X_impl_ShowIns F_impl_ShowIns none false⟩
def G_impl_ShowIns : CK := .byv S_impl_ShowIns
theorem sg_impl_ShowIns (args : List AV) : S_impl_ShowIns.sem args = semF X_impl_ShowIns F_impl_ShowIns none false args := rfl
theorem cl_impl_ShowIns (args hp) : callS G_impl_ShowIns args hp = byvS S_impl_ShowIns args hp := callS_byv rfl rfl args hp
theorem ok_impl_ShowIns : InlOk Tryd.prog 9 (callS G_impl_ShowIns) := byv_none co_impl_ShowIns Tryd.func9 r_impl_ShowIns rfl (fun _ _ h => h)
def F_spec_l01Figure : RF := ⟨12, 1, [.t 2],
  .seq (.reg [o 2 (.mv (.c (.int .u8 0)))]) (.seq (.seq (.reg [o 3 (.mv (.t 0)), o 4 (.bin .lss (.t 3) (.c (.int .i64 10)))]) (.cond (.t 4) (.seq (.reg [o 5 (.mv (.t 0)), o 6 (.bin .add (.c (.int .i64 48)) (.t 5)), o 7 (.cvi .u8 (.t 6)), o 2 (.mv (.t 7))]) (.ret)) (.skip))) (.seq (.reg [o 8 (.mv (.t 0)), o 9 (.bin .add (.c (.int .i64 97)) (.t 8)), o 10 (.bin .sub (.t 9) (.c (.int .i64 10))), o 11 (.cvi .u8 (.t 10)), o 2 (.mv (.t 11))]) (.ret)))⟩
def K_spec_l01Figure : Keeps := []
theorem r_spec_l01Figure : resolveF Tryd.prog Tryd.f53 K_spec_l01Figure = some F_spec_l01Figure := by kernel_rfl
def X_spec_l01Figure : Ctx := fun _ => none
theorem co_spec_l01Figure : CtxOk Tryd.prog X_spec_l01Figure := CtxOk.nil
theorem cx_spec_l01Figure : True := trivial
def S_spec_l01Figure : ByV := ⟨none, false, semF X_spec_l01Figure F_spec_l01Figure none false⟩
def G_spec_l01Figure : CK := .byv S_spec_l01Figure
theorem sg_spec_l01Figure (args : List AV) : S_spec_l01Figure.sem args = semF X_spec_l01Figure F_spec_l01Figure none false args := rfl
theorem cl_spec_l01Figure (args hp) : callS G_spec_l01Figure args hp = byvS S_spec_l01Figure args hp := callS_byv rfl rfl args hp
theorem ok_spec_l01Figure : InlOk Tryd.prog 53 (callS G_spec_l01Figure) := byv_none co_spec_l01Figure Tryd.func53 r_spec_l01Figure rfl (fun _ _ h => h)
def B0_spec_Decimal : RC :=
  .seq (.seq (.reg [o 10 (.mv (.t 0)), o 11 (.bin .neq (.t 10) (.c (.int .i64 0)))]) (.cond (.t 11) (.skip) (.exit 0))) (.block 1 (.seq (.reg [o 12 (.mv (.t 0)), o 13 (.bin .rem (.t 12) (.c (.int .i64 10))), o 5 (.mv (.t 13))]) (.seq (.seq (.reg [o 14 (.mv (.t 5)), o 15 (.bin .lss (.t 14) (.c (.int .i64 0)))]) (.cond (.t 15) (.reg [o 16 (.mv (.t 5)), o 17 (.un .neg (.t 16)), o 5 (.mv (.t 17))]) (.skip))) (.seq (.reg [o 18 (.mv (.t 5)), o 19 (.call 53 [(.t 18)]), o 20 (.bsl 1 [(.t 19)]), o 21 (.b2s (.t 20)), o 22 (.mv (.t 4)), o 23 (.bin .add (.t 21) (.t 22)), o 4 (.mv (.t 23))]) (.reg [o 24 (.mv (.t 0)), o 25 (.bin .quo (.t 24) (.c (.int .i64 10))), o 0 (.mv (.t 25))])))))
def F_spec_Decimal : RF := ⟨30, 1, [.t 2],
  .seq (.reg [o 2 (.mv (.c (.str ⟨#[]⟩)))]) (.seq (.seq (.reg [o 6 (.mv (.t 0)), o 7 (.bin .eql (.t 6) (.c (.int .i64 0)))]) (.cond (.t 7) (.seq (.reg [o 2 (.mv (.c (.str ⟨#[48]⟩)))]) (.ret)) (.skip))) (.seq (.reg [o 8 (.mv (.t 0)), o 9 (.bin .lss (.t 8) (.c (.int .i64 0))), o 3 (.mv (.t 9))]) (.seq (.reg [o 4 (.mv (.c (.str ⟨#[]⟩)))]) (.seq (.block 0 (.loop [0, 3, 4] [(1, [3, 4])] B0_spec_Decimal)) (.seq (.seq (.reg [o 26 (.mv (.t 3))]) (.cond (.t 26) (.seq (.reg [o 27 (.mv (.t 4)), o 28 (.bin .add (.c (.str ⟨#[45]⟩)) (.t 27)), o 2 (.mv (.t 28))]) (.ret)) (.skip))) (.seq (.reg [o 29 (.mv (.t 4)), o 2 (.mv (.t 29))]) (.ret)))))))⟩
def K_spec_Decimal : Keeps := [([0, 3, 4], [(1, [3, 4])])]
theorem r_spec_Decimal : resolveF Tryd.prog Tryd.f31 K_spec_Decimal = some F_spec_Decimal := by kernel_rfl
def X_spec_Decimal : Ctx := Ctx.cons 53 G_spec_l01Figure (fun _ => none)
theorem co_spec_Decimal : CtxOk Tryd.prog X_spec_Decimal := CtxOk.cons (CtxOk.nil) ok_spec_l01Figure
theorem cx_spec_Decimal : (CX X_spec_Decimal 53 G_spec_l01Figure false) := cxI rfl rfl
def S_spec_Decimal : ByV := ⟨none, false, semF X_spec_Decimal F_spec_Decimal none false⟩
def G_spec_Decimal : CK := .byv S_spec_Decimal
theorem sg_spec_Decimal (args : List AV) : S_spec_Decimal.sem args = semF X_spec_Decimal F_spec_Decimal none false args := rfl
theorem cl_spec_Decimal (args hp) : callS G_spec_Decimal args hp = byvS S_spec_Decimal args hp := callS_byv rfl rfl args hp
theorem ok_spec_Decimal : InlOk Tryd.prog 31 (callS G_spec_Decimal) := byv_none co_spec_Decimal Tryd.func31 r_spec_Decimal rfl (fun _ _ h => h)
def F_spec_ShowIns : RF := ⟨24, 1, [.t 2],
  .seq (.reg [o 1 (.box (.t 0)), o 2 (.mv (.c (.str ⟨#[]⟩)))]) (.seq (.seq (.reg [o 3 (.ld 4 true (.t 1)), o 4 (.call 29 [(.t 3)]), o 5 (.un .not (.t 4))]) (.cond (.t 5) (.seq (.reg [o 2 (.mv (.c (.str ⟨#[]⟩)))]) (.ret)) (.skip))) (.seq (.regd [(0, o 6 (.fa 0 (.t 1))), (1, o 7 (.ld 1 false (.t 6))), (2, o 8 (.call 31 [(.t 7)])), (0, o 9 (.bin .add (.t 8) (.c (.str ⟨#[32]⟩)))), (0, o 10 (.fa 1 (.t 1))), (2, o 11 (.ld 1 false (.t 10))), (2, o 12 (.call 31 [(.t 11)])), (0, o 13 (.bin .add (.t 9) (.t 12))), (0, o 14 (.bin .add (.t 13) (.c (.str ⟨#[32]⟩)))), (0, o 15 (.fa 2 (.t 1))), (2, o 16 (.ld 1 false (.t 15))), (2, o 17 (.call 31 [(.t 16)])), (0, o 18 (.bin .add (.t 14) (.t 17))), (0, o 19 (.bin .add (.t 18) (.c (.str ⟨#[32]⟩)))), (0, o 20 (.fa 3 (.t 1))), (2, o 21 (.ld 1 false (.t 20))), (1, o 22 (.call 31 [(.t 21)])), (0, o 23 (.bin .add (.t 19) (.t 22))), (0, o 2 (.mv (.t 23)))] [(2, 5), (2, 10), (6, 10), (2, 15), (6, 15), (11, 15)]) (.ret)))⟩
def K_spec_ShowIns : Keeps := []
theorem r_spec_ShowIns : resolveF Tryd.prog Tryd.f7 K_spec_ShowIns = some F_spec_ShowIns := by kernel_rfl
def X_spec_ShowIns : Ctx := Ctx.cons 29 G_spec_InsOk (Ctx.cons 31 G_spec_Decimal (fun _ => none))
theorem co_spec_ShowIns : CtxOk Tryd.prog X_spec_ShowIns := CtxOk.cons (CtxOk.cons (CtxOk.nil) ok_spec_Decimal) ok_spec_InsOk
theorem cx_spec_ShowIns : (CX X_spec_ShowIns 29 G_spec_InsOk false) ∧ (CX X_spec_ShowIns 31 G_spec_Decimal false) := ⟨cxI rfl rfl, cxI rfl rfl⟩
def S_spec_ShowIns : ByV := ⟨none, false, semF X_spec_ShowIns F_spec_ShowIns none false⟩
def G_spec_ShowIns : CK := .byv S_spec_ShowIns
theorem sg_spec_ShowIns (args : List AV) : S_spec_ShowIns.sem args = semF X_spec_ShowIns F_spec_ShowIns none false args := rfl
theorem cl_spec_ShowIns (args hp) : callS G_spec_ShowIns args hp = byvS S_spec_ShowIns args hp := callS_byv rfl rfl args hp
theorem ok_spec_ShowIns : InlOk Tryd.prog 7 (callS G_spec_ShowIns) := byv_none co_spec_ShowIns Tryd.func7 r_spec_ShowIns rfl (fun _ _ h => h)
def F_laws_FnWords : RF := ⟨113, 1, [.t 2],
  .seq (.reg [o 2 (.mv (.c (.bool false)))]) (.seq (.seq (.reg [o 18 (.mv (.t 0)), o 19 (.call 22 [(.t 18)])]) (.cond (.t 19) (.seq (.reg [o 2 (.mv (.c (.bool true)))]) (.ret)) (.skip))) (.seq (.reg [o 20 (.mv (.t 0)), o 21 (.call 23 [(.t 20)]), o 3 (.new [(.int .i64 0), (.int .i64 0), (.int .i64 0), (.int .i64 0)]), ⟨none, none, .st 4 (.t 3) (.t 21)⟩]) (.seq (.reg [o 23 (.ld 4 true (.t 3)), o 24 (.call 24 [(.t 23)]), o 22 (.mv (.t 24)), o 25 (.ex (.t 22) 0), o 26 (.ex (.t 22) 1), o 4 (.mv (.t 25)), o 5 (.mv (.t 26))]) (.seq (.reg [o 28 (.mv (.t 4)), o 29 (.call 25 [(.t 28)]), o 27 (.mv (.t 29)), o 30 (.ex (.t 27) 0), o 31 (.ex (.t 27) 1), o 6 (.new [(.int .i64 0), (.int .i64 0), (.int .i64 0), (.int .i64 0)]), ⟨none, none, .st 4 (.t 6) (.t 30)⟩, o 7 (.mv (.t 31))]) (.seq (.reg [o 32 (.mv (.t 0)), o 33 (.call 26 [(.t 32)]), o 8 (.mv (.t 33))]) (.seq (.reg [o 35 (.mv (.t 8)), o 36 (.call 25 [(.t 35)]), o 34 (.mv (.t 36)), o 37 (.ex (.t 34) 0), o 38 (.ex (.t 34) 1), o 9 (.new [(.int .i64 0), (.int .i64 0), (.int .i64 0), (.int .i64 0)]), ⟨none, none, .st 4 (.t 9) (.t 37)⟩, o 10 (.mv (.t 38))]) (.seq (.reg [o 40 (.mv (.t 8)), o 41 (.call 27 [(.t 40)]), o 39 (.mv (.t 41)), o 42 (.ex (.t 39) 0), o 43 (.ex (.t 39) 1), o 11 (.new [(.int .i64 0), (.int .i64 0), (.int .i64 0), (.int .i64 0)]), ⟨none, none, .st 4 (.t 11) (.t 42)⟩, o 12 (.mv (.t 43))]) (.seq (.reg [o 45 (.ld 4 true (.t 9)), o 46 (.call 24 [(.t 45)]), o 44 (.mv (.t 46)), o 47 (.ex (.t 44) 0), o 48 (.ex (.t 44) 1), o 13 (.mv (.t 47)), o 14 (.mv (.t 48))]) (.seq (.reg [o 49 (.mv (.t 0)), o 50 (.call 28 [(.t 49)]), o 15 (.new [(.int .i64 0), (.int .i64 0), (.int .i64 0), (.int .i64 0)]), ⟨none, none, .st 4 (.t 15) (.t 50)⟩]) (.seq (.reg [o 52 (.ld 4 true (.t 15)), o 53 (.call 24 [(.t 52)]), o 51 (.mv (.t 53)), o 54 (.ex (.t 51) 0), o 55 (.ex (.t 51) 1), o 16 (.mv (.t 54)), o 17 (.mv (.t 55))]) (.seq (.regd [(0, o 56 (.mv (.t 5))), (1, o 57 (.ld 4 true (.t 3))), (1, o 58 (.call 29 [(.t 57)])), (0, o 59 (.bib .eql (.t 56) (.t 58))), (0, o 60 (.mv (.t 59))), (1, ⟨some 61, some (60, true), .ld 4 true (.t 3)⟩), (1, ⟨some 62, some (60, true), .call 30 [(.t 61)]⟩), (0, ⟨some 63, some (60, true), .mv (.t 5)⟩), (0, ⟨some 64, some (60, true), .bib .eql (.t 62) (.t 63)⟩), (0, o 65 (.pick (.t 60) (.t 64) (.c (.bool false)))), (0, o 66 (.mv (.t 65))), (0, ⟨some 67, some (66, true), .mv (.t 5)⟩), (0, ⟨some 68, some (66, true), .un .not (.t 67)⟩), (0, ⟨some 69, some (66, true), .mv (.t 68)⟩), (0, ⟨some 70, some (69, false), .mv (.t 7)⟩), (0, ⟨some 71, some (69, false), .mv (.t 70)⟩), (1, ⟨some 72, some (71, true), .ld 4 true (.t 6)⟩), (1, ⟨some 73, some (71, true), .ld 4 true (.t 3)⟩), (0, ⟨some 74, some (71, true), .eqs false [(0, 1), (1, 1), (2, 1), (3, 1)] (.t 72) (.t 73)⟩), (0, ⟨some 75, some (69, false), .pick (.t 71) (.t 74) (.c (.bool false))⟩), (0, ⟨some 76, some (66, true), .pick (.t 69) (.c (.bool true)) (.t 75)⟩), (0, o 77 (.pick (.t 66) (.t 76) (.c (.bool false)))), (0, o 78 (.mv (.t 77))), (0, ⟨some 79, some (78, true), .mv (.t 10)⟩), (0, ⟨some 80, some (78, true), .mv (.t 12)⟩), (0, ⟨some 81, some (78, true), .bib .eql (.t 79) (.t 80)⟩), (0, o 82 (.pick (.t 78) (.t 81) (.c (.bool false)))), (0, o 83 (.mv (.t 82))), (0, ⟨some 84, some (83, true), .mv (.t 10)⟩), (0, ⟨some 85, some (83, true), .un .not (.t 84)⟩), (0, ⟨some 86, some (83, true), .mv (.t 85)⟩), (0, ⟨some 87, some (86, false), .mv (.t 13)⟩), (0, ⟨some 88, some (86, false), .mv (.t 8)⟩), (0, ⟨some 89, some (86, false), .bin .eql (.t 87) (.t 88)⟩), (0, ⟨some 90, some (83, true), .pick (.t 86) (.c (.bool true)) (.t 89)⟩), (0, o 91 (.pick (.t 83) (.t 90) (.c (.bool false)))), (0, o 92 (.mv (.t 91))), (1, ⟨some 93, some (92, true), .ld 4 true (.t 15)⟩), (1, ⟨some 94, some (92, true), .ld 4 true (.t 3)⟩), (0, ⟨some 95, some (92, true), .eqs false [(0, 1), (1, 1), (2, 1), (3, 1)] (.t 93) (.t 94)⟩), (0, ⟨some 96, some (92, true), .mv (.t 95)⟩), (0, ⟨some 97, some (96, false), .mv (.t 5)⟩), (0, ⟨some 98, some (96, false), .un .not (.t 97)⟩), (0, ⟨some 99, some (92, true), .pick (.t 96) (.c (.bool true)) (.t 98)⟩), (0, ⟨some 100, some (92, true), .mv (.t 99)⟩), (0, ⟨some 101, some (100, false), .mv (.t 16)⟩), (0, ⟨some 102, some (100, false), .mv (.t 4)⟩), (0, ⟨some 103, some (100, false), .bin .neq (.t 101) (.t 102)⟩), (0, ⟨some 104, some (92, true), .pick (.t 100) (.c (.bool true)) (.t 103)⟩), (0, o 105 (.pick (.t 92) (.t 104) (.c (.bool false)))), (0, o 106 (.mv (.t 105))), (1, ⟨some 107, some (106, true), .ld 4 true (.t 3)⟩), (2, ⟨some 108, some (106, true), .call 9 [(.t 107)]⟩), (2, ⟨some 109, some (106, true), .ld 4 true (.t 3)⟩), (1, ⟨some 110, some (106, true), .call 7 [(.t 109)]⟩), (0, ⟨some 111, some (106, true), .bin .eql (.t 108) (.t 110)⟩), (0, o 112 (.pick (.t 106) (.t 111) (.c (.bool false)))), (0, o 2 (.mv (.t 112)))] [(52, 53)]) (.ret))))))))))))⟩
def K_laws_FnWords : Keeps := []
theorem r_laws_FnWords : resolveF Tryd.prog Tryd.f6 K_laws_FnWords = some F_laws_FnWords := by kernel_rfl
def X_laws_FnWords : Ctx := Ctx.cons 22 G_laws_big (Ctx.cons 23 G_spec_DrawEncode (Ctx.cons 24 G_impl_Encode (Ctx.cons 25 G_impl_Decode (Ctx.cons 26 G_spec_DrawDecode (Ctx.cons 27 G_spec_Decode (Ctx.cons 28 G_spec_DrawIns (Ctx.cons 29 G_spec_InsOk (Ctx.cons 30 G_impl_InsOk (Ctx.cons 9 G_impl_ShowIns (Ctx.cons 7 G_spec_ShowIns (fun _ => none)))))))))))
theorem co_laws_FnWords : CtxOk Tryd.prog X_laws_FnWords := CtxOk.cons (CtxOk.cons (CtxOk.cons (CtxOk.cons (CtxOk.cons (CtxOk.cons (CtxOk.cons (CtxOk.cons (CtxOk.cons (CtxOk.cons (CtxOk.cons (CtxOk.nil) ok_spec_ShowIns) ok_impl_ShowIns) ok_impl_InsOk) ok_spec_InsOk) ok_spec_DrawIns) ok_spec_Decode) ok_spec_DrawDecode) ok_impl_Decode) ok_impl_Encode) ok_spec_DrawEncode) ok_laws_big
theorem cx_laws_FnWords : (CX X_laws_FnWords 22 G_laws_big false) ∧ (CX X_laws_FnWords 23 G_spec_DrawEncode false) ∧ (CX X_laws_FnWords 24 G_impl_Encode false) ∧ (CX X_laws_FnWords 25 G_impl_Decode false) ∧ (CX X_laws_FnWords 26 G_spec_DrawDecode false) ∧ (CX X_laws_FnWords 27 G_spec_Decode false) ∧ (CX X_laws_FnWords 28 G_spec_DrawIns false) ∧ (CX X_laws_FnWords 29 G_spec_InsOk false) ∧ (CX X_laws_FnWords 30 G_impl_InsOk false) ∧ (CX X_laws_FnWords 9 G_impl_ShowIns false) ∧ (CX X_laws_FnWords 7 G_spec_ShowIns false) := ⟨cxI rfl rfl, cxI rfl rfl, cxI rfl rfl, cxI rfl rfl, cxI rfl rfl, cxI rfl rfl, cxI rfl rfl, cxI rfl rfl, cxI rfl rfl, cxI rfl rfl, cxI rfl rfl⟩
end
end Go.Proofs.YtfoapfilmkapjaaDoor.AI
