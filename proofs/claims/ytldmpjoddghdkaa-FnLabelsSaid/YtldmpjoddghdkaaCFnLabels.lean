/- The functions that the law FnLabels reaches, in the reckoner's words. -/
import Derived.Test.YtldmpjoddghdkaaAMapo3
import Derived.Test.YtldmpjoddghdkaaChecked
import Derived.ProofKit
namespace Go.Proofs.Ytldmpjoddghdkaa.AI
open Go.Proofs
set_option linter.all false
set_option maxRecDepth 100000
noncomputable section
instance : Tabs := ⟨fun _ => False, fun _ _ => True⟩
def F_laws_big : RF := ⟨6, 1, [.t 2],
  .seq (.reg [o 2 (.mv (.c (.bool false)))]) (.seq (.reg [o 3 (.mv (.t 0)), o 4 (.len false (.t 3)), o 5 (.bin .gtr (.t 4) (.c (.int .i64 1048576))), o 2 (.mv (.t 5))]) (.ret))⟩
def K_laws_big : Keeps := []
theorem r_laws_big : resolveF Try.prog Try.f14 K_laws_big = some F_laws_big := by kernel_rfl
def X_laws_big : Ctx := fun _ => none
theorem co_laws_big : CtxOk Try.prog X_laws_big := CtxOk.nil
theorem cx_laws_big : True := trivial
def S_laws_big : ByV := ⟨none, false, semF X_laws_big F_laws_big none false⟩
def G_laws_big : CK := .byv S_laws_big
theorem sg_laws_big (args : List AV) : S_laws_big.sem args = semF X_laws_big F_laws_big none false args := rfl
theorem cl_laws_big (args hp) : callS G_laws_big args hp = byvS S_laws_big args hp := callS_byv rfl rfl args hp
theorem ok_laws_big : InlOk Try.prog 14 (callS G_laws_big) := byv_none co_laws_big Try.func14 r_laws_big rfl (fun _ _ h => h)
def B0_spec_l01New : RC :=
  .seq (.seq (.reg [o 8 (.mv (.t 4)), o 9 (.mv (.t 0)), o 10 (.len false (.t 9)), o 11 (.bin .lss (.t 8) (.t 10)), o 12 (.mv (.t 11)), ⟨some 13, some (12, true), .mv (.t 4)⟩, ⟨some 14, some (12, true), .bin .lss (.t 13) (.c (.int .i64 4000))⟩, o 15 (.pick (.t 12) (.t 14) (.c (.bool false)))]) (.cond (.t 15) (.skip) (.exit 0))) (.seq (.block 1 (.reg [o 18 (.mv (.t 3)), o 19 (.bin .mul (.t 18) (.c (.int .i64 131))), o 20 (.mv (.t 0)), o 21 (.mv (.t 4)), o 22 (.ia 1 (.t 20) (.t 21)), o 23 (.ld 1 false (.t 22)), o 24 (.cvi .i64 (.t 23)), o 25 (.bin .add (.t 19) (.t 24)), o 26 (.bin .add (.t 25) (.c (.int .i64 7))), o 27 (.bin .and (.t 26) (.c (.int .i64 1073741823))), o 3 (.mv (.t 27))])) (.reg [o 16 (.mv (.t 4)), o 17 (.bin .add (.t 16) (.c (.int .i64 1))), o 4 (.mv (.t 17))]))
def F_spec_l01New : RF := ⟨32, 1, [.t 2],
  .seq (.reg [o 2 (.mv (.c .pnil))]) (.seq (.reg [o 5 (.mv (.t 0)), o 6 (.len false (.t 5)), o 7 (.bin .add (.c (.int .i64 76401)) (.t 6)), o 3 (.mv (.t 7))]) (.seq (.seq (.reg [o 4 (.mv (.c (.int .i64 0)))]) (.block 0 (.loop [0, 3, 4] [(1, [0, 3])] B0_spec_l01New))) (.seq (.reg [o 28 (.mv (.t 0)), o 29 (.mv (.t 3)), o 30 (.build [(.nil 1), (.int .i64 0), (.int .i64 0)] [(0, 1, (.t 28)), (2, 1, (.t 29))]), o 31 (.box (.t 30)), o 2 (.mv (.t 31))]) (.ret))))⟩
def K_spec_l01New : Keeps := [([0, 3, 4], [(1, [0, 3])])]
theorem r_spec_l01New : resolveF Try.prog Try.f31 K_spec_l01New = some F_spec_l01New := by kernel_rfl
def X_spec_l01New : Ctx := fun _ => none
theorem co_spec_l01New : CtxOk Try.prog X_spec_l01New := CtxOk.nil
theorem cx_spec_l01New : True := trivial
def H_spec_l01New : List AV → Hp → Option (AV × Hp) := runF X_spec_l01New F_spec_l01New
theorem sh_spec_l01New (args hp) : H_spec_l01New args hp = runF X_spec_l01New F_spec_l01New args hp := rfl
def G_spec_l01New : CK := .inl (frame H_spec_l01New)
theorem cl_spec_l01New (args hp) : callS G_spec_l01New args hp = frame H_spec_l01New args hp := rfl
theorem ok_spec_l01New : InlOk Try.prog 31 (callS G_spec_l01New) := frame_ok (runF_ok co_spec_l01New Try.func31 r_spec_l01New)
def F_spec_l01Byte : RF := ⟨58, 1, [.t 2],
  .seq (.reg [o 2 (.mv (.c (.int .i64 0)))]) (.seq (.reg [o 4 (.mv (.t 0)), o 5 (.mv (.t 0)), o 6 (.nck (.t 5)), o 7 (.fa 2 (.t 6)), o 8 (.ld 1 false (.t 7)), o 9 (.bin .mul (.t 8) (.c (.int .i64 6364136223846793005))), o 10 (.bin .add (.t 9) (.c (.int .i64 1442695040888963407))), o 11 (.nck (.t 4)), o 12 (.fa 2 (.t 11)), ⟨none, none, .st 1 (.t 12) (.t 10)⟩]) (.seq (.regd [(0, o 13 (.mv (.t 0))), (0, o 14 (.nck (.t 13))), (0, o 15 (.fa 2 (.t 14))), (1, o 16 (.ld 1 false (.t 15))), (0, o 17 (.bin .shr (.t 16) (.c (.int .u64 33)))), (0, o 18 (.mv (.t 0))), (0, o 19 (.nck (.t 18))), (0, o 20 (.fa 2 (.t 19))), (1, o 21 (.ld 1 false (.t 20))), (0, o 22 (.bin .shr (.t 21) (.c (.int .u64 45)))), (0, o 23 (.bin .xor (.t 17) (.t 22))), (0, o 24 (.bin .and (.t 23) (.c (.int .i64 255)))), (0, o 3 (.mv (.t 24)))] []) (.seq (.seq (.regd [(0, o 25 (.mv (.t 0))), (0, o 26 (.nck (.t 25))), (0, o 27 (.fa 1 (.t 26))), (1, o 28 (.ld 1 false (.t 27))), (0, o 29 (.mv (.t 0))), (0, o 30 (.nck (.t 29))), (0, o 31 (.fa 0 (.t 30))), (1, o 32 (.ld 1 false (.t 31))), (0, o 33 (.len false (.t 32))), (0, o 34 (.bin .lss (.t 28) (.t 33)))] []) (.cond (.t 34) (.seq (.regd [(0, o 35 (.mv (.t 3))), (0, o 36 (.mv (.t 0))), (0, o 37 (.nck (.t 36))), (0, o 38 (.fa 0 (.t 37))), (1, o 39 (.ld 1 false (.t 38))), (0, o 40 (.mv (.t 0))), (0, o 41 (.nck (.t 40))), (0, o 42 (.fa 1 (.t 41))), (1, o 43 (.ld 1 false (.t 42))), (1, o 44 (.ia 1 (.t 39) (.t 43))), (1, o 45 (.ld 1 false (.t 44))), (0, o 46 (.cvi .i64 (.t 45))), (0, o 47 (.bin .add (.t 35) (.t 46))), (0, o 48 (.bin .and (.t 47) (.c (.int .i64 255)))), (0, o 3 (.mv (.t 48)))] []) (.reg [o 49 (.mv (.t 0)), o 50 (.mv (.t 0)), o 51 (.nck (.t 50)), o 52 (.fa 1 (.t 51)), o 53 (.ld 1 false (.t 52)), o 54 (.bin .add (.t 53) (.c (.int .i64 1))), o 55 (.nck (.t 49)), o 56 (.fa 1 (.t 55)), ⟨none, none, .st 1 (.t 56) (.t 54)⟩])) (.skip))) (.seq (.reg [o 57 (.mv (.t 3)), o 2 (.mv (.t 57))]) (.ret)))))⟩
def K_spec_l01Byte : Keeps := []
theorem r_spec_l01Byte : resolveF Try.prog Try.f48 K_spec_l01Byte = some F_spec_l01Byte := by kernel_rfl
def X_spec_l01Byte : Ctx := fun _ => none
theorem co_spec_l01Byte : CtxOk Try.prog X_spec_l01Byte := CtxOk.nil
theorem cx_spec_l01Byte : True := trivial
def H_spec_l01Byte : List AV → Hp → Option (AV × Hp) := runF X_spec_l01Byte F_spec_l01Byte
theorem sh_spec_l01Byte (args hp) : H_spec_l01Byte args hp = runF X_spec_l01Byte F_spec_l01Byte args hp := rfl
def G_spec_l01Byte : CK := .inl (frame H_spec_l01Byte)
theorem cl_spec_l01Byte (args hp) : callS G_spec_l01Byte args hp = frame H_spec_l01Byte args hp := rfl
theorem ok_spec_l01Byte : InlOk Try.prog 48 (callS G_spec_l01Byte) := frame_ok (runF_ok co_spec_l01Byte Try.func48 r_spec_l01Byte)
def F_spec_l01Below : RF := ⟨37, 2, [.t 4],
  .seq (.reg [o 4 (.mv (.c (.int .i64 0)))]) (.seq (.seq (.reg [o 9 (.mv (.t 1)), o 10 (.bin .leq (.t 9) (.c (.int .i64 0)))]) (.cond (.t 10) (.seq (.reg [o 4 (.mv (.c (.int .i64 0)))]) (.ret)) (.skip))) (.seq (.seq (.reg [o 11 (.mv (.t 1)), o 12 (.bin .leq (.t 11) (.c (.int .i64 256)))]) (.cond (.t 12) (.seq (.reg [o 13 (.mv (.t 0)), o 14 (.call 48 [(.t 13)]), o 15 (.mv (.t 1)), o 16 (.bin .rem (.t 14) (.t 15)), o 4 (.mv (.t 16))]) (.ret)) (.skip))) (.seq (.reg [o 17 (.mv (.t 0)), o 18 (.call 48 [(.t 17)]), o 5 (.mv (.t 18))]) (.seq (.reg [o 19 (.mv (.t 0)), o 20 (.call 48 [(.t 19)]), o 6 (.mv (.t 20))]) (.seq (.reg [o 21 (.mv (.t 0)), o 22 (.call 48 [(.t 21)]), o 7 (.mv (.t 22))]) (.seq (.reg [o 23 (.mv (.t 0)), o 24 (.call 48 [(.t 23)]), o 8 (.mv (.t 24))]) (.seq (.reg [o 25 (.mv (.t 5)), o 26 (.bin .mul (.t 25) (.c (.int .i64 16777216))), o 27 (.mv (.t 6)), o 28 (.bin .mul (.t 27) (.c (.int .i64 65536))), o 29 (.bin .add (.t 26) (.t 28)), o 30 (.mv (.t 7)), o 31 (.bin .mul (.t 30) (.c (.int .i64 256))), o 32 (.bin .add (.t 29) (.t 31)), o 33 (.mv (.t 8)), o 34 (.bin .add (.t 32) (.t 33)), o 35 (.mv (.t 1)), o 36 (.bin .rem (.t 34) (.t 35)), o 4 (.mv (.t 36))]) (.ret))))))))⟩
def K_spec_l01Below : Keeps := []
theorem r_spec_l01Below : resolveF Try.prog Try.f42 K_spec_l01Below = some F_spec_l01Below := by kernel_rfl
def X_spec_l01Below : Ctx := Ctx.cons 48 G_spec_l01Byte (fun _ => none)
theorem co_spec_l01Below : CtxOk Try.prog X_spec_l01Below := CtxOk.cons (CtxOk.nil) ok_spec_l01Byte
theorem cx_spec_l01Below : (CX X_spec_l01Below 48 G_spec_l01Byte true) := cxI rfl rfl
def H_spec_l01Below : List AV → Hp → Option (AV × Hp) := runF X_spec_l01Below F_spec_l01Below
theorem sh_spec_l01Below (args hp) : H_spec_l01Below args hp = runF X_spec_l01Below F_spec_l01Below args hp := rfl
def G_spec_l01Below : CK := .inl (frame H_spec_l01Below)
theorem cl_spec_l01Below (args hp) : callS G_spec_l01Below args hp = frame H_spec_l01Below args hp := rfl
theorem ok_spec_l01Below : InlOk Try.prog 42 (callS G_spec_l01Below) := frame_ok (runF_ok co_spec_l01Below Try.func42 r_spec_l01Below)
def F_spec_l01Once : RF := ⟨9, 2, [.t 4],
  .seq (.reg [o 4 (.mv (.c (.bool false)))]) (.seq (.reg [o 5 (.mv (.t 0)), o 6 (.mv (.t 1)), o 7 (.call 42 [(.t 5), (.t 6)]), o 8 (.bin .eql (.t 7) (.c (.int .i64 0))), o 4 (.mv (.t 8))]) (.ret))⟩
def K_spec_l01Once : Keeps := []
theorem r_spec_l01Once : resolveF Try.prog Try.f43 K_spec_l01Once = some F_spec_l01Once := by kernel_rfl
def X_spec_l01Once : Ctx := Ctx.cons 42 G_spec_l01Below (fun _ => none)
theorem co_spec_l01Once : CtxOk Try.prog X_spec_l01Once := CtxOk.cons (CtxOk.nil) ok_spec_l01Below
theorem cx_spec_l01Once : (CX X_spec_l01Once 42 G_spec_l01Below true) := cxI rfl rfl
def H_spec_l01Once : List AV → Hp → Option (AV × Hp) := runF X_spec_l01Once F_spec_l01Once
theorem sh_spec_l01Once (args hp) : H_spec_l01Once args hp = runF X_spec_l01Once F_spec_l01Once args hp := rfl
def G_spec_l01Once : CK := .inl (frame H_spec_l01Once)
theorem cl_spec_l01Once (args hp) : callS G_spec_l01Once args hp = frame H_spec_l01Once args hp := rfl
theorem ok_spec_l01Once : InlOk Try.prog 43 (callS G_spec_l01Once) := frame_ok (runF_ok co_spec_l01Once Try.func43 r_spec_l01Once)
def F_spec_l01PickInt : RF := ⟨12, 2, [.t 4],
  .seq (.reg [o 4 (.mv (.c (.int .i64 0)))]) (.seq (.reg [o 5 (.mv (.t 1)), o 6 (.mv (.t 0)), o 7 (.mv (.t 1)), o 8 (.len false (.t 7)), o 9 (.call 42 [(.t 6), (.t 8)]), o 10 (.ia 1 (.t 5) (.t 9)), o 11 (.ld 1 false (.t 10)), o 4 (.mv (.t 11))]) (.ret))⟩
def K_spec_l01PickInt : Keeps := []
theorem r_spec_l01PickInt : resolveF Try.prog Try.f49 K_spec_l01PickInt = some F_spec_l01PickInt := by kernel_rfl
def X_spec_l01PickInt : Ctx := Ctx.cons 42 G_spec_l01Below (fun _ => none)
theorem co_spec_l01PickInt : CtxOk Try.prog X_spec_l01PickInt := CtxOk.cons (CtxOk.nil) ok_spec_l01Below
theorem cx_spec_l01PickInt : (CX X_spec_l01PickInt 42 G_spec_l01Below true) := cxI rfl rfl
def H_spec_l01PickInt : List AV → Hp → Option (AV × Hp) := runF X_spec_l01PickInt F_spec_l01PickInt
theorem sh_spec_l01PickInt (args hp) : H_spec_l01PickInt args hp = runF X_spec_l01PickInt F_spec_l01PickInt args hp := rfl
def G_spec_l01PickInt : CK := .inl (frame H_spec_l01PickInt)
theorem cl_spec_l01PickInt (args hp) : callS G_spec_l01PickInt args hp = frame H_spec_l01PickInt args hp := rfl
theorem ok_spec_l01PickInt : InlOk Try.prog 49 (callS G_spec_l01PickInt) := frame_ok (runF_ok co_spec_l01PickInt Try.func49 r_spec_l01PickInt)
def F_spec_l14Ins : RF := ⟨49, 1, [.cell 2 4 true],
  .seq (.reg [o 2 (.new [(.int .i64 0), (.int .i64 0), (.int .i64 0), (.int .i64 0)])]) (.seq (.reg [o 4 (.mv (.t 0)), o 5 (.call 42 [(.t 4), (.c (.int .i64 10))]), o 6 (.bin .add (.c (.int .i64 1)) (.t 5)), o 7 (.mv (.t 0)), o 8 (.call 42 [(.t 7), (.c (.int .i64 8))]), o 9 (.build [(.int .i64 0), (.int .i64 0), (.int .i64 0), (.int .i64 0)] [(0, 1, (.t 6)), (1, 1, (.t 8))]), o 3 (.new [(.int .i64 0), (.int .i64 0), (.int .i64 0), (.int .i64 0)]), ⟨none, none, .st 4 (.t 3) (.t 9)⟩]) (.seq (.seq (.reg [o 10 (.fa 0 (.t 3)), o 11 (.ld 1 false (.t 10))]) (.block 0 (.seq (.reg [o 16 (.bin .eql (.t 11) (.c (.int .i64 1))), o 15 (.mv (.t 16))]) (.cond (.t 15) (.reg [o 17 (.mv (.t 0)), o 18 (.bsl 1 [(.c (.int .i64 0)), (.c (.int .i64 1)), (.c (.int .i64 7)), (.c (.int .i64 1000000))]), o 19 (.call 49 [(.t 17), (.t 18)]), o 20 (.fa 3 (.t 3)), ⟨none, none, .st 1 (.t 20) (.t 19)⟩]) (.seq (.reg [o 22 (.bin .eql (.t 11) (.c (.int .i64 4))), o 21 (.mv (.t 22))]) (.cond (.t 21) (.seq (.reg [o 23 (.mv (.t 0)), o 24 (.call 42 [(.t 23), (.c (.int .i64 8))]), o 25 (.fa 2 (.t 3)), ⟨none, none, .st 1 (.t 25) (.t 24)⟩]) (.reg [o 26 (.mv (.t 0)), o 27 (.call 42 [(.t 26), (.c (.int .i64 9))]), o 28 (.bin .add (.c (.int .i64 1)) (.t 27)), o 29 (.fa 3 (.t 3)), ⟨none, none, .st 1 (.t 29) (.t 28)⟩])) (.seq (.seq (.reg [o 31 (.bin .eql (.t 11) (.c (.int .i64 5))), o 30 (.mv (.t 31))]) (.cond (.t 30) (.skip) (.reg [o 32 (.bin .eql (.t 11) (.c (.int .i64 6))), o 30 (.mv (.t 32))]))) (.cond (.t 30) (.skip) (.seq (.reg [o 34 (.bin .eql (.t 11) (.c (.int .i64 8))), o 33 (.mv (.t 34))]) (.cond (.t 33) (.seq (.reg [o 35 (.fa 1 (.t 3)), ⟨none, none, .st 1 (.t 35) (.c (.int .i64 0))⟩]) (.reg [o 36 (.mv (.t 0)), o 37 (.call 42 [(.t 36), (.c (.int .i64 20))]), o 38 (.fa 3 (.t 3)), ⟨none, none, .st 1 (.t 38) (.t 37)⟩])) (.seq (.reg [o 40 (.bin .eql (.t 11) (.c (.int .i64 10))), o 39 (.mv (.t 40))]) (.cond (.t 39) (.seq (.reg [o 41 (.mv (.t 0)), o 42 (.call 42 [(.t 41), (.c (.int .i64 7))]), o 43 (.bin .add (.c (.int .i64 1)) (.t 42)), o 44 (.fa 1 (.t 3)), ⟨none, none, .st 1 (.t 44) (.t 43)⟩]) (.reg [o 45 (.mv (.t 0)), o 46 (.call 42 [(.t 45), (.c (.int .i64 5))]), o 47 (.fa 3 (.t 3)), ⟨none, none, .st 1 (.t 47) (.t 46)⟩])) (.reg [o 12 (.mv (.t 0)), o 13 (.call 42 [(.t 12), (.c (.int .i64 30))]), o 14 (.fa 3 (.t 3)), ⟨none, none, .st 1 (.t 14) (.t 13)⟩]))))))))))))) (.seq (.reg [o 48 (.ld 4 true (.t 3)), ⟨none, none, .st 4 (.t 2) (.t 48)⟩]) (.ret))))⟩
def K_spec_l14Ins : Keeps := []
theorem r_spec_l14Ins : resolveF Try.prog Try.f44 K_spec_l14Ins = some F_spec_l14Ins := by kernel_rfl
def X_spec_l14Ins : Ctx := Ctx.cons 42 G_spec_l01Below (Ctx.cons 49 G_spec_l01PickInt (fun _ => none))
theorem co_spec_l14Ins : CtxOk Try.prog X_spec_l14Ins := CtxOk.cons (CtxOk.cons (CtxOk.nil) ok_spec_l01PickInt) ok_spec_l01Below
theorem cx_spec_l14Ins : (CX X_spec_l14Ins 42 G_spec_l01Below true) ∧ (CX X_spec_l14Ins 49 G_spec_l01PickInt true) := ⟨cxI rfl rfl, cxI rfl rfl⟩
def H_spec_l14Ins : List AV → Hp → Option (AV × Hp) := runF X_spec_l14Ins F_spec_l14Ins
theorem sh_spec_l14Ins (args hp) : H_spec_l14Ins args hp = runF X_spec_l14Ins F_spec_l14Ins args hp := rfl
def G_spec_l14Ins : CK := .inl (frame H_spec_l14Ins)
theorem cl_spec_l14Ins (args hp) : callS G_spec_l14Ins args hp = frame H_spec_l14Ins args hp := rfl
theorem ok_spec_l14Ins : InlOk Try.prog 44 (callS G_spec_l14Ins) := frame_ok (runF_ok co_spec_l14Ins Try.func44 r_spec_l14Ins)
def B0_spec_l16Lines : RC :=
  .seq (.seq (.reg [o 10 (.mv (.t 6)), o 11 (.mv (.t 0)), o 12 (.call 42 [(.t 11), (.c (.int .i64 12))]), o 13 (.bin .lss (.t 10) (.t 12))]) (.cond (.t 13) (.skip) (.exit 0))) (.seq (.block 1 (.seq (.seq (.reg [o 16 (.mv (.t 0)), o 17 (.call 43 [(.t 16), (.c (.int .i64 4))]), o 18 (.mv (.t 17)), ⟨some 19, some (18, true), .mv (.t 5)⟩, ⟨some 20, some (18, true), .bin .lss (.t 19) (.c (.int .i64 3))⟩, o 21 (.pick (.t 18) (.t 20) (.c (.bool false)))]) (.cond (.t 21) (.seq (.reg [o 22 (.mv (.t 3)), o 23 (.mv (.t 4)), o 24 (.mv (.t 5)), o 25 (.ia 1 (.t 23) (.t 24)), o 26 (.ld 1 false (.t 25)), o 27 (.build [(.str ⟨#[]⟩), (.int .i64 0), (.int .i64 0), (.int .i64 0), (.int .i64 0), (.str ⟨#[]⟩)] [(0, 1, (.t 26))]), o 28 (.bsl 6 [(.t 27)]), o 29 (.app true 6 64 (.t 22) (.t 28)), o 3 (.mv (.t 29))]) (.seq (.reg [o 30 (.mv (.t 5)), o 31 (.bin .add (.t 30) (.c (.int .i64 1))), o 5 (.mv (.t 31))]) (.exit 1))) (.skip))) (.seq (.reg [o 32 (.mv (.t 0)), o 33 (.call 44 [(.t 32)]), o 34 (.build [(.str ⟨#[]⟩), (.int .i64 0), (.int .i64 0), (.int .i64 0), (.int .i64 0), (.str ⟨#[]⟩)] [(1, 4, (.t 33))]), o 7 (.new [(.str ⟨#[]⟩), (.int .i64 0), (.int .i64 0), (.int .i64 0), (.int .i64 0), (.str ⟨#[]⟩)]), ⟨none, none, .st 6 (.t 7) (.t 34)⟩]) (.seq (.seq (.reg [o 35 (.fa 1 (.t 7)), o 36 (.fa 0 (.t 35)), o 37 (.ld 1 false (.t 36)), o 38 (.bin .eql (.t 37) (.c (.int .i64 7))), o 39 (.mv (.t 38)), ⟨some 40, some (39, false), .fa 1 (.t 7)⟩, ⟨some 41, some (39, false), .fa 0 (.t 40)⟩, ⟨some 42, some (39, false), .ld 1 false (.t 41)⟩, ⟨some 43, some (39, false), .bin .eql (.t 42) (.c (.int .i64 8))⟩, o 44 (.pick (.t 39) (.c (.bool true)) (.t 43)), o 45 (.mv (.t 44)), ⟨some 46, some (45, true), .mv (.t 5)⟩, ⟨some 47, some (45, true), .bin .gtr (.t 46) (.c (.int .i64 0))⟩, o 48 (.pick (.t 45) (.t 47) (.c (.bool false)))]) (.cond (.t 48) (.seq (.reg [o 49 (.fa 1 (.t 7)), o 50 (.fa 3 (.t 49)), ⟨none, none, .st 1 (.t 50) (.c (.int .i64 0))⟩]) (.reg [o 51 (.mv (.t 4)), o 52 (.mv (.t 0)), o 53 (.mv (.t 5)), o 54 (.call 42 [(.t 52), (.t 53)]), o 55 (.ia 1 (.t 51) (.t 54)), o 56 (.ld 1 false (.t 55)), o 57 (.fa 5 (.t 7)), ⟨none, none, .st 1 (.t 57) (.t 56)⟩])) (.skip))) (.reg [o 58 (.mv (.t 3)), o 59 (.ld 6 true (.t 7)), o 60 (.bsl 6 [(.t 59)]), o 61 (.app true 6 64 (.t 58) (.t 60)), o 3 (.mv (.t 61))]))))) (.reg [o 14 (.mv (.t 6)), o 15 (.bin .add (.t 14) (.c (.int .i64 1))), o 6 (.mv (.t 15))]))
def F_spec_l16Lines : RF := ⟨63, 1, [.t 2],
  .seq (.reg [o 2 (.mv (.c (.nil 6)))]) (.seq (.reg [o 8 (.bsl 6 []), o 3 (.mv (.t 8))]) (.seq (.reg [o 9 (.bsl 1 [(.c (.str ⟨#[97]⟩)), (.c (.str ⟨#[98]⟩)), (.c (.str ⟨#[99]⟩))]), o 4 (.mv (.t 9))]) (.seq (.reg [o 5 (.mv (.c (.int .i64 0)))]) (.seq (.seq (.reg [o 6 (.mv (.c (.int .i64 0)))]) (.block 0 (.loop [0, 3, 4, 5, 6] [(1, [3])] B0_spec_l16Lines))) (.seq (.reg [o 62 (.mv (.t 3)), o 2 (.mv (.t 62))]) (.ret))))))⟩
def K_spec_l16Lines : Keeps := [([0, 3, 4, 5, 6], [(1, [3])])]
theorem r_spec_l16Lines : resolveF Try.prog Try.f30 K_spec_l16Lines = some F_spec_l16Lines := by kernel_rfl
def X_spec_l16Lines : Ctx := Ctx.cons 42 G_spec_l01Below (Ctx.cons 43 G_spec_l01Once (Ctx.cons 44 G_spec_l14Ins (fun _ => none)))
theorem co_spec_l16Lines : CtxOk Try.prog X_spec_l16Lines := CtxOk.cons (CtxOk.cons (CtxOk.cons (CtxOk.nil) ok_spec_l14Ins) ok_spec_l01Once) ok_spec_l01Below
theorem cx_spec_l16Lines : (CX X_spec_l16Lines 42 G_spec_l01Below true) ∧ (CX X_spec_l16Lines 43 G_spec_l01Once true) ∧ (CX X_spec_l16Lines 44 G_spec_l14Ins true) := ⟨cxI rfl rfl, cxI rfl rfl, cxI rfl rfl⟩
def H_spec_l16Lines : List AV → Hp → Option (AV × Hp) := runF X_spec_l16Lines F_spec_l16Lines
theorem sh_spec_l16Lines (args hp) : H_spec_l16Lines args hp = runF X_spec_l16Lines F_spec_l16Lines args hp := rfl
def G_spec_l16Lines : CK := .inl (frame H_spec_l16Lines)
theorem cl_spec_l16Lines (args hp) : callS G_spec_l16Lines args hp = frame H_spec_l16Lines args hp := rfl
theorem ok_spec_l16Lines : InlOk Try.prog 30 (callS G_spec_l16Lines) := frame_ok (runF_ok co_spec_l16Lines Try.func30 r_spec_l16Lines)
def F_spec_DrawLines : RF := ⟨6, 1, [.t 2],
  .seq (.reg [o 2 (.mv (.c (.nil 6)))]) (.seq (.reg [o 3 (.mv (.t 0)), o 4 (.call 31 [(.t 3)]), o 5 (.call 30 [(.t 4)]), o 2 (.mv (.t 5))]) (.ret))⟩
def K_spec_DrawLines : Keeps := []
theorem r_spec_DrawLines : resolveF Try.prog Try.f15 K_spec_DrawLines = some F_spec_DrawLines := by kernel_rfl
def X_spec_DrawLines : Ctx := Ctx.cons 31 G_spec_l01New (Ctx.cons 30 G_spec_l16Lines (fun _ => none))
theorem co_spec_DrawLines : CtxOk Try.prog X_spec_DrawLines := CtxOk.cons (CtxOk.cons (CtxOk.nil) ok_spec_l16Lines) ok_spec_l01New
theorem cx_spec_DrawLines : (CX X_spec_DrawLines 31 G_spec_l01New true) ∧ (CX X_spec_DrawLines 30 G_spec_l16Lines true) := ⟨cxI rfl rfl, cxI rfl rfl⟩
def S_spec_DrawLines : ByV := ⟨none, false, semF X_spec_DrawLines F_spec_DrawLines none false⟩
def G_spec_DrawLines : CK := .byv S_spec_DrawLines
theorem sg_spec_DrawLines (args : List AV) : S_spec_DrawLines.sem args = semF X_spec_DrawLines F_spec_DrawLines none false args := rfl
theorem cl_spec_DrawLines (args hp) : callS G_spec_DrawLines args hp = byvS S_spec_DrawLines args hp := callS_byv rfl rfl args hp
theorem ok_spec_DrawLines : InlOk Try.prog 15 (callS G_spec_DrawLines) := byv_none co_spec_DrawLines Try.func15 r_spec_DrawLines rfl (fun _ _ h => h)
def F_impl_within : RF := ⟨15, 3, [.t 6],
  .seq (.reg [o 6 (.mv (.c (.bool false)))]) (.seq (.reg [o 7 (.mv (.t 0)), o 8 (.mv (.t 1)), o 9 (.bin .geq (.t 7) (.t 8)), o 10 (.mv (.t 9)), ⟨some 11, some (10, true), .mv (.t 0)⟩, ⟨some 12, some (10, true), .mv (.t 2)⟩, ⟨some 13, some (10, true), .bin .leq (.t 11) (.t 12)⟩, o 14 (.pick (.t 10) (.t 13) (.c (.bool false))), o 6 (.mv (.t 14))]) (.ret))⟩
def K_impl_within : Keeps := []
theorem r_impl_within : resolveF Try.prog Try.f38 K_impl_within = some F_impl_within := by kernel_rfl
def X_impl_within : Ctx := fun _ => none
theorem co_impl_within : CtxOk Try.prog X_impl_within := CtxOk.nil
theorem cx_impl_within : True := trivial
def S_impl_within : ByV := ⟨none, false, semF X_impl_within F_impl_within none false⟩
def G_impl_within : CK := .byv S_impl_within
theorem sg_impl_within (args : List AV) : S_impl_within.sem args = semF X_impl_within F_impl_within none false args := rfl
theorem cl_impl_within (args hp) : callS G_impl_within args hp = byvS S_impl_within args hp := callS_byv rfl rfl args hp
theorem ok_impl_within : InlOk Try.prog 38 (callS G_impl_within) := byv_none co_impl_within Try.func38 r_impl_within rfl (fun _ _ h => h)
def F_impl_labelAt_1 : RF := ⟨14, 2, [.t 3],
  .seq (.reg [o 2 (.box (.t 0)), o 3 (.mv (.c (.bool false)))]) (.seq (.reg [o 4 (.fa 1 (.t 2)), o 5 (.fa 0 (.t 4)), o 6 (.ld 1 false (.t 5)), o 7 (.bin .eql (.t 6) (.c (.int .i64 0))), o 8 (.mv (.t 7)), ⟨some 9, some (8, true), .fa 0 (.t 2)⟩, ⟨some 10, some (8, true), .ld 1 false (.t 9)⟩, ⟨some 11, some (8, true), .ld 1 false (.t 1)⟩, ⟨some 12, some (8, true), .bin .eql (.t 10) (.t 11)⟩, o 13 (.pick (.t 8) (.t 12) (.c (.bool false))), o 3 (.mv (.t 13))]) (.ret))⟩
def K_impl_labelAt_1 : Keeps := []
theorem r_impl_labelAt_1 : resolveF Try.prog Try.f46 K_impl_labelAt_1 = some F_impl_labelAt_1 := by kernel_rfl
def X_impl_labelAt_1 : Ctx := fun _ => none
theorem co_impl_labelAt_1 : CtxOk Try.prog X_impl_labelAt_1 := CtxOk.nil
theorem cx_impl_labelAt_1 : True := trivial
def G_impl_labelAt_1 : CK := .inl (runF X_impl_labelAt_1 F_impl_labelAt_1)
theorem cl_impl_labelAt_1 (args hp) : callS G_impl_labelAt_1 args hp = runF X_impl_labelAt_1 F_impl_labelAt_1 args hp := rfl
theorem ok_impl_labelAt_1 : InlOk Try.prog 46 (callS G_impl_labelAt_1) := runF_ok co_impl_labelAt_1 Try.func46 r_impl_labelAt_1
def B0_slices_IndexFunc_impl_Line_impl_Line : RC :=
  .seq (.reg [o 9 (.bin .lss (.t 8) (.t 7))]) (.seq (.cond (.t 9) (.skip) (.exit 0)) (.seq (.block 1 (.seq (.reg [o 10 (.mv (.t 8)), o 5 (.mv (.t 10))]) (.seq (.reg [o 11 (.mv (.t 1)), o 12 (.mv (.t 0)), o 13 (.mv (.t 5)), o 14 (.ia 6 (.t 12) (.t 13)), o 15 (.ld 6 true (.t 14)), o 16 (.callv (.t 11) [(.t 15)])]) (.cond (.t 16) (.seq (.reg [o 17 (.mv (.t 5)), o 4 (.mv (.t 17))]) (.ret)) (.skip))))) (.reg [o 18 (.bin .add (.t 8) (.c (.int .i64 1))), o 8 (.mv (.t 18))])))
def F_slices_IndexFunc_impl_Line_impl_Line : RF := ⟨19, 2, [.t 4],
  .seq (.reg [o 4 (.mv (.c (.int .i64 0)))]) (.seq (.seq (.reg [o 6 (.mv (.t 0)), o 7 (.len false (.t 6)), o 8 (.mv (.c (.int .i64 0)))]) (.block 0 (.loop [0, 1, 7, 8] [(1, []), (0, [4])] B0_slices_IndexFunc_impl_Line_impl_Line))) (.seq (.reg [o 4 (.mv (.c (.int .i64 (-1))))]) (.ret)))⟩
def K_slices_IndexFunc_impl_Line_impl_Line : Keeps := [([0, 1, 7, 8], [(1, []), (0, [4])])]
theorem r_slices_IndexFunc_impl_Line_impl_Line : resolveF Try.prog Try.f45 K_slices_IndexFunc_impl_Line_impl_Line = some F_slices_IndexFunc_impl_Line_impl_Line := by kernel_rfl
def X_slices_IndexFunc_impl_Line_impl_Line : Ctx := Ctx.cons 46 G_impl_labelAt_1 (fun _ => none)
theorem co_slices_IndexFunc_impl_Line_impl_Line : CtxOk Try.prog X_slices_IndexFunc_impl_Line_impl_Line := CtxOk.cons (CtxOk.nil) ok_impl_labelAt_1
theorem cx_slices_IndexFunc_impl_Line_impl_Line : (CX X_slices_IndexFunc_impl_Line_impl_Line 46 G_impl_labelAt_1 true) := cxI rfl rfl
def S_slices_IndexFunc_impl_Line_impl_Line : ByV := ⟨none, false, semF X_slices_IndexFunc_impl_Line_impl_Line F_slices_IndexFunc_impl_Line_impl_Line none false⟩
def G_slices_IndexFunc_impl_Line_impl_Line : CK := .byv S_slices_IndexFunc_impl_Line_impl_Line
theorem sg_slices_IndexFunc_impl_Line_impl_Line (args : List AV) : S_slices_IndexFunc_impl_Line_impl_Line.sem args = semF X_slices_IndexFunc_impl_Line_impl_Line F_slices_IndexFunc_impl_Line_impl_Line none false args := rfl
theorem cl_slices_IndexFunc_impl_Line_impl_Line (args hp) : callS G_slices_IndexFunc_impl_Line_impl_Line args hp = byvS S_slices_IndexFunc_impl_Line_impl_Line args hp := callS_byv rfl rfl args hp
theorem ok_slices_IndexFunc_impl_Line_impl_Line : InlOk Try.prog 45 (callS G_slices_IndexFunc_impl_Line_impl_Line) := byv_none co_slices_IndexFunc_impl_Line_impl_Line Try.func45 r_slices_IndexFunc_impl_Line_impl_Line rfl (fun _ _ h => h)
def F_impl_labelAt : RF := ⟨8, 2, [.t 4],
  .seq (.reg [o 3 (.box (.t 1)), o 4 (.mv (.c (.int .i64 0)))]) (.seq (.reg [o 5 (.mv (.t 0)), o 6 (.mkf 46 [(.t 3)]), o 7 (.call 45 [(.t 5), (.t 6)]), o 4 (.mv (.t 7))]) (.ret))⟩
def K_impl_labelAt : Keeps := []
theorem r_impl_labelAt : resolveF Try.prog Try.f32 K_impl_labelAt = some F_impl_labelAt := by kernel_rfl
def X_impl_labelAt : Ctx := Ctx.cons 45 G_slices_IndexFunc_impl_Line_impl_Line (fun _ => none)
theorem co_impl_labelAt : CtxOk Try.prog X_impl_labelAt := CtxOk.cons (CtxOk.nil) ok_slices_IndexFunc_impl_Line_impl_Line
theorem cx_impl_labelAt : (CX X_impl_labelAt 45 G_slices_IndexFunc_impl_Line_impl_Line false) := cxI rfl rfl
def S_impl_labelAt : ByV := ⟨none, false, semF X_impl_labelAt F_impl_labelAt none false⟩
def G_impl_labelAt : CK := .byv S_impl_labelAt
theorem sg_impl_labelAt (args : List AV) : S_impl_labelAt.sem args = semF X_impl_labelAt F_impl_labelAt none false args := rfl
theorem cl_impl_labelAt (args hp) : callS G_impl_labelAt args hp = byvS S_impl_labelAt args hp := callS_byv rfl rfl args hp
theorem ok_impl_labelAt : InlOk Try.prog 32 (callS G_impl_labelAt) := byv_none co_impl_labelAt Try.func32 r_impl_labelAt rfl (fun _ _ h => h)
def F_impl_InsOk : RF := ⟨63, 1, [.t 2],
  .seq (.reg [o 1 (.box (.t 0)), o 2 (.mv (.c (.bool false)))]) (.seq (.seq (.reg [o 3 (.fa 0 (.t 1)), o 4 (.ld 1 false (.t 3)), o 5 (.call 38 [(.t 4), (.c (.int .i64 1)), (.c (.int .i64 10))]), o 6 (.un .not (.t 5)), o 7 (.mv (.t 6)), ⟨some 8, some (7, false), .fa 1 (.t 1)⟩, ⟨some 9, some (7, false), .ld 1 false (.t 8)⟩, ⟨some 10, some (7, false), .call 38 [(.t 9), (.c (.int .i64 0)), (.c (.int .i64 7))]⟩, ⟨some 11, some (7, false), .un .not (.t 10)⟩, o 12 (.pick (.t 7) (.c (.bool true)) (.t 11)), o 13 (.mv (.t 12)), ⟨some 14, some (13, false), .fa 2 (.t 1)⟩, ⟨some 15, some (13, false), .ld 1 false (.t 14)⟩, ⟨some 16, some (13, false), .call 38 [(.t 15), (.c (.int .i64 0)), (.c (.int .i64 7))]⟩, ⟨some 17, some (13, false), .un .not (.t 16)⟩, o 18 (.pick (.t 13) (.c (.bool true)) (.t 17)), o 19 (.mv (.t 18)), ⟨some 20, some (19, false), .fa 3 (.t 1)⟩, ⟨some 21, some (19, false), .ld 1 false (.t 20)⟩, ⟨some 22, some (19, false), .call 38 [(.t 21), (.c (.int .i64 0)), (.c (.int .i64 4194303))]⟩, ⟨some 23, some (19, false), .un .not (.t 22)⟩, o 24 (.pick (.t 19) (.c (.bool true)) (.t 23)), o 25 (.mv (.t 24)), ⟨some 26, some (25, false), .fa 0 (.t 1)⟩, ⟨some 27, some (25, false), .ld 1 false (.t 26)⟩, ⟨some 28, some (25, false), .bin .neq (.t 27) (.c (.int .i64 4))⟩, ⟨some 29, some (25, false), .mv (.t 28)⟩, ⟨some 30, some (29, true), .fa 2 (.t 1)⟩, ⟨some 31, some (29, true), .ld 1 false (.t 30)⟩, ⟨some 32, some (29, true), .bin .neq (.t 31) (.c (.int .i64 0))⟩, ⟨some 33, some (25, false), .pick (.t 29) (.t 32) (.c (.bool false))⟩, o 34 (.pick (.t 25) (.c (.bool true)) (.t 33))]) (.cond (.t 34) (.seq (.reg [o 2 (.mv (.c (.bool false)))]) (.ret)) (.skip))) (.seq (.seq (.reg [o 35 (.fa 0 (.t 1)), o 36 (.ld 1 false (.t 35))]) (.block 0 (.seq (.reg [o 38 (.bin .eql (.t 36) (.c (.int .i64 1))), o 37 (.mv (.t 38))]) (.cond (.t 37) (.seq (.reg [o 39 (.fa 3 (.t 1)), o 40 (.ld 1 false (.t 39)), o 41 (.bin .leq (.t 40) (.c (.int .i64 1000000))), o 2 (.mv (.t 41))]) (.ret)) (.seq (.reg [o 43 (.bin .eql (.t 36) (.c (.int .i64 4))), o 42 (.mv (.t 43))]) (.cond (.t 42) (.seq (.reg [o 44 (.fa 3 (.t 1)), o 45 (.ld 1 false (.t 44)), o 46 (.call 38 [(.t 45), (.c (.int .i64 1)), (.c (.int .i64 9))]), o 2 (.mv (.t 46))]) (.ret)) (.seq (.seq (.reg [o 48 (.bin .eql (.t 36) (.c (.int .i64 5))), o 47 (.mv (.t 48))]) (.cond (.t 47) (.skip) (.reg [o 49 (.bin .eql (.t 36) (.c (.int .i64 6))), o 47 (.mv (.t 49))]))) (.cond (.t 47) (.seq (.reg [o 50 (.fa 3 (.t 1)), o 51 (.ld 1 false (.t 50)), o 52 (.bin .eql (.t 51) (.c (.int .i64 0))), o 2 (.mv (.t 52))]) (.ret)) (.seq (.reg [o 54 (.bin .eql (.t 36) (.c (.int .i64 8))), o 53 (.mv (.t 54))]) (.cond (.t 53) (.seq (.reg [o 55 (.fa 1 (.t 1)), o 56 (.ld 1 false (.t 55)), o 57 (.bin .eql (.t 56) (.c (.int .i64 0))), o 2 (.mv (.t 57))]) (.ret)) (.seq (.reg [o 59 (.bin .eql (.t 36) (.c (.int .i64 10))), o 58 (.mv (.t 59))]) (.cond (.t 58) (.seq (.reg [o 60 (.fa 1 (.t 1)), o 61 (.ld 1 false (.t 60)), o 62 (.bin .geq (.t 61) (.c (.int .i64 1))), o 2 (.mv (.t 62))]) (.ret)) (.skip))))))))))))) (.seq (.reg [o 2 (.mv (.c (.bool true)))]) (.ret))))⟩
def K_impl_InsOk : Keeps := []
theorem r_impl_InsOk : resolveF Try.prog Try.f39 K_impl_InsOk = some F_impl_InsOk := by kernel_rfl
def X_impl_InsOk : Ctx := Ctx.cons 38 G_impl_within (fun _ => none)
theorem co_impl_InsOk : CtxOk Try.prog X_impl_InsOk := CtxOk.cons (CtxOk.nil) ok_impl_within
theorem cx_impl_InsOk : (CX X_impl_InsOk 38 G_impl_within false) := cxI rfl rfl
def S_impl_InsOk : ByV := ⟨none, false, semF X_impl_InsOk F_impl_InsOk none false⟩
def G_impl_InsOk : CK := .byv S_impl_InsOk
theorem sg_impl_InsOk (args : List AV) : S_impl_InsOk.sem args = semF X_impl_InsOk F_impl_InsOk none false args := rfl
theorem cl_impl_InsOk (args hp) : callS G_impl_InsOk args hp = byvS S_impl_InsOk args hp := callS_byv rfl rfl args hp
theorem ok_impl_InsOk : InlOk Try.prog 39 (callS G_impl_InsOk) := byv_none co_impl_InsOk Try.func39 r_impl_InsOk rfl (fun _ _ h => h)
def B0_impl_LinesOk : RC :=
  .seq (.reg [o 9 (.bin .lss (.t 8) (.t 7))]) (.seq (.cond (.t 9) (.skip) (.exit 0)) (.seq (.block 1 (.seq (.reg [o 10 (.mv (.t 8)), o 11 (.ia 6 (.t 6) (.t 8)), o 12 (.ld 6 true (.t 11)), o 4 (.new [(.str ⟨#[]⟩), (.int .i64 0), (.int .i64 0), (.int .i64 0), (.int .i64 0), (.str ⟨#[]⟩)]), o 3 (.mv (.t 10)), ⟨none, none, .st 6 (.t 4) (.t 12)⟩]) (.seq (.seq (.reg [o 13 (.fa 1 (.t 4)), o 14 (.fa 0 (.t 13)), o 15 (.ld 1 false (.t 14)), o 16 (.bin .eql (.t 15) (.c (.int .i64 0)))]) (.cond (.t 16) (.seq (.seq (.reg [o 17 (.fa 1 (.t 4)), o 18 (.ld 4 true (.t 17)), o 19 (.build [(.int .i64 0), (.int .i64 0), (.int .i64 0), (.int .i64 0)] []), o 20 (.eqs true [(0, 1), (1, 1), (2, 1), (3, 1)] (.t 18) (.t 19)), o 21 (.mv (.t 20)), ⟨some 22, some (21, false), .fa 5 (.t 4)⟩, ⟨some 23, some (21, false), .ld 1 false (.t 22)⟩, ⟨some 24, some (21, false), .bin .neq (.t 23) (.c (.str ⟨#[]⟩))⟩, o 25 (.pick (.t 21) (.c (.bool true)) (.t 24)), o 26 (.mv (.t 25)), ⟨some 27, some (26, false), .fa 0 (.t 4)⟩, ⟨some 28, some (26, false), .ld 1 false (.t 27)⟩, ⟨some 29, some (26, false), .len true (.t 28)⟩, ⟨some 30, some (26, false), .call 38 [(.t 29), (.c (.int .i64 1)), (.c (.int .i64 12))]⟩, ⟨some 31, some (26, false), .un .not (.t 30)⟩, o 32 (.pick (.t 26) (.c (.bool true)) (.t 31)), o 33 (.mv (.t 32)), ⟨some 34, some (33, false), .mv (.t 0)⟩, ⟨some 35, some (33, false), .fa 0 (.t 4)⟩, ⟨some 36, some (33, false), .ld 1 false (.t 35)⟩, ⟨some 37, some (33, false), .call 32 [(.t 34), (.t 36)]⟩, ⟨some 38, some (33, false), .mv (.t 3)⟩, ⟨some 39, some (33, false), .bin .neq (.t 37) (.t 38)⟩, o 40 (.pick (.t 33) (.c (.bool true)) (.t 39))]) (.cond (.t 40) (.seq (.reg [o 2 (.mv (.c (.bool false)))]) (.ret)) (.skip))) (.exit 1)) (.skip))) (.seq (.reg [o 41 (.fa 1 (.t 4)), o 42 (.ld 4 true (.t 41)), o 5 (.new [(.int .i64 0), (.int .i64 0), (.int .i64 0), (.int .i64 0)]), ⟨none, none, .st 4 (.t 5) (.t 42)⟩]) (.seq (.seq (.reg [o 43 (.fa 5 (.t 4)), o 44 (.ld 1 false (.t 43)), o 45 (.bin .neq (.t 44) (.c (.str ⟨#[]⟩))), o 46 (.mv (.t 45)), ⟨some 47, some (46, true), .fa 0 (.t 5)⟩, ⟨some 48, some (46, true), .ld 1 false (.t 47)⟩, ⟨some 49, some (46, true), .bin .neq (.t 48) (.c (.int .i64 4))⟩, o 50 (.pick (.t 46) (.t 49) (.c (.bool false)))]) (.cond (.t 50) (.reg [o 51 (.fa 3 (.t 5)), ⟨none, none, .st 1 (.t 51) (.c (.int .i64 0))⟩]) (.skip))) (.seq (.reg [o 52 (.fa 0 (.t 4)), o 53 (.ld 1 false (.t 52)), o 54 (.bin .neq (.t 53) (.c (.str ⟨#[]⟩))), o 55 (.mv (.t 54)), ⟨some 56, some (55, false), .ld 4 true (.t 5)⟩, ⟨some 57, some (55, false), .call 39 [(.t 56)]⟩, ⟨some 58, some (55, false), .un .not (.t 57)⟩, o 59 (.pick (.t 55) (.c (.bool true)) (.t 58)), o 60 (.mv (.t 59)), ⟨some 61, some (60, false), .fa 5 (.t 4)⟩, ⟨some 62, some (60, false), .ld 1 false (.t 61)⟩, ⟨some 63, some (60, false), .bin .neq (.t 62) (.c (.str ⟨#[]⟩))⟩, ⟨some 64, some (60, false), .mv (.t 63)⟩, ⟨some 65, some (64, true), .mv (.t 0)⟩, ⟨some 66, some (64, true), .fa 5 (.t 4)⟩, ⟨some 67, some (64, true), .ld 1 false (.t 66)⟩, ⟨some 68, some (64, true), .call 32 [(.t 65), (.t 67)]⟩, ⟨some 69, some (64, true), .bin .lss (.t 68) (.c (.int .i64 0))⟩, ⟨some 70, some (60, false), .pick (.t 64) (.t 69) (.c (.bool false))⟩, o 71 (.pick (.t 60) (.c (.bool true)) (.t 70))]) (.cond (.t 71) (.seq (.reg [o 2 (.mv (.c (.bool false)))]) (.ret)) (.skip)))))))) (.reg [o 72 (.bin .add (.t 8) (.c (.int .i64 1))), o 8 (.mv (.t 72))])))
def F_impl_LinesOk : RF := ⟨76, 1, [.t 2],
  .seq (.reg [o 2 (.mv (.c (.bool false)))]) (.seq (.seq (.reg [o 6 (.mv (.t 0)), o 7 (.len false (.t 6)), o 8 (.mv (.c (.int .i64 0)))]) (.block 0 (.loop [0, 6, 7, 8] [(1, [0]), (0, [2])] B0_impl_LinesOk))) (.seq (.reg [o 73 (.mv (.t 0)), o 74 (.len false (.t 73)), o 75 (.bin .leq (.t 74) (.c (.int .i64 900))), o 2 (.mv (.t 75))]) (.ret)))⟩
def K_impl_LinesOk : Keeps := [([0, 6, 7, 8], [(1, [0]), (0, [2])])]
theorem r_impl_LinesOk : resolveF Try.prog Try.f21 K_impl_LinesOk = some F_impl_LinesOk := by kernel_rfl
def X_impl_LinesOk : Ctx := Ctx.cons 38 G_impl_within (Ctx.cons 32 G_impl_labelAt (Ctx.cons 39 G_impl_InsOk (fun _ => none)))
theorem co_impl_LinesOk : CtxOk Try.prog X_impl_LinesOk := CtxOk.cons (CtxOk.cons (CtxOk.cons (CtxOk.nil) ok_impl_InsOk) ok_impl_labelAt) ok_impl_within
theorem cx_impl_LinesOk : (CX X_impl_LinesOk 38 G_impl_within false) ∧ (CX X_impl_LinesOk 32 G_impl_labelAt false) ∧ (CX X_impl_LinesOk 39 G_impl_InsOk false) := ⟨cxI rfl rfl, cxI rfl rfl, cxI rfl rfl⟩
def S_impl_LinesOk : ByV := ⟨none, false, semF X_impl_LinesOk F_impl_LinesOk none false⟩
def G_impl_LinesOk : CK := .byv S_impl_LinesOk
theorem sg_impl_LinesOk (args : List AV) : S_impl_LinesOk.sem args = semF X_impl_LinesOk F_impl_LinesOk none false args := rfl
theorem cl_impl_LinesOk (args hp) : callS G_impl_LinesOk args hp = byvS S_impl_LinesOk args hp := callS_byv rfl rfl args hp
theorem ok_impl_LinesOk : InlOk Try.prog 21 (callS G_impl_LinesOk) := byv_none co_impl_LinesOk Try.func21 r_impl_LinesOk rfl (fun _ _ h => h)
def F_impl_Encode : RF := ⟨21, 1, [.t 2, .t 3],
  .seq (.reg [o 1 (.box (.t 0)), o 2 (.mv (.c (.int .i64 0))), o 3 (.mv (.c (.bool false)))]) (.seq (.seq (.reg [o 4 (.ld 4 true (.t 1)), o 5 (.call 39 [(.t 4)]), o 6 (.un .not (.t 5))]) (.cond (.t 6) (.seq (.reg [o 2 (.mv (.c (.int .i64 0))), o 3 (.mv (.c (.bool false)))]) (.ret)) (.skip))) (.seq (.reg [o 7 (.fa 0 (.t 1)), o 8 (.ld 1 false (.t 7)), o 9 (.bin .shl (.t 8) (.c (.int .u64 28))), o 10 (.fa 1 (.t 1)), o 11 (.ld 1 false (.t 10)), o 12 (.bin .shl (.t 11) (.c (.int .u64 25))), o 13 (.bin .add (.t 9) (.t 12)), o 14 (.fa 2 (.t 1)), o 15 (.ld 1 false (.t 14)), o 16 (.bin .shl (.t 15) (.c (.int .u64 22))), o 17 (.bin .add (.t 13) (.t 16)), o 18 (.fa 3 (.t 1)), o 19 (.ld 1 false (.t 18)), o 20 (.bin .add (.t 17) (.t 19)), o 2 (.mv (.t 20)), o 3 (.mv (.c (.bool true)))]) (.ret)))⟩
def K_impl_Encode : Keeps := []
theorem r_impl_Encode : resolveF Try.prog Try.f27 K_impl_Encode = some F_impl_Encode := by kernel_rfl
def X_impl_Encode : Ctx := Ctx.cons 39 G_impl_InsOk (fun _ => none)
theorem co_impl_Encode : CtxOk Try.prog X_impl_Encode := CtxOk.cons (CtxOk.nil) ok_impl_InsOk
theorem cx_impl_Encode : (CX X_impl_Encode 39 G_impl_InsOk false) := cxI rfl rfl
def S_impl_Encode : ByV := ⟨none, false, semF X_impl_Encode F_impl_Encode none false⟩
def G_impl_Encode : CK := .byv S_impl_Encode
theorem sg_impl_Encode (args : List AV) : S_impl_Encode.sem args = semF X_impl_Encode F_impl_Encode none false args := rfl
theorem cl_impl_Encode (args hp) : callS G_impl_Encode args hp = byvS S_impl_Encode args hp := callS_byv rfl rfl args hp
theorem ok_impl_Encode : InlOk Try.prog 27 (callS G_impl_Encode) := byv_none co_impl_Encode Try.func27 r_impl_Encode rfl (fun _ _ h => h)
def B0_impl_Assemble : RC :=
  .seq (.reg [o 21 (.bin .lss (.t 20) (.t 19))]) (.seq (.cond (.t 21) (.skip) (.exit 0)) (.seq (.block 1 (.seq (.reg [o 22 (.ia 6 (.t 18) (.t 20)), o 23 (.ld 6 true (.t 22)), o 7 (.new [(.str ⟨#[]⟩), (.int .i64 0), (.int .i64 0), (.int .i64 0), (.int .i64 0), (.str ⟨#[]⟩)]), ⟨none, none, .st 6 (.t 7) (.t 23)⟩]) (.seq (.reg [o 24 (.fa 1 (.t 7)), o 25 (.fa 0 (.t 24)), o 26 (.ld 1 false (.t 25)), o 27 (.bin .eql (.t 26) (.c (.int .i64 0)))]) (.cond (.t 27) (.reg [o 28 (.mv (.t 4)), o 29 (.fa 0 (.t 7)), o 30 (.ld 1 false (.t 29)), o 31 (.mv (.t 5)), o 68 (.call 1000001 [(.t 68), (.t 28), (.t 30), (.t 31)])]) (.reg [o 32 (.mv (.t 5)), o 33 (.bin .add (.t 32) (.c (.int .i64 1))), o 5 (.mv (.t 33))]))))) (.reg [o 34 (.bin .add (.t 20) (.c (.int .i64 1))), o 20 (.mv (.t 34))])))
def B1_impl_Assemble : RC :=
  .seq (.reg [o 38 (.bin .lss (.t 37) (.t 36))]) (.seq (.cond (.t 38) (.skip) (.exit 2)) (.seq (.block 3 (.seq (.reg [o 39 (.ia 6 (.t 35) (.t 37)), o 40 (.ld 6 true (.t 39)), o 10 (.new [(.str ⟨#[]⟩), (.int .i64 0), (.int .i64 0), (.int .i64 0), (.int .i64 0), (.str ⟨#[]⟩)]), ⟨none, none, .st 6 (.t 10) (.t 40)⟩]) (.seq (.seq (.reg [o 41 (.fa 1 (.t 10)), o 42 (.fa 0 (.t 41)), o 43 (.ld 1 false (.t 42)), o 44 (.bin .eql (.t 43) (.c (.int .i64 0)))]) (.cond (.t 44) (.exit 3) (.skip))) (.seq (.reg [o 45 (.fa 1 (.t 10)), o 46 (.ld 4 true (.t 45)), o 11 (.new [(.int .i64 0), (.int .i64 0), (.int .i64 0), (.int .i64 0)]), ⟨none, none, .st 4 (.t 11) (.t 46)⟩]) (.seq (.seq (.reg [o 47 (.fa 5 (.t 10)), o 48 (.ld 1 false (.t 47)), o 49 (.bin .neq (.t 48) (.c (.str ⟨#[]⟩)))]) (.cond (.t 49) (.reg [o 50 (.mv (.t 4)), o 51 (.fa 5 (.t 10)), o 52 (.ld 1 false (.t 51)), o 53 (.call 1000002 [(.t 68), (.t 50), (.t 52)]), o 54 (.fa 3 (.t 11)), ⟨none, none, .st 1 (.t 54) (.t 53)⟩]) (.skip))) (.seq (.reg [o 56 (.ld 4 true (.t 11)), o 57 (.call 27 [(.t 56)]), o 55 (.mv (.t 57)), o 58 (.ex (.t 55) 0), o 59 (.ex (.t 55) 1), o 12 (.mv (.t 58)), o 13 (.mv (.t 59))]) (.seq (.seq (.reg [o 60 (.mv (.t 13)), o 61 (.un .not (.t 60))]) (.cond (.t 61) (.seq (.reg [o 2 (.mv (.c (.nil 1))), o 3 (.mv (.c (.bool false)))]) (.ret)) (.skip))) (.reg [o 62 (.mv (.t 8)), o 63 (.mv (.t 12)), o 64 (.bsl 1 [(.t 63)]), o 65 (.app true 1 8 (.t 62) (.t 64)), o 8 (.mv (.t 65))])))))))) (.reg [o 66 (.bin .add (.t 37) (.c (.int .i64 1))), o 37 (.mv (.t 66))])))
def F_impl_Assemble : RF := ⟨68, 1, [.t 2, .t 3],
  .seq (.reg [o 2 (.mv (.c (.nil 1))), o 3 (.mv (.c (.bool false)))]) (.seq (.seq (.reg [o 14 (.mv (.t 0)), o 15 (.call 21 [(.t 14)]), o 16 (.un .not (.t 15))]) (.cond (.t 16) (.seq (.reg [o 2 (.mv (.c (.nil 1))), o 3 (.mv (.c (.bool false)))]) (.ret)) (.skip))) (.seq (.reg [o 68 (.call 1000000 [(.t 4), (.t 17), (.t 28), (.t 50), (.t 68)]), o 17 (.mv (.c (.bool true))), o 4 (.mv (.t 17))]) (.seq (.reg [o 5 (.mv (.c (.int .i64 0)))]) (.seq (.seq (.reg [o 18 (.mv (.t 0)), o 19 (.len false (.t 18)), o 20 (.mv (.c (.int .i64 0)))]) (.block 0 (.loop [0, 4, 5, 18, 19, 20, 68] [(1, [0, 4, 68])] B0_impl_Assemble))) (.seq (.reg [o 8 (.mv (.c (.nil 1)))]) (.seq (.seq (.reg [o 35 (.mv (.t 0)), o 36 (.len false (.t 35)), o 37 (.mv (.c (.int .i64 0)))]) (.block 2 (.loop [4, 8, 35, 36, 37, 68] [(3, [8]), (0, [2, 3])] B1_impl_Assemble))) (.seq (.reg [o 67 (.mv (.t 8)), o 2 (.mv (.t 67)), o 3 (.mv (.c (.bool true)))]) (.ret))))))))⟩
def K_impl_Assemble : Keeps := [([0, 4, 5, 18, 19, 20, 68], [(1, [0, 4, 68])]), ([4, 8, 35, 36, 37, 68], [(3, [8]), (0, [2, 3])])]
theorem r_impl_Assemble : resolveFM Try.prog Try.f8 K_impl_Assemble [4, 17, 28, 50, 68] 68 = some F_impl_Assemble := by kernel_rfl
def X_impl_Assemble : Ctx := Ctx.cons 21 G_impl_LinesOk (Ctx.cons 27 G_impl_Encode (fun _ => none))
theorem co_impl_Assemble : CtxOk Try.prog X_impl_Assemble := CtxOk.cons (CtxOk.cons (CtxOk.nil) ok_impl_Encode) ok_impl_LinesOk
def Y_impl_Assemble : Ctx := ctxM X_impl_Assemble
theorem cx_impl_Assemble : (CX Y_impl_Assemble 21 G_impl_LinesOk false) ∧ (CX Y_impl_Assemble 27 G_impl_Encode false) ∧ (CX Y_impl_Assemble 1000000 G_mapMk true) ∧ (CX Y_impl_Assemble 1000001 G_mapPut true) ∧ (CX Y_impl_Assemble 1000002 G_mapGet true) := ⟨cxI rfl rfl, cxI rfl rfl, cxI rfl rfl, cxI rfl rfl, cxI rfl rfl⟩
def S_impl_Assemble : ByV := ⟨none, false, semF Y_impl_Assemble F_impl_Assemble none false⟩
def G_impl_Assemble : CK := .byv S_impl_Assemble
theorem sg_impl_Assemble (args : List AV) : S_impl_Assemble.sem args = semF Y_impl_Assemble F_impl_Assemble none false args := rfl
theorem cl_impl_Assemble (args hp) : callS G_impl_Assemble args hp = byvS S_impl_Assemble args hp := callS_byv rfl rfl args hp
theorem ok_impl_Assemble : InlOk Try.prog 8 (callS G_impl_Assemble) := byv_noneM co_impl_Assemble Try.func8 r_impl_Assemble rfl rfl (fun _ _ h => h)
def B0_impl_CountOf : RC :=
  .seq (.reg [o 9 (.bin .lss (.t 8) (.t 7))]) (.seq (.cond (.t 9) (.skip) (.exit 0)) (.seq (.block 1 (.seq (.reg [o 10 (.ia 6 (.t 6) (.t 8)), o 11 (.ld 6 true (.t 10)), o 5 (.new [(.str ⟨#[]⟩), (.int .i64 0), (.int .i64 0), (.int .i64 0), (.int .i64 0), (.str ⟨#[]⟩)]), ⟨none, none, .st 6 (.t 5) (.t 11)⟩]) (.seq (.reg [o 12 (.fa 1 (.t 5)), o 13 (.fa 0 (.t 12)), o 14 (.ld 1 false (.t 13)), o 15 (.bin .neq (.t 14) (.c (.int .i64 0)))]) (.cond (.t 15) (.reg [o 16 (.mv (.t 3)), o 17 (.bin .add (.t 16) (.c (.int .i64 1))), o 3 (.mv (.t 17))]) (.skip))))) (.reg [o 18 (.bin .add (.t 8) (.c (.int .i64 1))), o 8 (.mv (.t 18))])))
def F_impl_CountOf : RF := ⟨20, 1, [.t 2],
  .seq (.reg [o 2 (.mv (.c (.int .i64 0)))]) (.seq (.reg [o 3 (.mv (.c (.int .i64 0)))]) (.seq (.seq (.reg [o 6 (.mv (.t 0)), o 7 (.len false (.t 6)), o 8 (.mv (.c (.int .i64 0)))]) (.block 0 (.loop [3, 6, 7, 8] [(1, [3])] B0_impl_CountOf))) (.seq (.reg [o 19 (.mv (.t 3)), o 2 (.mv (.t 19))]) (.ret))))⟩
def K_impl_CountOf : Keeps := [([3, 6, 7, 8], [(1, [3])])]
theorem r_impl_CountOf : resolveF Try.prog Try.f16 K_impl_CountOf = some F_impl_CountOf := by kernel_rfl
def X_impl_CountOf : Ctx := fun _ => none
theorem co_impl_CountOf : CtxOk Try.prog X_impl_CountOf := CtxOk.nil
theorem cx_impl_CountOf : True := trivial
def S_impl_CountOf : ByV := ⟨none, false, semF X_impl_CountOf F_impl_CountOf none false⟩
def G_impl_CountOf : CK := .byv S_impl_CountOf
theorem sg_impl_CountOf (args : List AV) : S_impl_CountOf.sem args = semF X_impl_CountOf F_impl_CountOf none false args := rfl
theorem cl_impl_CountOf (args hp) : callS G_impl_CountOf args hp = byvS S_impl_CountOf args hp := callS_byv rfl rfl args hp
theorem ok_impl_CountOf : InlOk Try.prog 16 (callS G_impl_CountOf) := byv_none co_impl_CountOf Try.func16 r_impl_CountOf rfl (fun _ _ h => h)
def F_impl_PlaceOf : RF := ⟨15, 2, [.t 4],
  .seq (.reg [o 4 (.mv (.c (.int .i64 0)))]) (.seq (.reg [o 6 (.mv (.t 0)), o 7 (.mv (.t 1)), o 8 (.call 32 [(.t 6), (.t 7)]), o 5 (.mv (.t 8))]) (.seq (.seq (.reg [o 9 (.mv (.t 5)), o 10 (.bin .lss (.t 9) (.c (.int .i64 0)))]) (.cond (.t 10) (.seq (.reg [o 4 (.mv (.c (.int .i64 (-1))))]) (.ret)) (.skip))) (.seq (.reg [o 11 (.mv (.t 0)), o 12 (.mv (.t 5)), o 13 (.slc false 6 (.t 11) none (some (.t 12))), o 14 (.call 16 [(.t 13)]), o 4 (.mv (.t 14))]) (.ret))))⟩
def K_impl_PlaceOf : Keeps := []
theorem r_impl_PlaceOf : resolveF Try.prog Try.f17 K_impl_PlaceOf = some F_impl_PlaceOf := by kernel_rfl
def X_impl_PlaceOf : Ctx := Ctx.cons 32 G_impl_labelAt (Ctx.cons 16 G_impl_CountOf (fun _ => none))
theorem co_impl_PlaceOf : CtxOk Try.prog X_impl_PlaceOf := CtxOk.cons (CtxOk.cons (CtxOk.nil) ok_impl_CountOf) ok_impl_labelAt
theorem cx_impl_PlaceOf : (CX X_impl_PlaceOf 32 G_impl_labelAt false) ∧ (CX X_impl_PlaceOf 16 G_impl_CountOf false) := ⟨cxI rfl rfl, cxI rfl rfl⟩
def S_impl_PlaceOf : ByV := ⟨none, false, semF X_impl_PlaceOf F_impl_PlaceOf none false⟩
def G_impl_PlaceOf : CK := .byv S_impl_PlaceOf
theorem sg_impl_PlaceOf (args : List AV) : S_impl_PlaceOf.sem args = semF X_impl_PlaceOf F_impl_PlaceOf none false args := rfl
theorem cl_impl_PlaceOf (args hp) : callS G_impl_PlaceOf args hp = byvS S_impl_PlaceOf args hp := callS_byv rfl rfl args hp
theorem ok_impl_PlaceOf : InlOk Try.prog 17 (callS G_impl_PlaceOf) := byv_none co_impl_PlaceOf Try.func17 r_impl_PlaceOf rfl (fun _ _ h => h)
def B0_spec_l16First : RC :=
  .seq (.seq (.reg [o 6 (.mv (.t 5)), o 7 (.mv (.t 0)), o 8 (.len false (.t 7)), o 9 (.bin .lss (.t 6) (.t 8))]) (.cond (.t 9) (.skip) (.exit 0))) (.seq (.block 1 (.seq (.reg [o 12 (.mv (.t 0)), o 13 (.mv (.t 5)), o 14 (.ia 6 (.t 12) (.t 13)), o 15 (.fa 1 (.t 14)), o 16 (.fa 0 (.t 15)), o 17 (.ld 1 false (.t 16)), o 18 (.bin .eql (.t 17) (.c (.int .i64 0))), o 19 (.mv (.t 18)), ⟨some 20, some (19, true), .mv (.t 0)⟩, ⟨some 21, some (19, true), .mv (.t 5)⟩, ⟨some 22, some (19, true), .ia 6 (.t 20) (.t 21)⟩, ⟨some 23, some (19, true), .fa 0 (.t 22)⟩, ⟨some 24, some (19, true), .ld 1 false (.t 23)⟩, ⟨some 25, some (19, true), .mv (.t 1)⟩, ⟨some 26, some (19, true), .bin .eql (.t 24) (.t 25)⟩, o 27 (.pick (.t 19) (.t 26) (.c (.bool false)))]) (.cond (.t 27) (.seq (.reg [o 28 (.mv (.t 5)), o 4 (.mv (.t 28))]) (.ret)) (.skip)))) (.reg [o 10 (.mv (.t 5)), o 11 (.bin .add (.t 10) (.c (.int .i64 1))), o 5 (.mv (.t 11))]))
def F_spec_l16First : RF := ⟨29, 2, [.t 4],
  .seq (.reg [o 4 (.mv (.c (.int .i64 0)))]) (.seq (.seq (.reg [o 5 (.mv (.c (.int .i64 0)))]) (.block 0 (.loop [0, 1, 5] [(1, []), (0, [4])] B0_spec_l16First))) (.seq (.reg [o 4 (.mv (.c (.int .i64 (-1))))]) (.ret)))⟩
def K_spec_l16First : Keeps := [([0, 1, 5], [(1, []), (0, [4])])]
theorem r_spec_l16First : resolveF Try.prog Try.f33 K_spec_l16First = some F_spec_l16First := by kernel_rfl
def X_spec_l16First : Ctx := fun _ => none
theorem co_spec_l16First : CtxOk Try.prog X_spec_l16First := CtxOk.nil
theorem cx_spec_l16First : True := trivial
def S_spec_l16First : ByV := ⟨none, false, semF X_spec_l16First F_spec_l16First none false⟩
def G_spec_l16First : CK := .byv S_spec_l16First
theorem sg_spec_l16First (args : List AV) : S_spec_l16First.sem args = semF X_spec_l16First F_spec_l16First none false args := rfl
theorem cl_spec_l16First (args hp) : callS G_spec_l16First args hp = byvS S_spec_l16First args hp := callS_byv rfl rfl args hp
theorem ok_spec_l16First : InlOk Try.prog 33 (callS G_spec_l16First) := byv_none co_spec_l16First Try.func33 r_spec_l16First rfl (fun _ _ h => h)
def B0_spec_CountOf : RC :=
  .seq (.seq (.reg [o 5 (.mv (.t 4)), o 6 (.mv (.t 0)), o 7 (.len false (.t 6)), o 8 (.bin .lss (.t 5) (.t 7))]) (.cond (.t 8) (.skip) (.exit 0))) (.seq (.block 1 (.seq (.reg [o 11 (.mv (.t 0)), o 12 (.mv (.t 4)), o 13 (.ia 6 (.t 11) (.t 12)), o 14 (.fa 1 (.t 13)), o 15 (.fa 0 (.t 14)), o 16 (.ld 1 false (.t 15)), o 17 (.bin .neq (.t 16) (.c (.int .i64 0)))]) (.cond (.t 17) (.reg [o 18 (.mv (.t 3)), o 19 (.bin .add (.t 18) (.c (.int .i64 1))), o 3 (.mv (.t 19))]) (.skip)))) (.reg [o 9 (.mv (.t 4)), o 10 (.bin .add (.t 9) (.c (.int .i64 1))), o 4 (.mv (.t 10))]))
def F_spec_CountOf : RF := ⟨21, 1, [.t 2],
  .seq (.reg [o 2 (.mv (.c (.int .i64 0)))]) (.seq (.reg [o 3 (.mv (.c (.int .i64 0)))]) (.seq (.seq (.reg [o 4 (.mv (.c (.int .i64 0)))]) (.block 0 (.loop [0, 3, 4] [(1, [3])] B0_spec_CountOf))) (.seq (.reg [o 20 (.mv (.t 3)), o 2 (.mv (.t 20))]) (.ret))))⟩
def K_spec_CountOf : Keeps := [([0, 3, 4], [(1, [3])])]
theorem r_spec_CountOf : resolveF Try.prog Try.f34 K_spec_CountOf = some F_spec_CountOf := by kernel_rfl
def X_spec_CountOf : Ctx := fun _ => none
theorem co_spec_CountOf : CtxOk Try.prog X_spec_CountOf := CtxOk.nil
theorem cx_spec_CountOf : True := trivial
def S_spec_CountOf : ByV := ⟨none, false, semF X_spec_CountOf F_spec_CountOf none false⟩
def G_spec_CountOf : CK := .byv S_spec_CountOf
theorem sg_spec_CountOf (args : List AV) : S_spec_CountOf.sem args = semF X_spec_CountOf F_spec_CountOf none false args := rfl
theorem cl_spec_CountOf (args hp) : callS G_spec_CountOf args hp = byvS S_spec_CountOf args hp := callS_byv rfl rfl args hp
theorem ok_spec_CountOf : InlOk Try.prog 34 (callS G_spec_CountOf) := byv_none co_spec_CountOf Try.func34 r_spec_CountOf rfl (fun _ _ h => h)
def F_spec_PlaceOf : RF := ⟨15, 2, [.t 4],
  .seq (.reg [o 4 (.mv (.c (.int .i64 0)))]) (.seq (.reg [o 6 (.mv (.t 0)), o 7 (.mv (.t 1)), o 8 (.call 33 [(.t 6), (.t 7)]), o 5 (.mv (.t 8))]) (.seq (.seq (.reg [o 9 (.mv (.t 5)), o 10 (.bin .lss (.t 9) (.c (.int .i64 0)))]) (.cond (.t 10) (.seq (.reg [o 4 (.mv (.c (.int .i64 (-1))))]) (.ret)) (.skip))) (.seq (.reg [o 11 (.mv (.t 0)), o 12 (.mv (.t 5)), o 13 (.slc false 6 (.t 11) none (some (.t 12))), o 14 (.call 34 [(.t 13)]), o 4 (.mv (.t 14))]) (.ret))))⟩
def K_spec_PlaceOf : Keeps := []
theorem r_spec_PlaceOf : resolveF Try.prog Try.f18 K_spec_PlaceOf = some F_spec_PlaceOf := by kernel_rfl
def X_spec_PlaceOf : Ctx := Ctx.cons 33 G_spec_l16First (Ctx.cons 34 G_spec_CountOf (fun _ => none))
theorem co_spec_PlaceOf : CtxOk Try.prog X_spec_PlaceOf := CtxOk.cons (CtxOk.cons (CtxOk.nil) ok_spec_CountOf) ok_spec_l16First
theorem cx_spec_PlaceOf : (CX X_spec_PlaceOf 33 G_spec_l16First false) ∧ (CX X_spec_PlaceOf 34 G_spec_CountOf false) := ⟨cxI rfl rfl, cxI rfl rfl⟩
def S_spec_PlaceOf : ByV := ⟨none, false, semF X_spec_PlaceOf F_spec_PlaceOf none false⟩
def G_spec_PlaceOf : CK := .byv S_spec_PlaceOf
theorem sg_spec_PlaceOf (args : List AV) : S_spec_PlaceOf.sem args = semF X_spec_PlaceOf F_spec_PlaceOf none false args := rfl
theorem cl_spec_PlaceOf (args hp) : callS G_spec_PlaceOf args hp = byvS S_spec_PlaceOf args hp := callS_byv rfl rfl args hp
theorem ok_spec_PlaceOf : InlOk Try.prog 18 (callS G_spec_PlaceOf) := byv_none co_spec_PlaceOf Try.func18 r_spec_PlaceOf rfl (fun _ _ h => h)
def F_spec_l01In : RF := ⟨15, 3, [.t 6],
  .seq (.reg [o 6 (.mv (.c (.bool false)))]) (.seq (.reg [o 7 (.mv (.t 0)), o 8 (.mv (.t 1)), o 9 (.bin .geq (.t 7) (.t 8)), o 10 (.mv (.t 9)), ⟨some 11, some (10, true), .mv (.t 0)⟩, ⟨some 12, some (10, true), .mv (.t 2)⟩, ⟨some 13, some (10, true), .bin .leq (.t 11) (.t 12)⟩, o 14 (.pick (.t 10) (.t 13) (.c (.bool false))), o 6 (.mv (.t 14))]) (.ret))⟩
def K_spec_l01In : Keeps := []
theorem r_spec_l01In : resolveF Try.prog Try.f35 K_spec_l01In = some F_spec_l01In := by kernel_rfl
def X_spec_l01In : Ctx := fun _ => none
theorem co_spec_l01In : CtxOk Try.prog X_spec_l01In := CtxOk.nil
theorem cx_spec_l01In : True := trivial
def S_spec_l01In : ByV := ⟨none, false, semF X_spec_l01In F_spec_l01In none false⟩
def G_spec_l01In : CK := .byv S_spec_l01In
theorem sg_spec_l01In (args : List AV) : S_spec_l01In.sem args = semF X_spec_l01In F_spec_l01In none false args := rfl
theorem cl_spec_l01In (args hp) : callS G_spec_l01In args hp = byvS S_spec_l01In args hp := callS_byv rfl rfl args hp
theorem ok_spec_l01In : InlOk Try.prog 35 (callS G_spec_l01In) := byv_none co_spec_l01In Try.func35 r_spec_l01In rfl (fun _ _ h => h)
def F_spec_InsOk : RF := ⟨71, 1, [.t 2],
  .seq (.reg [o 1 (.box (.t 0)), o 2 (.mv (.c (.bool false)))]) (.seq (.seq (.reg [o 3 (.fa 0 (.t 1)), o 4 (.ld 1 false (.t 3)), o 5 (.call 35 [(.t 4), (.c (.int .i64 1)), (.c (.int .i64 10))]), o 6 (.un .not (.t 5)), o 7 (.mv (.t 6)), ⟨some 8, some (7, false), .fa 1 (.t 1)⟩, ⟨some 9, some (7, false), .ld 1 false (.t 8)⟩, ⟨some 10, some (7, false), .call 35 [(.t 9), (.c (.int .i64 0)), (.c (.int .i64 7))]⟩, ⟨some 11, some (7, false), .un .not (.t 10)⟩, o 12 (.pick (.t 7) (.c (.bool true)) (.t 11)), o 13 (.mv (.t 12)), ⟨some 14, some (13, false), .fa 2 (.t 1)⟩, ⟨some 15, some (13, false), .ld 1 false (.t 14)⟩, ⟨some 16, some (13, false), .call 35 [(.t 15), (.c (.int .i64 0)), (.c (.int .i64 7))]⟩, ⟨some 17, some (13, false), .un .not (.t 16)⟩, o 18 (.pick (.t 13) (.c (.bool true)) (.t 17)), o 19 (.mv (.t 18)), ⟨some 20, some (19, false), .fa 3 (.t 1)⟩, ⟨some 21, some (19, false), .ld 1 false (.t 20)⟩, ⟨some 22, some (19, false), .call 35 [(.t 21), (.c (.int .i64 0)), (.c (.int .i64 4194303))]⟩, ⟨some 23, some (19, false), .un .not (.t 22)⟩, o 24 (.pick (.t 19) (.c (.bool true)) (.t 23))]) (.cond (.t 24) (.seq (.reg [o 2 (.mv (.c (.bool false)))]) (.ret)) (.skip))) (.seq (.seq (.reg [o 25 (.fa 0 (.t 1)), o 26 (.ld 1 false (.t 25)), o 27 (.bin .neq (.t 26) (.c (.int .i64 4))), o 28 (.mv (.t 27)), ⟨some 29, some (28, true), .fa 0 (.t 1)⟩, ⟨some 30, some (28, true), .ld 1 false (.t 29)⟩, ⟨some 31, some (28, true), .bin .neq (.t 30) (.c (.int .i64 10))⟩, o 32 (.pick (.t 28) (.t 31) (.c (.bool false))), o 33 (.mv (.t 32)), ⟨some 34, some (33, true), .fa 2 (.t 1)⟩, ⟨some 35, some (33, true), .ld 1 false (.t 34)⟩, ⟨some 36, some (33, true), .bin .neq (.t 35) (.c (.int .i64 0))⟩, o 37 (.pick (.t 33) (.t 36) (.c (.bool false)))]) (.cond (.t 37) (.seq (.reg [o 2 (.mv (.c (.bool false)))]) (.ret)) (.skip))) (.seq (.seq (.reg [o 38 (.fa 0 (.t 1)), o 39 (.ld 1 false (.t 38))]) (.block 0 (.seq (.reg [o 41 (.bin .eql (.t 39) (.c (.int .i64 1))), o 40 (.mv (.t 41))]) (.cond (.t 40) (.seq (.reg [o 42 (.fa 3 (.t 1)), o 43 (.ld 1 false (.t 42)), o 44 (.bin .leq (.t 43) (.c (.int .i64 1000000))), o 2 (.mv (.t 44))]) (.ret)) (.seq (.reg [o 46 (.bin .eql (.t 39) (.c (.int .i64 4))), o 45 (.mv (.t 46))]) (.cond (.t 45) (.seq (.reg [o 47 (.fa 3 (.t 1)), o 48 (.ld 1 false (.t 47)), o 49 (.call 35 [(.t 48), (.c (.int .i64 1)), (.c (.int .i64 9))]), o 2 (.mv (.t 49))]) (.ret)) (.seq (.seq (.reg [o 51 (.bin .eql (.t 39) (.c (.int .i64 5))), o 50 (.mv (.t 51))]) (.cond (.t 50) (.skip) (.reg [o 52 (.bin .eql (.t 39) (.c (.int .i64 6))), o 50 (.mv (.t 52))]))) (.cond (.t 50) (.seq (.reg [o 53 (.fa 3 (.t 1)), o 54 (.ld 1 false (.t 53)), o 55 (.bin .eql (.t 54) (.c (.int .i64 0))), o 2 (.mv (.t 55))]) (.ret)) (.seq (.reg [o 57 (.bin .eql (.t 39) (.c (.int .i64 8))), o 56 (.mv (.t 57))]) (.cond (.t 56) (.seq (.reg [o 58 (.fa 1 (.t 1)), o 59 (.ld 1 false (.t 58)), o 60 (.bin .eql (.t 59) (.c (.int .i64 0))), o 2 (.mv (.t 60))]) (.ret)) (.seq (.reg [o 62 (.bin .eql (.t 39) (.c (.int .i64 10))), o 61 (.mv (.t 62))]) (.cond (.t 61) (.seq (.reg [o 63 (.fa 1 (.t 1)), o 64 (.ld 1 false (.t 63)), o 65 (.call 35 [(.t 64), (.c (.int .i64 1)), (.c (.int .i64 7))]), o 66 (.mv (.t 65)), ⟨some 67, some (66, true), .fa 2 (.t 1)⟩, ⟨some 68, some (66, true), .ld 1 false (.t 67)⟩, ⟨some 69, some (66, true), .bin .eql (.t 68) (.c (.int .i64 0))⟩, o 70 (.pick (.t 66) (.t 69) (.c (.bool false))), o 2 (.mv (.t 70))]) (.ret)) (.skip))))))))))))) (.seq (.reg [o 2 (.mv (.c (.bool true)))]) (.ret)))))⟩
def K_spec_InsOk : Keeps := []
theorem r_spec_InsOk : resolveF Try.prog Try.f36 K_spec_InsOk = some F_spec_InsOk := by kernel_rfl
def X_spec_InsOk : Ctx := Ctx.cons 35 G_spec_l01In (fun _ => none)
theorem co_spec_InsOk : CtxOk Try.prog X_spec_InsOk := CtxOk.cons (CtxOk.nil) ok_spec_l01In
theorem cx_spec_InsOk : (CX X_spec_InsOk 35 G_spec_l01In false) := cxI rfl rfl
def S_spec_InsOk : ByV := ⟨none, false, semF X_spec_InsOk F_spec_InsOk none false⟩
def G_spec_InsOk : CK := .byv S_spec_InsOk
theorem sg_spec_InsOk (args : List AV) : S_spec_InsOk.sem args = semF X_spec_InsOk F_spec_InsOk none false args := rfl
theorem cl_spec_InsOk (args hp) : callS G_spec_InsOk args hp = byvS S_spec_InsOk args hp := callS_byv rfl rfl args hp
theorem ok_spec_InsOk : InlOk Try.prog 36 (callS G_spec_InsOk) := byv_none co_spec_InsOk Try.func36 r_spec_InsOk rfl (fun _ _ h => h)
def F_spec_Decode : RF := ⟨25, 1, [.cell 2 4 true, .t 3],
  .seq (.reg [o 2 (.new [(.int .i64 0), (.int .i64 0), (.int .i64 0), (.int .i64 0)]), o 3 (.mv (.c (.bool false)))]) (.seq (.seq (.reg [o 5 (.mv (.t 0)), o 6 (.call 35 [(.t 5), (.c (.int .i64 0)), (.c (.int .i64 8589934592))]), o 7 (.un .not (.t 6))]) (.cond (.t 7) (.seq (.reg [o 8 (.build [(.int .i64 0), (.int .i64 0), (.int .i64 0), (.int .i64 0)] []), ⟨none, none, .st 4 (.t 2) (.t 8)⟩, o 3 (.mv (.c (.bool false)))]) (.ret)) (.skip))) (.seq (.reg [o 9 (.mv (.t 0)), o 10 (.bin .shr (.t 9) (.c (.int .u64 28))), o 11 (.mv (.t 0)), o 12 (.bin .shr (.t 11) (.c (.int .u64 25))), o 13 (.bin .and (.t 12) (.c (.int .i64 7))), o 14 (.mv (.t 0)), o 15 (.bin .shr (.t 14) (.c (.int .u64 22))), o 16 (.bin .and (.t 15) (.c (.int .i64 7))), o 17 (.mv (.t 0)), o 18 (.bin .and (.t 17) (.c (.int .i64 4194303))), o 19 (.build [(.int .i64 0), (.int .i64 0), (.int .i64 0), (.int .i64 0)] [(0, 1, (.t 10)), (1, 1, (.t 13)), (2, 1, (.t 16)), (3, 1, (.t 18))]), o 4 (.new [(.int .i64 0), (.int .i64 0), (.int .i64 0), (.int .i64 0)]), ⟨none, none, .st 4 (.t 4) (.t 19)⟩]) (.seq (.seq (.reg [o 20 (.ld 4 true (.t 4)), o 21 (.call 36 [(.t 20)]), o 22 (.un .not (.t 21))]) (.cond (.t 22) (.seq (.reg [o 23 (.build [(.int .i64 0), (.int .i64 0), (.int .i64 0), (.int .i64 0)] []), ⟨none, none, .st 4 (.t 2) (.t 23)⟩, o 3 (.mv (.c (.bool false)))]) (.ret)) (.skip))) (.seq (.reg [o 24 (.ld 4 true (.t 4)), ⟨none, none, .st 4 (.t 2) (.t 24)⟩, o 3 (.mv (.c (.bool true)))]) (.ret)))))⟩
def K_spec_Decode : Keeps := []
theorem r_spec_Decode : resolveF Try.prog Try.f19 K_spec_Decode = some F_spec_Decode := by kernel_rfl
def X_spec_Decode : Ctx := Ctx.cons 35 G_spec_l01In (Ctx.cons 36 G_spec_InsOk (fun _ => none))
theorem co_spec_Decode : CtxOk Try.prog X_spec_Decode := CtxOk.cons (CtxOk.cons (CtxOk.nil) ok_spec_InsOk) ok_spec_l01In
theorem cx_spec_Decode : (CX X_spec_Decode 35 G_spec_l01In false) ∧ (CX X_spec_Decode 36 G_spec_InsOk false) := ⟨cxI rfl rfl, cxI rfl rfl⟩
def S_spec_Decode : ByV := ⟨none, false, semF X_spec_Decode F_spec_Decode none false⟩
def G_spec_Decode : CK := .byv S_spec_Decode
theorem sg_spec_Decode (args : List AV) : S_spec_Decode.sem args = semF X_spec_Decode F_spec_Decode none false args := rfl
theorem cl_spec_Decode (args hp) : callS G_spec_Decode args hp = byvS S_spec_Decode args hp := callS_byv rfl rfl args hp
theorem ok_spec_Decode : InlOk Try.prog 19 (callS G_spec_Decode) := byv_none co_spec_Decode Try.func19 r_spec_Decode rfl (fun _ _ h => h)
def F_spec_l14Any : RF := ⟨38, 1, [.cell 2 4 true],
  .seq (.reg [o 2 (.new [(.int .i64 0), (.int .i64 0), (.int .i64 0), (.int .i64 0)])]) (.seq (.reg [o 6 (.mv (.t 0)), o 7 (.call 42 [(.t 6), (.c (.int .i64 10))]), o 3 (.mv (.t 7))]) (.seq (.reg [o 8 (.mv (.t 0)), o 9 (.call 42 [(.t 8), (.c (.int .i64 60))]), o 4 (.mv (.t 9))]) (.seq (.reg [o 10 (.mv (.t 0)), o 11 (.call 44 [(.t 10)]), o 5 (.new [(.int .i64 0), (.int .i64 0), (.int .i64 0), (.int .i64 0)]), ⟨none, none, .st 4 (.t 5) (.t 11)⟩]) (.seq (.seq (.reg [o 12 (.mv (.t 3))]) (.block 0 (.seq (.reg [o 14 (.bin .eql (.t 12) (.c (.int .i64 0))), o 13 (.mv (.t 14))]) (.cond (.t 13) (.reg [o 15 (.mv (.t 4)), o 16 (.bin .rem (.t 15) (.c (.int .i64 12))), o 17 (.fa 0 (.t 5)), ⟨none, none, .st 1 (.t 17) (.t 16)⟩]) (.seq (.reg [o 19 (.bin .eql (.t 12) (.c (.int .i64 1))), o 18 (.mv (.t 19))]) (.cond (.t 18) (.reg [o 20 (.mv (.t 4)), o 21 (.bin .rem (.t 20) (.c (.int .i64 10))), o 22 (.bin .sub (.t 21) (.c (.int .i64 1))), o 23 (.fa 1 (.t 5)), ⟨none, none, .st 1 (.t 23) (.t 22)⟩]) (.seq (.reg [o 25 (.bin .eql (.t 12) (.c (.int .i64 2))), o 24 (.mv (.t 25))]) (.cond (.t 24) (.reg [o 26 (.mv (.t 4)), o 27 (.bin .rem (.t 26) (.c (.int .i64 10))), o 28 (.fa 2 (.t 5)), ⟨none, none, .st 1 (.t 28) (.t 27)⟩]) (.seq (.reg [o 30 (.bin .eql (.t 12) (.c (.int .i64 3))), o 29 (.mv (.t 30))]) (.cond (.t 29) (.reg [o 31 (.bsl 1 [(.c (.int .i64 (-1))), (.c (.int .i64 0)), (.c (.int .i64 4194303)), (.c (.int .i64 4194304)), (.c (.int .i64 1000001))]), o 32 (.mv (.t 4)), o 33 (.bin .rem (.t 32) (.c (.int .i64 5))), o 34 (.ia 1 (.t 31) (.t 33)), o 35 (.ld 1 false (.t 34)), o 36 (.fa 3 (.t 5)), ⟨none, none, .st 1 (.t 36) (.t 35)⟩]) (.skip))))))))))) (.seq (.reg [o 37 (.ld 4 true (.t 5)), ⟨none, none, .st 4 (.t 2) (.t 37)⟩]) (.ret))))))⟩
def K_spec_l14Any : Keeps := []
theorem r_spec_l14Any : resolveF Try.prog Try.f47 K_spec_l14Any = some F_spec_l14Any := by kernel_rfl
def X_spec_l14Any : Ctx := Ctx.cons 42 G_spec_l01Below (Ctx.cons 44 G_spec_l14Ins (fun _ => none))
theorem co_spec_l14Any : CtxOk Try.prog X_spec_l14Any := CtxOk.cons (CtxOk.cons (CtxOk.nil) ok_spec_l14Ins) ok_spec_l01Below
theorem cx_spec_l14Any : (CX X_spec_l14Any 42 G_spec_l01Below true) ∧ (CX X_spec_l14Any 44 G_spec_l14Ins true) := ⟨cxI rfl rfl, cxI rfl rfl⟩
def H_spec_l14Any : List AV → Hp → Option (AV × Hp) := runF X_spec_l14Any F_spec_l14Any
theorem sh_spec_l14Any (args hp) : H_spec_l14Any args hp = runF X_spec_l14Any F_spec_l14Any args hp := rfl
def G_spec_l14Any : CK := .inl (frame H_spec_l14Any)
theorem cl_spec_l14Any (args hp) : callS G_spec_l14Any args hp = frame H_spec_l14Any args hp := rfl
theorem ok_spec_l14Any : InlOk Try.prog 47 (callS G_spec_l14Any) := frame_ok (runF_ok co_spec_l14Any Try.func47 r_spec_l14Any)
def F_spec_l16Any : RF := ⟨47, 1, [.t 2],
  .seq (.reg [o 2 (.mv (.c (.nil 6)))]) (.seq (.reg [o 5 (.mv (.t 0)), o 6 (.call 42 [(.t 5), (.c (.int .i64 12))]), o 3 (.mv (.t 6))]) (.seq (.reg [o 7 (.bsl 6 []), o 8 (.mv (.t 0)), o 9 (.call 30 [(.t 8)]), o 10 (.app true 6 64 (.t 7) (.t 9)), o 4 (.mv (.t 10))]) (.seq (.seq (.reg [o 11 (.mv (.t 3))]) (.block 0 (.seq (.reg [o 13 (.bin .eql (.t 11) (.c (.int .i64 0))), o 12 (.mv (.t 13))]) (.cond (.t 12) (.reg [o 14 (.mv (.t 4)), o 15 (.build [(.str ⟨#[]⟩), (.int .i64 0), (.int .i64 0), (.int .i64 0), (.int .i64 0), (.str ⟨#[]⟩)] [(0, 1, (.c (.str ⟨#[97]⟩)))]), o 16 (.bsl 6 [(.t 15)]), o 17 (.app true 6 64 (.t 14) (.t 16)), o 4 (.mv (.t 17))]) (.seq (.reg [o 19 (.bin .eql (.t 11) (.c (.int .i64 1))), o 18 (.mv (.t 19))]) (.cond (.t 18) (.reg [o 20 (.mv (.t 4)), o 21 (.build [(.int .i64 0), (.int .i64 0), (.int .i64 0), (.int .i64 0)] [(0, 1, (.c (.int .i64 8)))]), o 22 (.build [(.str ⟨#[]⟩), (.int .i64 0), (.int .i64 0), (.int .i64 0), (.int .i64 0), (.str ⟨#[]⟩)] [(1, 4, (.t 21)), (5, 1, (.c (.str ⟨#[110, 111, 110, 101]⟩)))]), o 23 (.bsl 6 [(.t 22)]), o 24 (.app true 6 64 (.t 20) (.t 23)), o 4 (.mv (.t 24))]) (.seq (.reg [o 26 (.bin .eql (.t 11) (.c (.int .i64 2))), o 25 (.mv (.t 26))]) (.cond (.t 25) (.reg [o 27 (.mv (.t 4)), o 28 (.mv (.t 0)), o 29 (.call 47 [(.t 28)]), o 30 (.build [(.str ⟨#[]⟩), (.int .i64 0), (.int .i64 0), (.int .i64 0), (.int .i64 0), (.str ⟨#[]⟩)] [(1, 4, (.t 29))]), o 31 (.bsl 6 [(.t 30)]), o 32 (.app true 6 64 (.t 27) (.t 31)), o 4 (.mv (.t 32))]) (.seq (.reg [o 34 (.bin .eql (.t 11) (.c (.int .i64 3))), o 33 (.mv (.t 34))]) (.cond (.t 33) (.reg [o 35 (.mv (.t 4)), o 36 (.build [(.int .i64 0), (.int .i64 0), (.int .i64 0), (.int .i64 0)] [(0, 1, (.c (.int .i64 5)))]), o 37 (.build [(.str ⟨#[]⟩), (.int .i64 0), (.int .i64 0), (.int .i64 0), (.int .i64 0), (.str ⟨#[]⟩)] [(1, 4, (.t 36)), (0, 1, (.c (.str ⟨#[120]⟩)))]), o 38 (.bsl 6 [(.t 37)]), o 39 (.app true 6 64 (.t 35) (.t 38)), o 4 (.mv (.t 39))]) (.seq (.reg [o 41 (.bin .eql (.t 11) (.c (.int .i64 4))), o 40 (.mv (.t 41))]) (.cond (.t 40) (.reg [o 42 (.mv (.t 4)), o 43 (.build [(.str ⟨#[]⟩), (.int .i64 0), (.int .i64 0), (.int .i64 0), (.int .i64 0), (.str ⟨#[]⟩)] []), o 44 (.bsl 6 [(.t 43)]), o 45 (.app true 6 64 (.t 42) (.t 44)), o 4 (.mv (.t 45))]) (.skip))))))))))))) (.seq (.reg [o 46 (.mv (.t 4)), o 2 (.mv (.t 46))]) (.ret)))))⟩
def K_spec_l16Any : Keeps := []
theorem r_spec_l16Any : resolveF Try.prog Try.f37 K_spec_l16Any = some F_spec_l16Any := by kernel_rfl
def X_spec_l16Any : Ctx := Ctx.cons 42 G_spec_l01Below (Ctx.cons 30 G_spec_l16Lines (Ctx.cons 47 G_spec_l14Any (fun _ => none)))
theorem co_spec_l16Any : CtxOk Try.prog X_spec_l16Any := CtxOk.cons (CtxOk.cons (CtxOk.cons (CtxOk.nil) ok_spec_l14Any) ok_spec_l16Lines) ok_spec_l01Below
theorem cx_spec_l16Any : (CX X_spec_l16Any 42 G_spec_l01Below true) ∧ (CX X_spec_l16Any 30 G_spec_l16Lines true) ∧ (CX X_spec_l16Any 47 G_spec_l14Any true) := ⟨cxI rfl rfl, cxI rfl rfl, cxI rfl rfl⟩
def H_spec_l16Any : List AV → Hp → Option (AV × Hp) := runF X_spec_l16Any F_spec_l16Any
theorem sh_spec_l16Any (args hp) : H_spec_l16Any args hp = runF X_spec_l16Any F_spec_l16Any args hp := rfl
def G_spec_l16Any : CK := .inl (frame H_spec_l16Any)
theorem cl_spec_l16Any (args hp) : callS G_spec_l16Any args hp = frame H_spec_l16Any args hp := rfl
theorem ok_spec_l16Any : InlOk Try.prog 37 (callS G_spec_l16Any) := frame_ok (runF_ok co_spec_l16Any Try.func37 r_spec_l16Any)
def F_spec_DrawAssemble : RF := ⟨6, 1, [.t 2],
  .seq (.reg [o 2 (.mv (.c (.nil 6)))]) (.seq (.reg [o 3 (.mv (.t 0)), o 4 (.call 31 [(.t 3)]), o 5 (.call 37 [(.t 4)]), o 2 (.mv (.t 5))]) (.ret))⟩
def K_spec_DrawAssemble : Keeps := []
theorem r_spec_DrawAssemble : resolveF Try.prog Try.f20 K_spec_DrawAssemble = some F_spec_DrawAssemble := by kernel_rfl
def X_spec_DrawAssemble : Ctx := Ctx.cons 31 G_spec_l01New (Ctx.cons 37 G_spec_l16Any (fun _ => none))
theorem co_spec_DrawAssemble : CtxOk Try.prog X_spec_DrawAssemble := CtxOk.cons (CtxOk.cons (CtxOk.nil) ok_spec_l16Any) ok_spec_l01New
theorem cx_spec_DrawAssemble : (CX X_spec_DrawAssemble 31 G_spec_l01New true) ∧ (CX X_spec_DrawAssemble 37 G_spec_l16Any true) := ⟨cxI rfl rfl, cxI rfl rfl⟩
def S_spec_DrawAssemble : ByV := ⟨none, false, semF X_spec_DrawAssemble F_spec_DrawAssemble none false⟩
def G_spec_DrawAssemble : CK := .byv S_spec_DrawAssemble
theorem sg_spec_DrawAssemble (args : List AV) : S_spec_DrawAssemble.sem args = semF X_spec_DrawAssemble F_spec_DrawAssemble none false args := rfl
theorem cl_spec_DrawAssemble (args hp) : callS G_spec_DrawAssemble args hp = byvS S_spec_DrawAssemble args hp := callS_byv rfl rfl args hp
theorem ok_spec_DrawAssemble : InlOk Try.prog 20 (callS G_spec_DrawAssemble) := byv_none co_spec_DrawAssemble Try.func20 r_spec_DrawAssemble rfl (fun _ _ h => h)
def B0_spec_LinesOk : RC :=
  .seq (.seq (.reg [o 6 (.mv (.t 3)), o 7 (.mv (.t 0)), o 8 (.len false (.t 7)), o 9 (.bin .lss (.t 6) (.t 8))]) (.cond (.t 9) (.skip) (.exit 0))) (.seq (.block 1 (.seq (.reg [o 12 (.mv (.t 0)), o 13 (.mv (.t 3)), o 14 (.ia 6 (.t 12) (.t 13)), o 15 (.ld 6 true (.t 14)), o 4 (.new [(.str ⟨#[]⟩), (.int .i64 0), (.int .i64 0), (.int .i64 0), (.int .i64 0), (.str ⟨#[]⟩)]), ⟨none, none, .st 6 (.t 4) (.t 15)⟩]) (.seq (.seq (.reg [o 16 (.fa 1 (.t 4)), o 17 (.fa 0 (.t 16)), o 18 (.ld 1 false (.t 17)), o 19 (.bin .eql (.t 18) (.c (.int .i64 0)))]) (.cond (.t 19) (.seq (.seq (.reg [o 20 (.fa 1 (.t 4)), o 21 (.ld 4 true (.t 20)), o 22 (.build [(.int .i64 0), (.int .i64 0), (.int .i64 0), (.int .i64 0)] []), o 23 (.eqs true [(0, 1), (1, 1), (2, 1), (3, 1)] (.t 21) (.t 22)), o 24 (.mv (.t 23)), ⟨some 25, some (24, false), .fa 5 (.t 4)⟩, ⟨some 26, some (24, false), .ld 1 false (.t 25)⟩, ⟨some 27, some (24, false), .bin .neq (.t 26) (.c (.str ⟨#[]⟩))⟩, o 28 (.pick (.t 24) (.c (.bool true)) (.t 27)), o 29 (.mv (.t 28)), ⟨some 30, some (29, false), .fa 0 (.t 4)⟩, ⟨some 31, some (29, false), .ld 1 false (.t 30)⟩, ⟨some 32, some (29, false), .len true (.t 31)⟩, ⟨some 33, some (29, false), .call 35 [(.t 32), (.c (.int .i64 1)), (.c (.int .i64 12))]⟩, ⟨some 34, some (29, false), .un .not (.t 33)⟩, o 35 (.pick (.t 29) (.c (.bool true)) (.t 34)), o 36 (.mv (.t 35)), ⟨some 37, some (36, false), .mv (.t 0)⟩, ⟨some 38, some (36, false), .fa 0 (.t 4)⟩, ⟨some 39, some (36, false), .ld 1 false (.t 38)⟩, ⟨some 40, some (36, false), .call 33 [(.t 37), (.t 39)]⟩, ⟨some 41, some (36, false), .mv (.t 3)⟩, ⟨some 42, some (36, false), .bin .neq (.t 40) (.t 41)⟩, o 43 (.pick (.t 36) (.c (.bool true)) (.t 42))]) (.cond (.t 43) (.seq (.reg [o 2 (.mv (.c (.bool false)))]) (.ret)) (.skip))) (.exit 1)) (.skip))) (.seq (.reg [o 44 (.fa 1 (.t 4)), o 45 (.ld 4 true (.t 44)), o 5 (.new [(.int .i64 0), (.int .i64 0), (.int .i64 0), (.int .i64 0)]), ⟨none, none, .st 4 (.t 5) (.t 45)⟩]) (.seq (.seq (.reg [o 46 (.fa 5 (.t 4)), o 47 (.ld 1 false (.t 46)), o 48 (.bin .neq (.t 47) (.c (.str ⟨#[]⟩)))]) (.cond (.t 48) (.seq (.reg [o 49 (.fa 3 (.t 5)), ⟨none, none, .st 1 (.t 49) (.c (.int .i64 0))⟩]) (.seq (.reg [o 50 (.fa 0 (.t 5)), o 51 (.ld 1 false (.t 50)), o 52 (.bin .eql (.t 51) (.c (.int .i64 4)))]) (.cond (.t 52) (.reg [o 53 (.fa 1 (.t 4)), o 54 (.fa 3 (.t 53)), o 55 (.ld 1 false (.t 54)), o 56 (.fa 3 (.t 5)), ⟨none, none, .st 1 (.t 56) (.t 55)⟩]) (.skip)))) (.skip))) (.seq (.reg [o 57 (.fa 0 (.t 4)), o 58 (.ld 1 false (.t 57)), o 59 (.bin .neq (.t 58) (.c (.str ⟨#[]⟩))), o 60 (.mv (.t 59)), ⟨some 61, some (60, false), .ld 4 true (.t 5)⟩, ⟨some 62, some (60, false), .call 36 [(.t 61)]⟩, ⟨some 63, some (60, false), .un .not (.t 62)⟩, o 64 (.pick (.t 60) (.c (.bool true)) (.t 63)), o 65 (.mv (.t 64)), ⟨some 66, some (65, false), .fa 5 (.t 4)⟩, ⟨some 67, some (65, false), .ld 1 false (.t 66)⟩, ⟨some 68, some (65, false), .bin .neq (.t 67) (.c (.str ⟨#[]⟩))⟩, ⟨some 69, some (65, false), .mv (.t 68)⟩, ⟨some 70, some (69, true), .mv (.t 0)⟩, ⟨some 71, some (69, true), .fa 5 (.t 4)⟩, ⟨some 72, some (69, true), .ld 1 false (.t 71)⟩, ⟨some 73, some (69, true), .call 33 [(.t 70), (.t 72)]⟩, ⟨some 74, some (69, true), .bin .lss (.t 73) (.c (.int .i64 0))⟩, ⟨some 75, some (65, false), .pick (.t 69) (.t 74) (.c (.bool false))⟩, o 76 (.pick (.t 65) (.c (.bool true)) (.t 75))]) (.cond (.t 76) (.seq (.reg [o 2 (.mv (.c (.bool false)))]) (.ret)) (.skip)))))))) (.reg [o 10 (.mv (.t 3)), o 11 (.bin .add (.t 10) (.c (.int .i64 1))), o 3 (.mv (.t 11))]))
def F_spec_LinesOk : RF := ⟨80, 1, [.t 2],
  .seq (.reg [o 2 (.mv (.c (.bool false)))]) (.seq (.seq (.reg [o 3 (.mv (.c (.int .i64 0)))]) (.block 0 (.loop [0, 3] [(1, [0]), (0, [2])] B0_spec_LinesOk))) (.seq (.reg [o 77 (.mv (.t 0)), o 78 (.len false (.t 77)), o 79 (.bin .leq (.t 78) (.c (.int .i64 900))), o 2 (.mv (.t 79))]) (.ret)))⟩
def K_spec_LinesOk : Keeps := [([0, 3], [(1, [0]), (0, [2])])]
theorem r_spec_LinesOk : resolveF Try.prog Try.f23 K_spec_LinesOk = some F_spec_LinesOk := by kernel_rfl
def X_spec_LinesOk : Ctx := Ctx.cons 35 G_spec_l01In (Ctx.cons 33 G_spec_l16First (Ctx.cons 36 G_spec_InsOk (fun _ => none)))
theorem co_spec_LinesOk : CtxOk Try.prog X_spec_LinesOk := CtxOk.cons (CtxOk.cons (CtxOk.cons (CtxOk.nil) ok_spec_InsOk) ok_spec_l16First) ok_spec_l01In
theorem cx_spec_LinesOk : (CX X_spec_LinesOk 35 G_spec_l01In false) ∧ (CX X_spec_LinesOk 33 G_spec_l16First false) ∧ (CX X_spec_LinesOk 36 G_spec_InsOk false) := ⟨cxI rfl rfl, cxI rfl rfl, cxI rfl rfl⟩
def S_spec_LinesOk : ByV := ⟨none, false, semF X_spec_LinesOk F_spec_LinesOk none false⟩
def G_spec_LinesOk : CK := .byv S_spec_LinesOk
theorem sg_spec_LinesOk (args : List AV) : S_spec_LinesOk.sem args = semF X_spec_LinesOk F_spec_LinesOk none false args := rfl
theorem cl_spec_LinesOk (args hp) : callS G_spec_LinesOk args hp = byvS S_spec_LinesOk args hp := callS_byv rfl rfl args hp
theorem ok_spec_LinesOk : InlOk Try.prog 23 (callS G_spec_LinesOk) := byv_none co_spec_LinesOk Try.func23 r_spec_LinesOk rfl (fun _ _ h => h)
def F_spec_Encode : RF := ⟨21, 1, [.t 2, .t 3],
  .seq (.reg [o 1 (.box (.t 0)), o 2 (.mv (.c (.int .i64 0))), o 3 (.mv (.c (.bool false)))]) (.seq (.seq (.reg [o 4 (.ld 4 true (.t 1)), o 5 (.call 36 [(.t 4)]), o 6 (.un .not (.t 5))]) (.cond (.t 6) (.seq (.reg [o 2 (.mv (.c (.int .i64 0))), o 3 (.mv (.c (.bool false)))]) (.ret)) (.skip))) (.seq (.reg [o 7 (.fa 0 (.t 1)), o 8 (.ld 1 false (.t 7)), o 9 (.bin .shl (.t 8) (.c (.int .u64 28))), o 10 (.fa 1 (.t 1)), o 11 (.ld 1 false (.t 10)), o 12 (.bin .shl (.t 11) (.c (.int .u64 25))), o 13 (.bin .add (.t 9) (.t 12)), o 14 (.fa 2 (.t 1)), o 15 (.ld 1 false (.t 14)), o 16 (.bin .shl (.t 15) (.c (.int .u64 22))), o 17 (.bin .add (.t 13) (.t 16)), o 18 (.fa 3 (.t 1)), o 19 (.ld 1 false (.t 18)), o 20 (.bin .add (.t 17) (.t 19)), o 2 (.mv (.t 20)), o 3 (.mv (.c (.bool true)))]) (.ret)))⟩
def K_spec_Encode : Keeps := []
theorem r_spec_Encode : resolveF Try.prog Try.f25 K_spec_Encode = some F_spec_Encode := by kernel_rfl
def X_spec_Encode : Ctx := Ctx.cons 36 G_spec_InsOk (fun _ => none)
theorem co_spec_Encode : CtxOk Try.prog X_spec_Encode := CtxOk.cons (CtxOk.nil) ok_spec_InsOk
theorem cx_spec_Encode : (CX X_spec_Encode 36 G_spec_InsOk false) := cxI rfl rfl
def S_spec_Encode : ByV := ⟨none, false, semF X_spec_Encode F_spec_Encode none false⟩
def G_spec_Encode : CK := .byv S_spec_Encode
theorem sg_spec_Encode (args : List AV) : S_spec_Encode.sem args = semF X_spec_Encode F_spec_Encode none false args := rfl
theorem cl_spec_Encode (args hp) : callS G_spec_Encode args hp = byvS S_spec_Encode args hp := callS_byv rfl rfl args hp
theorem ok_spec_Encode : InlOk Try.prog 25 (callS G_spec_Encode) := byv_none co_spec_Encode Try.func25 r_spec_Encode rfl (fun _ _ h => h)
def B0_spec_Assemble : RC :=
  .seq (.seq (.reg [o 14 (.mv (.t 5)), o 15 (.mv (.t 0)), o 16 (.len false (.t 15)), o 17 (.bin .lss (.t 14) (.t 16))]) (.cond (.t 17) (.skip) (.exit 0))) (.seq (.block 1 (.seq (.reg [o 20 (.mv (.t 0)), o 21 (.mv (.t 5)), o 22 (.ia 6 (.t 20) (.t 21)), o 23 (.fa 1 (.t 22)), o 24 (.ld 4 true (.t 23)), o 6 (.new [(.int .i64 0), (.int .i64 0), (.int .i64 0), (.int .i64 0)]), ⟨none, none, .st 4 (.t 6) (.t 24)⟩]) (.seq (.seq (.reg [o 25 (.fa 0 (.t 6)), o 26 (.ld 1 false (.t 25)), o 27 (.bin .eql (.t 26) (.c (.int .i64 0)))]) (.cond (.t 27) (.exit 1) (.skip))) (.seq (.seq (.reg [o 28 (.mv (.t 0)), o 29 (.mv (.t 5)), o 30 (.ia 6 (.t 28) (.t 29)), o 31 (.fa 5 (.t 30)), o 32 (.ld 1 false (.t 31)), o 33 (.bin .neq (.t 32) (.c (.str ⟨#[]⟩)))]) (.cond (.t 33) (.reg [o 34 (.mv (.t 0)), o 35 (.mv (.t 0)), o 36 (.mv (.t 5)), o 37 (.ia 6 (.t 35) (.t 36)), o 38 (.fa 5 (.t 37)), o 39 (.ld 1 false (.t 38)), o 40 (.call 18 [(.t 34), (.t 39)]), o 41 (.fa 3 (.t 6)), ⟨none, none, .st 1 (.t 41) (.t 40)⟩]) (.skip))) (.seq (.reg [o 43 (.ld 4 true (.t 6)), o 44 (.call 25 [(.t 43)]), o 42 (.mv (.t 44)), o 45 (.ex (.t 42) 0), o 46 (.ex (.t 42) 1), o 7 (.mv (.t 45)), o 8 (.mv (.t 46))]) (.seq (.seq (.reg [o 47 (.mv (.t 8)), o 48 (.un .not (.t 47))]) (.cond (.t 48) (.seq (.reg [o 49 (.bsl 1 []), o 2 (.mv (.t 49)), o 3 (.mv (.c (.bool false)))]) (.ret)) (.skip))) (.reg [o 50 (.mv (.t 4)), o 51 (.mv (.t 7)), o 52 (.bsl 1 [(.t 51)]), o 53 (.app true 1 8 (.t 50) (.t 52)), o 4 (.mv (.t 53))]))))))) (.reg [o 18 (.mv (.t 5)), o 19 (.bin .add (.t 18) (.c (.int .i64 1))), o 5 (.mv (.t 19))]))
def F_spec_Assemble : RF := ⟨55, 1, [.t 2, .t 3],
  .seq (.reg [o 2 (.mv (.c (.nil 1))), o 3 (.mv (.c (.bool false)))]) (.seq (.reg [o 9 (.bsl 1 []), o 4 (.mv (.t 9))]) (.seq (.seq (.reg [o 10 (.mv (.t 0)), o 11 (.call 23 [(.t 10)]), o 12 (.un .not (.t 11))]) (.cond (.t 12) (.seq (.reg [o 13 (.mv (.t 4)), o 2 (.mv (.t 13)), o 3 (.mv (.c (.bool false)))]) (.ret)) (.skip))) (.seq (.seq (.reg [o 5 (.mv (.c (.int .i64 0)))]) (.block 0 (.loop [0, 4, 5] [(1, [4]), (0, [2, 3])] B0_spec_Assemble))) (.seq (.reg [o 54 (.mv (.t 4)), o 2 (.mv (.t 54)), o 3 (.mv (.c (.bool true)))]) (.ret)))))⟩
def K_spec_Assemble : Keeps := [([0, 4, 5], [(1, [4]), (0, [2, 3])])]
theorem r_spec_Assemble : resolveF Try.prog Try.f6 K_spec_Assemble = some F_spec_Assemble := by kernel_rfl
def X_spec_Assemble : Ctx := Ctx.cons 23 G_spec_LinesOk (Ctx.cons 18 G_spec_PlaceOf (Ctx.cons 25 G_spec_Encode (fun _ => none)))
theorem co_spec_Assemble : CtxOk Try.prog X_spec_Assemble := CtxOk.cons (CtxOk.cons (CtxOk.cons (CtxOk.nil) ok_spec_Encode) ok_spec_PlaceOf) ok_spec_LinesOk
theorem cx_spec_Assemble : (CX X_spec_Assemble 23 G_spec_LinesOk false) ∧ (CX X_spec_Assemble 18 G_spec_PlaceOf false) ∧ (CX X_spec_Assemble 25 G_spec_Encode false) := ⟨cxI rfl rfl, cxI rfl rfl, cxI rfl rfl⟩
def S_spec_Assemble : ByV := ⟨none, false, semF X_spec_Assemble F_spec_Assemble none false⟩
def G_spec_Assemble : CK := .byv S_spec_Assemble
theorem sg_spec_Assemble (args : List AV) : S_spec_Assemble.sem args = semF X_spec_Assemble F_spec_Assemble none false args := rfl
theorem cl_spec_Assemble (args hp) : callS G_spec_Assemble args hp = byvS S_spec_Assemble args hp := callS_byv rfl rfl args hp
theorem ok_spec_Assemble : InlOk Try.prog 6 (callS G_spec_Assemble) := byv_none co_spec_Assemble Try.func6 r_spec_Assemble rfl (fun _ _ h => h)
def B0_laws_sameInts : RC :=
  .seq (.seq (.reg [o 11 (.mv (.t 5)), o 12 (.mv (.t 0)), o 13 (.len false (.t 12)), o 14 (.bin .lss (.t 11) (.t 13))]) (.cond (.t 14) (.skip) (.exit 0))) (.seq (.block 1 (.seq (.regd [(0, o 17 (.mv (.t 0))), (0, o 18 (.mv (.t 5))), (1, o 19 (.ia 1 (.t 17) (.t 18))), (1, o 20 (.ld 1 false (.t 19))), (0, o 21 (.mv (.t 1))), (0, o 22 (.mv (.t 5))), (1, o 23 (.ia 1 (.t 21) (.t 22))), (1, o 24 (.ld 1 false (.t 23))), (0, o 25 (.bin .neq (.t 20) (.t 24)))] []) (.cond (.t 25) (.seq (.reg [o 4 (.mv (.c (.bool false)))]) (.ret)) (.skip)))) (.reg [o 15 (.mv (.t 5)), o 16 (.bin .add (.t 15) (.c (.int .i64 1))), o 5 (.mv (.t 16))]))
def F_laws_sameInts : RF := ⟨26, 2, [.t 4],
  .seq (.reg [o 4 (.mv (.c (.bool false)))]) (.seq (.seq (.reg [o 6 (.mv (.t 0)), o 7 (.len false (.t 6)), o 8 (.mv (.t 1)), o 9 (.len false (.t 8)), o 10 (.bin .neq (.t 7) (.t 9))]) (.cond (.t 10) (.seq (.reg [o 4 (.mv (.c (.bool false)))]) (.ret)) (.skip))) (.seq (.seq (.reg [o 5 (.mv (.c (.int .i64 0)))]) (.block 0 (.loop [0, 1, 5] [(1, []), (0, [4])] B0_laws_sameInts))) (.seq (.reg [o 4 (.mv (.c (.bool true)))]) (.ret))))⟩
def K_laws_sameInts : Keeps := [([0, 1, 5], [(1, []), (0, [4])])]
theorem r_laws_sameInts : resolveF Try.prog Try.f22 K_laws_sameInts = some F_laws_sameInts := by kernel_rfl
def X_laws_sameInts : Ctx := fun _ => none
theorem co_laws_sameInts : CtxOk Try.prog X_laws_sameInts := CtxOk.nil
theorem cx_laws_sameInts : True := trivial
def S_laws_sameInts : ByV := ⟨none, false, semF X_laws_sameInts F_laws_sameInts none false⟩
def G_laws_sameInts : CK := .byv S_laws_sameInts
theorem sg_laws_sameInts (args : List AV) : S_laws_sameInts.sem args = semF X_laws_sameInts F_laws_sameInts none false args := rfl
theorem cl_laws_sameInts (args hp) : callS G_laws_sameInts args hp = byvS S_laws_sameInts args hp := callS_byv rfl rfl args hp
theorem ok_laws_sameInts : InlOk Try.prog 22 (callS G_laws_sameInts) := byv_none co_laws_sameInts Try.func22 r_laws_sameInts rfl (fun _ _ h => h)
def B0_laws_FnLabels : RC :=
  .seq (.seq (.reg [o 34 (.mv (.t 7)), o 35 (.mv (.t 3)), o 36 (.len false (.t 35)), o 37 (.bin .lss (.t 34) (.t 36))]) (.cond (.t 37) (.skip) (.exit 0))) (.seq (.block 1 (.seq (.reg [o 40 (.mv (.t 3)), o 41 (.mv (.t 7)), o 42 (.ia 6 (.t 40) (.t 41)), o 43 (.fa 1 (.t 42)), o 44 (.ld 4 true (.t 43)), o 8 (.new [(.int .i64 0), (.int .i64 0), (.int .i64 0), (.int .i64 0)]), ⟨none, none, .st 4 (.t 8) (.t 44)⟩]) (.seq (.seq (.reg [o 45 (.fa 0 (.t 8)), o 46 (.ld 1 false (.t 45)), o 47 (.bin .eql (.t 46) (.c (.int .i64 0)))]) (.cond (.t 47) (.seq (.seq (.reg [o 48 (.mv (.t 3)), o 49 (.mv (.t 3)), o 50 (.mv (.t 7)), o 51 (.ia 6 (.t 49) (.t 50)), o 52 (.fa 0 (.t 51)), o 53 (.ld 1 false (.t 52)), o 54 (.call 17 [(.t 48), (.t 53)]), o 55 (.mv (.t 6)), o 56 (.bin .neq (.t 54) (.t 55))]) (.cond (.t 56) (.seq (.reg [o 2 (.mv (.c (.bool false)))]) (.ret)) (.skip))) (.exit 1)) (.skip))) (.seq (.seq (.reg [o 57 (.mv (.t 3)), o 58 (.mv (.t 7)), o 59 (.ia 6 (.t 57) (.t 58)), o 60 (.fa 5 (.t 59)), o 61 (.ld 1 false (.t 60)), o 62 (.bin .neq (.t 61) (.c (.str ⟨#[]⟩)))]) (.cond (.t 62) (.reg [o 63 (.mv (.t 3)), o 64 (.mv (.t 3)), o 65 (.mv (.t 7)), o 66 (.ia 6 (.t 64) (.t 65)), o 67 (.fa 5 (.t 66)), o 68 (.ld 1 false (.t 67)), o 69 (.call 18 [(.t 63), (.t 68)]), o 70 (.fa 3 (.t 8)), ⟨none, none, .st 1 (.t 70) (.t 69)⟩]) (.skip))) (.seq (.reg [o 72 (.mv (.t 4)), o 73 (.mv (.t 6)), o 74 (.ia 1 (.t 72) (.t 73)), o 75 (.ld 1 false (.t 74)), o 76 (.call 19 [(.t 75)]), o 71 (.mv (.t 76)), o 77 (.ex (.t 71) 0), o 78 (.ex (.t 71) 1), o 9 (.new [(.int .i64 0), (.int .i64 0), (.int .i64 0), (.int .i64 0)]), ⟨none, none, .st 4 (.t 9) (.t 77)⟩, o 10 (.mv (.t 78))]) (.seq (.seq (.reg [o 79 (.mv (.t 10)), o 80 (.un .not (.t 79)), o 81 (.mv (.t 80)), ⟨some 82, some (81, false), .ld 4 true (.t 9)⟩, ⟨some 83, some (81, false), .ld 4 true (.t 8)⟩, ⟨some 84, some (81, false), .eqs true [(0, 1), (1, 1), (2, 1), (3, 1)] (.t 82) (.t 83)⟩, o 85 (.pick (.t 81) (.c (.bool true)) (.t 84))]) (.cond (.t 85) (.seq (.reg [o 2 (.mv (.c (.bool false)))]) (.ret)) (.skip))) (.reg [o 86 (.mv (.t 6)), o 87 (.bin .add (.t 86) (.c (.int .i64 1))), o 6 (.mv (.t 87))]))))))) (.reg [o 38 (.mv (.t 7)), o 39 (.bin .add (.t 38) (.c (.int .i64 1))), o 7 (.mv (.t 39))]))
def F_laws_FnLabels : RF := ⟨130, 1, [.t 2],
  .seq (.reg [o 2 (.mv (.c (.bool false)))]) (.seq (.seq (.reg [o 16 (.mv (.t 0)), o 17 (.call 14 [(.t 16)])]) (.cond (.t 17) (.seq (.reg [o 2 (.mv (.c (.bool true)))]) (.ret)) (.skip))) (.seq (.reg [o 18 (.mv (.t 0)), o 19 (.call 15 [(.t 18)]), o 3 (.mv (.t 19))]) (.seq (.reg [o 21 (.mv (.t 3)), o 22 (.call 8 [(.t 21)]), o 20 (.mv (.t 22)), o 23 (.ex (.t 20) 0), o 24 (.ex (.t 20) 1), o 4 (.mv (.t 23)), o 5 (.mv (.t 24))]) (.seq (.seq (.reg [o 25 (.mv (.t 5)), o 26 (.un .not (.t 25)), o 27 (.mv (.t 26)), ⟨some 28, some (27, false), .mv (.t 4)⟩, ⟨some 29, some (27, false), .len false (.t 28)⟩, ⟨some 30, some (27, false), .mv (.t 3)⟩, ⟨some 31, some (27, false), .call 16 [(.t 30)]⟩, ⟨some 32, some (27, false), .bin .neq (.t 29) (.t 31)⟩, o 33 (.pick (.t 27) (.c (.bool true)) (.t 32))]) (.cond (.t 33) (.seq (.reg [o 2 (.mv (.c (.bool false)))]) (.ret)) (.skip))) (.seq (.reg [o 6 (.mv (.c (.int .i64 0)))]) (.seq (.seq (.reg [o 7 (.mv (.c (.int .i64 0)))]) (.block 0 (.loop [0, 3, 4, 6, 7] [(1, [0, 3, 4, 6]), (0, [2])] B0_laws_FnLabels))) (.seq (.reg [o 88 (.mv (.t 0)), o 89 (.call 20 [(.t 88)]), o 11 (.mv (.t 89))]) (.seq (.reg [o 91 (.mv (.t 11)), o 92 (.call 8 [(.t 91)]), o 90 (.mv (.t 92)), o 93 (.ex (.t 90) 0), o 94 (.ex (.t 90) 1), o 12 (.mv (.t 93)), o 13 (.mv (.t 94))]) (.seq (.reg [o 96 (.mv (.t 11)), o 97 (.call 6 [(.t 96)]), o 95 (.mv (.t 97)), o 98 (.ex (.t 95) 0), o 99 (.ex (.t 95) 1), o 14 (.mv (.t 98)), o 15 (.mv (.t 99))]) (.seq (.reg [o 100 (.mv (.t 3)), o 101 (.call 21 [(.t 100)]), o 102 (.mv (.t 101)), ⟨some 103, some (102, true), .mv (.t 13)⟩, ⟨some 104, some (102, true), .mv (.t 15)⟩, ⟨some 105, some (102, true), .bib .eql (.t 103) (.t 104)⟩, o 106 (.pick (.t 102) (.t 105) (.c (.bool false))), o 107 (.mv (.t 106)), ⟨some 108, some (107, true), .mv (.t 12)⟩, ⟨some 109, some (107, true), .mv (.t 14)⟩, ⟨some 110, some (107, true), .call 22 [(.t 108), (.t 109)]⟩, o 111 (.pick (.t 107) (.t 110) (.c (.bool false))), o 112 (.mv (.t 111)), ⟨some 113, some (112, true), .mv (.t 11)⟩, ⟨some 114, some (112, true), .call 21 [(.t 113)]⟩, ⟨some 115, some (112, true), .mv (.t 11)⟩, ⟨some 116, some (112, true), .call 23 [(.t 115)]⟩, ⟨some 117, some (112, true), .bib .eql (.t 114) (.t 116)⟩, o 118 (.pick (.t 112) (.t 117) (.c (.bool false))), o 119 (.mv (.t 118)), ⟨some 120, some (119, true), .mv (.t 6)⟩, ⟨some 121, some (119, true), .mv (.t 4)⟩, ⟨some 122, some (119, true), .len false (.t 121)⟩, ⟨some 123, some (119, true), .bin .eql (.t 120) (.t 122)⟩, o 124 (.pick (.t 119) (.t 123) (.c (.bool false))), o 125 (.mv (.t 124)), ⟨some 126, some (125, true), .mv (.t 3)⟩, ⟨some 127, some (125, true), .call 17 [(.t 126), (.c (.str ⟨#[110, 111, 110, 101]⟩))]⟩, ⟨some 128, some (125, true), .bin .eql (.t 127) (.c (.int .i64 (-1)))⟩, o 129 (.pick (.t 125) (.t 128) (.c (.bool false))), o 2 (.mv (.t 129))]) (.ret)))))))))))⟩
def K_laws_FnLabels : Keeps := [([0, 3, 4, 6, 7], [(1, [0, 3, 4, 6]), (0, [2])])]
theorem r_laws_FnLabels : resolveF Try.prog Try.f4 K_laws_FnLabels = some F_laws_FnLabels := by kernel_rfl
def X_laws_FnLabels : Ctx := Ctx.cons 14 G_laws_big (Ctx.cons 15 G_spec_DrawLines (Ctx.cons 8 G_impl_Assemble (Ctx.cons 16 G_impl_CountOf (Ctx.cons 17 G_impl_PlaceOf (Ctx.cons 18 G_spec_PlaceOf (Ctx.cons 19 G_spec_Decode (Ctx.cons 20 G_spec_DrawAssemble (Ctx.cons 6 G_spec_Assemble (Ctx.cons 21 G_impl_LinesOk (Ctx.cons 22 G_laws_sameInts (Ctx.cons 23 G_spec_LinesOk (fun _ => none))))))))))))
theorem co_laws_FnLabels : CtxOk Try.prog X_laws_FnLabels := CtxOk.cons (CtxOk.cons (CtxOk.cons (CtxOk.cons (CtxOk.cons (CtxOk.cons (CtxOk.cons (CtxOk.cons (CtxOk.cons (CtxOk.cons (CtxOk.cons (CtxOk.cons (CtxOk.nil) ok_spec_LinesOk) ok_laws_sameInts) ok_impl_LinesOk) ok_spec_Assemble) ok_spec_DrawAssemble) ok_spec_Decode) ok_spec_PlaceOf) ok_impl_PlaceOf) ok_impl_CountOf) ok_impl_Assemble) ok_spec_DrawLines) ok_laws_big
theorem cx_laws_FnLabels : (CX X_laws_FnLabels 14 G_laws_big false) ∧ (CX X_laws_FnLabels 15 G_spec_DrawLines false) ∧ (CX X_laws_FnLabels 8 G_impl_Assemble false) ∧ (CX X_laws_FnLabels 16 G_impl_CountOf false) ∧ (CX X_laws_FnLabels 17 G_impl_PlaceOf false) ∧ (CX X_laws_FnLabels 18 G_spec_PlaceOf false) ∧ (CX X_laws_FnLabels 19 G_spec_Decode false) ∧ (CX X_laws_FnLabels 20 G_spec_DrawAssemble false) ∧ (CX X_laws_FnLabels 6 G_spec_Assemble false) ∧ (CX X_laws_FnLabels 21 G_impl_LinesOk false) ∧ (CX X_laws_FnLabels 22 G_laws_sameInts false) ∧ (CX X_laws_FnLabels 23 G_spec_LinesOk false) := ⟨cxI rfl rfl, cxI rfl rfl, cxI rfl rfl, cxI rfl rfl, cxI rfl rfl, cxI rfl rfl, cxI rfl rfl, cxI rfl rfl, cxI rfl rfl, cxI rfl rfl, cxI rfl rfl, cxI rfl rfl⟩
end
end Go.Proofs.Ytldmpjoddghdkaa.AI
