import Derived.Test.YtldmpjoddghdkaaARec
import Derived.Test.YtldmpjoddghdkaaAOpen2
namespace Go.Proofs.Ytldmpjoddghdkaa.AI
set_option linter.all false
open Go.RowKit Go.ChangeShapes Go.WideShapes
set_option autoImplicit false
set_option linter.unusedVariables false
set_option linter.unusedSimpArgs false
section
variable {g : List AV → Hp → Option (AV × Hp)} {args cs : List AV} {hp hp1 M bs : Hp} {fd : List Nat} {v : AV} {n i q r k o l g1 g2 : Nat} {b : Option Blk} {p : Option (Nat × Nat)} {es : List (List AV)}
def frA (g : List AV → Hp → Option (AV × Hp)) (args : List AV) (hp : Hp) (fd : List Nat) : Option (AV × Hp) :=
  if (among fd 0 0 (rootsL args) && among fd 0 0 (rootsH fd 0 hp)) = true then frameM g args hp (mask fd 0 hp) fd else none
theorem frame_eq : frame g args hp = frA g args hp (disc hp 0 200 (rootsL args) []) := rfl
def frB (x : Option (AV × Hp)) (hp M : Hp) (fd : List Nat) : Option (AV × Hp) := match x with | some y => if fd.length ≤ y.2.length then some (back M fd y.1, backHp y.2 M hp fd) else none | none => none
theorem frA_eq : frA g args hp fd = if (among fd 0 0 (rootsL args) && among fd 0 0 (rootsH fd 0 hp)) = true then frB (g (renL (mask fd 0 hp) 0 fd args) (fd.map fun r => gen0 (renB (mask fd 0 hp) 0 fd (rt (mask fd 0 hp) r)))) hp (mask fd 0 hp) fd else none := by
  unfold frA frameM frB
  simp only [root_rt]
  split
  · split <;> simp_all
  · rfl
theorem frB_some : frB (some (v, hp1)) hp M fd = if fd.length ≤ hp1.length then some (back M fd v, backHp hp1 M hp fd) else none := rfl
theorem outN_nil : outN [] n i = n + i := by simp [outN]
theorem outN_zero : outN (q :: fd) n 0 = q := rfl
theorem outN_succ : outN (q :: fd) n (i + 1) = outN fd n i := by
  simp only [outN, List.getElem?_cons_succ, List.length_cons, Nat.add_sub_add_right]
theorem rt_nil : rt [] n = none := rfl
theorem gnV_none : gnV none = 0 := rfl
theorem back_sl : back M fd (.sl ⟨i, p, g1⟩ k o l) = .sl ⟨outN fd M.length i, p, gnV (rt M (outN fd M.length i)) + g1⟩ k o l := by simp only [back, outR, genAt_eq]
theorem back_ptr : back M fd (.ptr ⟨i, p, g1⟩ k o l) = .ptr ⟨outN fd M.length i, p, gnV (rt M (outN fd M.length i)) + g1⟩ k o l := by simp only [back, outR, genAt_eq]
theorem back_agg : back M fd (.agg cs) = .agg (backL M fd cs) := by simp only [back]
theorem back_tup : back M fd (.tup cs) = .tup (backL M fd cs) := by simp only [back]
theorem back_fn : back M fd (.fn o cs) = .fn o (backL M fd cs) := by simp only [back]
theorem back_int {kd : IntKind} {a : Int} : back M fd (.int kd a) = .int kd a := by simp only [back]
theorem back_bool {a : Bool} : back M fd (.bool a) = .bool a := by simp only [back]
theorem back_str {a : ByteArray} : back M fd (.str a) = .str a := by simp only [back]
theorem back_tree : back M fd (.tree k es) = .tree k es := by simp only [back]
theorem back_rp : back M fd (.rp cs o) = .rp cs o := by simp only [back]
theorem back_nil' : back M fd (.nil k) = .nil k := by simp only [back]
theorem back_dead : back M fd .dead = .dead := by simp only [back]
theorem back_gone : back M fd .gone = .gone := by simp only [back]
theorem back_pnil : back M fd .pnil = .pnil := by simp only [back]
theorem back_inil : back M fd .inil = .inil := by simp only [back]
theorem back_fnil : back M fd .fnil = .fnil := by simp only [back]
theorem backL_nil : backL M fd [] = [] := by simp only [backL]
theorem backL_cons : backL M fd (v :: cs) = back M fd v :: backL M fd cs := by simp only [backL]
theorem backB_box : backB M fd g1 (some ⟨true, g2, k, es⟩) = some ⟨true, g1 + g2, k, es.map (backL M fd)⟩ := rfl
theorem backB_row : backB M fd g1 (some ⟨false, g2, k, es⟩) = some ⟨false, g1 + g2, k, es⟩ := rfl
theorem backB_none : backB M fd g1 none = none := rfl
theorem oldB_some : oldB hp1 M fd i b (some q) = backB M fd (gnV (rt M i)) (rt hp1 q) := by simp only [oldB, genAt_eq, root_rt]
theorem oldB_none : oldB hp1 M fd i b none = b := rfl
theorem oldP_nil : oldP hp1 M fd i [] = [] := rfl
theorem oldP_cons : oldP hp1 M fd i (b :: bs) = oldB hp1 M fd i b (pos fd i) :: oldP hp1 M fd (i + 1) bs := rfl
theorem backHp_eq : backHp hp1 M hp fd = oldP hp1 M fd 0 hp ++ (hp1.drop fd.length).map (backB M fd 0) := rfl
theorem pos_nil' : pos [] n = none := rfl
theorem posS_none : posS none = none := rfl
end
def cY (b : UInt8) : List AV := [.int .u8 (b.toNat : Int)]
theorem flat_cY {xs : List UInt8} : flat (xs.map cY) = true := flat_map fun _ => rfl
theorem solid_cY {xs : List UInt8} : solid (xs.map cY) = true := solid_map fun _ => rfl
theorem snoc_cY {xs : List UInt8} {x : UInt8} : xs.map cY ++ [[.int .u8 (x.toNat : Int)]] = (xs ++ [x]).map cY := by simp [cY]
theorem op_byte {P : Program} {t : TypeId} (ht : P.underlying t = some (.int .u8)) : Opens P t (⟨1, cY⟩ : Kd UInt8) (fun _ => True) := by
  intro H enc w fuel cs x h hs
  obtain ⟨n, hK, hw⟩ := opens_int ht H enc w fuel cs x h hs
  simp [Lit.wf] at hw
  have h1 : IntKind.u8.min = 0 := by decide
  have h2 : IntKind.u8.max = 255 := by decide
  refine ⟨UInt8.ofNat n.toNat, ?_, trivial⟩
  have e : ((UInt8.ofNat n.toNat).toNat : Int) = n := by
    rw [UInt8.toNat_ofNat']
    have : n.toNat % 2 ^ 8 = n.toNat := Nat.mod_eq_of_lt (by omega)
    rw [this]; omega
  simp only [Kd.K, Kd.int, cY] at hK ⊢
  rw [e]; exact hK
set_option linter.defProp false
def EF := (And.intro @frame_eq (And.intro @frA_eq (And.intro @frB_some (And.intro @outN_nil (And.intro @outN_zero (And.intro @outN_succ (And.intro @rt_nil (And.intro @gnV_none (And.intro @back_sl (And.intro @back_ptr (And.intro @back_agg (And.intro @back_tup (And.intro @back_fn (And.intro @back_int (And.intro @back_bool (And.intro @back_str (And.intro @back_tree (And.intro @back_rp (And.intro @back_nil' (And.intro @back_dead (And.intro @back_gone (And.intro @back_pnil (And.intro @back_inil (And.intro @back_fnil (And.intro @backL_nil (And.intro @backL_cons (And.intro @backB_box (And.intro @backB_row (And.intro @backB_none (And.intro @oldB_some (And.intro @oldB_none (And.intro @oldP_nil (And.intro @oldP_cons (And.intro @backHp_eq (And.intro @pos_nil' @posS_none)))))))))))))))))))))))))))))))))))
abbrev o (n : Nat) (r : RO) : ROp := ⟨some n, none, r⟩
abbrev CX (X : Ctx) (n : Nat) (G : CK) (b : Bool) : Prop := (∀ args hp, callX X n args hp = callS G args hp) ∧ trC (X n) = b
theorem cxI {X : Ctx} {n : Nat} {G : CK} {b : Bool} (h : X n = some G) (h2 : trC (X n) = b) : CX X n G b := ⟨fun _ _ => by unfold callX; rw [h], h2⟩
end Go.Proofs.Ytldmpjoddghdkaa.AI
