import Derived.Test.YtldmpjoddghdkaaALaw
import Derived.Test.YtldmpjoddghdkaaABun2
namespace Go.Proofs.Ytldmpjoddghdkaa.AI
set_option linter.all false
open Go.RowKit Go.ChangeShapes Go.WideShapes
set_option autoImplicit false
set_option linter.unusedVariables false
theorem i64_of {n : Int} (h : (Lit.int .i64 n).wf = true) : i64 n := by
  simp [Lit.wf] at h
  have h1 : IntKind.i64.min = -9223372036854775808 := by decide
  have h2 : IntKind.i64.max = 9223372036854775807 := by decide
  unfold i64; omega
theorem op_int {P : Program} {t : TypeId} (ht : P.underlying t = some (.int .i64)) : Opens P t (⟨1, cI⟩ : Kd Int) i64 := opens_G (opens_int ht) fun _ h => i64_of h
theorem op_bool {P : Program} {t : TypeId} (ht : P.underlying t = some .bool) : Opens P t (⟨1, cB⟩ : Kd Bool) (fun _ => True) := opens_bool ht
theorem op_str {P : Program} {t : TypeId} (ht : P.underlying t = some .string) : Opens P t (⟨1, cS⟩ : Kd ByteArray) gdS := opens_string ht
theorem op_sl {α : Type} {P : Program} {t e : TypeId} {B k : Nat} {c : α → List AV} {G : α → Prop} (ht : P.underlying t = some (.slice e)) (hc : P.cellsOf e = k) (hB : P.bytesOf e = B) (h0 : k ≠ 0) (h1 : B ≠ 0) (he : Opens P e (⟨k, c⟩ : Kd α) G) :
    Opens P t (⟨1, fun ys => [.tree k (ys.map c)]⟩ : Kd (List α)) (fun xs => xs.length ≤ 140737488351232 ∧ ∀ x ∈ xs, G x) := by
  refine opens_G (opens_slice (d := (⟨k, c⟩ : Kd α)) ht hc hB h0 he) fun xs h => ⟨?_, h.2.2⟩
  exact Nat.le_trans (Nat.le_mul_of_pos_right _ (Nat.pos_of_ne_zero h1)) h.2.1
theorem V_intR {RO : Bx} {w : World} {R : Rf} {nx : Nat} {L : Lf} {k : IntKind} {n : Int} : V RO w R nx L (.int k n) (.int k n) := by simp only [V, Rd]
theorem V_strR {RO : Bx} {w : World} {R : Rf} {nx : Nat} {L : Lf} {s : ByteArray} : V RO w R nx L (.str s) (.string s) := by simp only [V, Rd]
theorem V_booR {RO : Bx} {w : World} {R : Rf} {nx : Nat} {L : Lf} {b : Bool} : V RO w R nx L (.bool b) (.bool b) := by simp only [V, Rd]
theorem V_str' {RO : Bx} {w : World} {R : Rf} {nx : Nat} {L : Lf} {s : ByteArray} {x : Value} (h : x = .string s) : V RO w R nx L (.str s) x := by simp only [V, Rd]; exact h
theorem VL_nil {RO : Bx} {w : World} {R : Rf} {nx : Nat} {L : Lf} : VL RO w R nx L [] [] := by simp [VL]
theorem VL_cons {RO : Bx} {w : World} {R : Rf} {nx : Nat} {L : Lf} {c : AV} {cs : List AV} {v : Value} {vs : List Value} (h : V RO w R nx L c v) (k : VL RO w R nx L cs vs) : VL RO w R nx L (c :: cs) (v :: vs) := by simp only [VL]; exact ⟨h, k⟩
end Go.Proofs.Ytldmpjoddghdkaa.AI
