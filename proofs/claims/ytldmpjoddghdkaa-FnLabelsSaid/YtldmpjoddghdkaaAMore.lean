import Derived.Test.YtldmpjoddghdkaaARunOk
namespace Go.Proofs.Ytldmpjoddghdkaa.AI
set_option linter.all false
open Go.RowKit
set_option autoImplicit false
set_option linter.unusedVariables false
set_option linter.unusedSimpArgs false
variable [Tabs]
mutual
theorem V_more {RO RO' : Bx} {w : World} {R : Rf} {nx : Nat} {L : Lf} (h : ∀ B, RO.rd B → RO'.rd B) : ∀ (v : AV) (x : Value), V RO w R nx L v x → V RO' w R nx L v x
  | .dead, _, _ => by simp [V]
  | .gone, x, hx => by simpa [V] using hx
  | .nil k, x, hx => by simpa [V] using hx
  | .sl r k off len, x, hx => by simp only [V] at hx ⊢; exact hx
  | .ptr r k idx off, x, hx => by simp only [V] at hx ⊢; exact hx
  | .agg cs, x, hx => by
    simp only [V] at hx ⊢
    obtain ⟨vs, h1, h2⟩ := hx
    exact ⟨vs, h1, VL_more h cs vs.toList h2⟩
  | .tup cs, x, hx => by
    simp only [V] at hx ⊢
    obtain ⟨vs, h1, h2⟩ := hx
    exact ⟨vs, h1, VL_more h cs vs.toList h2⟩
  | .fn f cs, x, hx => by
    simp only [V] at hx ⊢
    obtain ⟨vs, h1, h2⟩ := hx
    exact ⟨vs, h1, VL_more h cs vs.toList h2⟩
  | .bool b, x, hx => by simp only [V] at hx ⊢; exact Rd.more h _ _ hx
  | .int k n, x, hx => by simp only [V] at hx ⊢; exact Rd.more h _ _ hx
  | .str s, x, hx => by simp only [V] at hx ⊢; exact Rd.more h _ _ hx
  | .pnil, x, hx => by simp only [V] at hx ⊢; exact Rd.more h _ _ hx
  | .inil, x, hx => by simp only [V] at hx ⊢; exact Rd.more h _ _ hx
  | .fnil, x, hx => by simp only [V] at hx ⊢; exact Rd.more h _ _ hx
  | .tree k es, x, hx => by simp only [V] at hx ⊢; exact Rd.more h _ _ hx
  | .rp c o, x, hx => by simp only [V] at hx ⊢; exact Rd.more h _ _ hx
theorem VL_more {RO RO' : Bx} {w : World} {R : Rf} {nx : Nat} {L : Lf} (h : ∀ B, RO.rd B → RO'.rd B) : ∀ (cs : List AV) (vs : List Value), VL RO w R nx L cs vs → VL RO' w R nx L cs vs
  | [], [], _ => by simp [VL]
  | c :: cs, v :: vs, hx => by simp only [VL] at hx ⊢; exact ⟨V_more h c v hx.1, VL_more h cs vs hx.2⟩
  | [], _ :: _, hx => by simp [VL] at hx
  | _ :: _, [], hx => by simp [VL] at hx
end
theorem frozen_of {w w' : World} {b o : Nat} (h : w'.heap[b]? = w.heap[b]?) : w'.frozen? ⟨b, o, none⟩ = w.frozen? ⟨b, o, none⟩ := by
  unfold World.frozen?
  rw [h]
theorem cell_of {w w' : World} {b o : Nat} (h : w'.heap[b]? = w.heap[b]?) : w'.cell? ⟨b, o, none⟩ = w.cell? ⟨b, o, none⟩ := by
  unfold World.cell?
  rw [h]
end Go.Proofs.Ytldmpjoddghdkaa.AI
