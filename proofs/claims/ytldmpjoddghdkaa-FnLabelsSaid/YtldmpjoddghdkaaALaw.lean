import Derived.Test.YtldmpjoddghdkaaAOpen
import Derived.Below
namespace Go.Proofs.Ytldmpjoddghdkaa.AI
set_option linter.all false
open Go.RowKit
set_option autoImplicit false
set_option linter.unusedVariables false
set_option linter.unusedSimpArgs false
variable [Tabs]
theorem VL_of_RdL {w : World} {R : Rf} {nx : Nat} {L : Lf} : ∀ {cs : List AV} {vs : List Value}, RdL w cs vs → VL (Bx.all w) w R nx L cs vs
  | [], [], _ => by simp [VL]
  | c :: cs, v :: vs, h => by
    simp only [RdL] at h
    simp only [VL]
    exact ⟨V_of_Rd h.1, VL_of_RdL h.2⟩
  | [], _ :: _, h => by simp [RdL] at h
  | _ :: _, [], h => by simp [RdL] at h
theorem V_agg {w : World} {R : Rf} {nx : Nat} {L : Lf} {α : Type} {d : Kd α} {y : α} {cs : Array Value} (h : d.K w y cs.toList) : V (Bx.all w) w R nx L (.agg (d.cl y)) (.agg cs) := by
  simp only [V]
  exact ⟨cs, rfl, VL_of_RdL h.2⟩
theorem V_cell1 {w : World} {R : Rf} {nx : Nat} {L : Lf} {α : Type} {d : Kd α} {y : α} {c : AV} {v : Value} (h : d.K w y [v]) (hc : d.cl y = [c]) : V (Bx.all w) w R nx L c v := by
  have := h.2
  rw [hc] at this
  simp only [RdL] at this
  exact V_of_Rd this.1
theorem law_of {P : Program} {ctx : Ctx} (hctx : CtxOk P ctx) {f : FuncId} {fn : Func} {F : RF} {ks : Keeps} (hf : P.funcs[f]? = some fn) (hr : resolveF P fn ks = some F) {w : World} (htb : ∀ B, Tabs.at_ B → ∃ x, w.heap[B]? = some x ∧ Tabs.ok B x) {avs : List AV} {args : Array Value}
    (hV : VL (Bx.all w) w (root? []) ([] : Hp).length (fun _ _ => none) avs args.toList) {hp' : Hp} (hrun : runF ctx F avs [] = some (.bool true, hp')) : Calls P f args w (fun e w' => e = .returned (.bool true) ∧ Below w.heap.size w w') := by
  refine Calls.mono ((runF_ok hctx hf hr).2 (Bx.all w) w [] (fun _ _ => none) avs args _ _ (HRel.void (RO := Bx.all w) (fun B hB => hB) (fun B hB => ⟨(Array.getElem?_eq_some_iff.1 (htb B hB).choose_spec.1).1, htb B hB⟩)) hV hrun) ?_
  rintro e w' ⟨x, L', rfl, adv, hx⟩
  refine ⟨by rw [V_bool hx], adv.os, adv.tape, adv.output, adv.size, fun k hk => adv.same k hk⟩
theorem CtxOk.nil {P : Program} : CtxOk P (fun _ => none) := fun f c h => by simp at h
def Ctx.cons (f : Nat) (c : CK) (ctx : Ctx) : Ctx := fun n => if n = f then some c else ctx n
theorem CtxOk.cons {P : Program} {ctx : Ctx} (h : CtxOk P ctx) {f : Nat} {c : CK} (hc : InlOk P f (callS c)) : CtxOk P (Ctx.cons f c ctx) := by
  intro g c' hg
  unfold Ctx.cons at hg
  split at hg
  · rename_i e
    simp only [Option.some.injEq] at hg
    subst hg
    rw [e]; exact hc
  · exact h g c' hg
end Go.Proofs.Ytldmpjoddghdkaa.AI
