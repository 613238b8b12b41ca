import Derived.Test.YtldmpjoddghdkaaAGc
namespace Go.Proofs.Ytldmpjoddghdkaa.AI
set_option linter.all false
open Go.RowKit
set_option autoImplicit false
set_option linter.unusedVariables false
set_option linter.unusedSimpArgs false
variable [Tabs]
def Enters (P : Program) (f : FuncId) : Prop := ∃ fn, P.funcs[f]? = some fn ∧ fn.body.isSome = true ∧ (fn.name == "runtime.NumGoroutine") = false
def InlOk (P : Program) (f : FuncId) (g : List AV → Hp → Option (AV × Hp)) : Prop :=
  Enters P f ∧ ∀ (RO : Bx) (w : World) (hp : Hp) (L : Lf) (avs : List AV) (args : Array Value) (v : AV) (hp' : Hp), HRel RO w (root? hp) hp.length L → VL RO w (root? hp) hp.length L avs args.toList → g avs hp = some (v, hp') →
    Calls P f args w (fun e w' => ∃ x L', e = .returned x ∧ Adv RO w (root? hp) hp.length L w' (root? hp') hp'.length L' ∧ V RO w' (root? hp') hp'.length L' v x)
def CtxOk (P : Program) (ctx : Ctx) : Prop := ∀ f c, ctx f = some c → InlOk P f (callS c)
section
variable {P : Program} {RO : Bx} {tm : List (Nat × AV)} {a : Act} {ctx : Ctx}
theorem run_callFunc {f : FuncId} (h : Enters P f) (args : Array Value) (w : World) : (callFunc f args).run P w = .ok (.enter f args) w := by
  obtain ⟨fn, h1, h2, h3⟩ := h
  have h4 : fn.body.isNone = false := by cases e : fn.body <;> simp [e] at h2 ⊢
  simp only [callFunc, Sem.run_bind, run_program, Result.andThen_ok, h1, h3, h4, Bool.false_eq_true, if_false, Sem.run_pure]
theorem inv_call {o : Oper} {f : Nat} {xs : List X} (h : resolveOp P o = some (.call f xs)) : ∃ c, o.op = .call c ∧ c.callee = .value (.func f) ∧ rXs P c.argTypes.toList c.args.toList = some xs := by
  unfold resolveOp at h
  split at h
  case h_22 c ho =>
    refine ⟨c, ho, ?_⟩
    split at h
    · rename_i f' hcal
      obtain ⟨ys, hys, e⟩ := map1 h
      simp only [Go.Proofs.Ytldmpjoddghdkaa.AI.RO.call.injEq] at e
      obtain ⟨rfl, rfl⟩ := e
      exact ⟨hcal, hys⟩
    all_goals (exfalso; revert h; repeat' split)
    all_goals simp
  all_goals (exfalso; revert h; repeat' split)
  all_goals simp
theorem inv_callv {o : Oper} {x : X} {xs : List X} (h : resolveOp P o = some (.callv x xs)) : ∃ c t, o.op = .call c ∧ c.callee = .value (.tmp t) ∧ x = .t t ∧ rXs P c.argTypes.toList c.args.toList = some xs := by
  unfold resolveOp at h
  split at h
  case h_22 c ho =>
    split at h
    case h_2 t hcal =>
      obtain ⟨ys, hys, e⟩ := map1 h
      simp only [Go.Proofs.Ytldmpjoddghdkaa.AI.RO.callv.injEq] at e
      obtain ⟨rfl, rfl⟩ := e
      exact ⟨c, t, ho, hcal, rfl, hys⟩
    all_goals (exfalso; revert h; repeat' split)
    all_goals simp
  all_goals (exfalso; revert h; repeat' split)
  all_goals simp
theorem stepC_sound (hctx : CtxOk P ctx) {w : World} {hp : Hp} {L : Lf} (h : HRel RO w (root? hp) hp.length L) (he : EV RO w (root? hp) hp.length L tm a) {o : Oper} {ro : Go.Proofs.Ytldmpjoddghdkaa.AI.RO} (hres : resolveOp P o = some ro) {v : AV} {hp' : Hp} (hst : stepC ctx (ev tm) hp ro = some (v, hp'))
    {next : Act → World → Prop} {Q : Exit → Act → World → Prop} (hn : ∀ x w' L', Adv RO w (root? hp) hp.length L w' (root? hp') hp'.length L' → V RO w' (root? hp') hp'.length L' v x → next (a.put o.dst x) w') : o.wp P a w next Q := by
  have plain : step (ev tm) hp ro = some (v, hp') → o.wp P a w next Q := by
    intro hst
    obtain ⟨x, w', L', h1, h2, h3⟩ := step_sound h he hres hst
    unfold Oper.wp
    rcases h1 with h1 | ⟨h1, rfl⟩
    · rw [h1]; exact hn x w' L' h2 h3
    · rw [h1]; exact hn undef w' L' h2 h3
  have enter : ∀ f avs (args : Array Value) c, ctx f = some c → callS c avs hp = some (v, hp') → VL RO w (root? hp) hp.length L avs args.toList → (execOp a.eval o).run P w = .ok (.enter f args) w → o.wp P a w next Q := by
    intro f avs args c hc hs hV hr
    unfold Oper.wp
    rw [hr, Oper.upon_enter]
    refine Calls.mono ((hctx f c hc).2 RO w hp L avs args v hp' h hV hs) ?_
    rintro e w' ⟨x, L', rfl, h2, h3⟩
    exact hn x w' L' h2 h3
  cases ro with
  | call f xs =>
    simp only [stepC] at hst
    split at hst
    · rename_i c hc
      have hE := (hctx f c hc).1
      obtain ⟨cl, ho, hcal, hys⟩ := inv_call hres
      refine enter f _ (cl.args.map a.eval) c hc hst (by simpa using rXs_V he hys) ?_
      have := run_callFunc hE (cl.args.map a.eval) w
      simp only [execOp, ho, resolve, hcal, Act.eval, Deferred.ofValue, Sem.run_bind, Sem.run_pure, Result.andThen_ok, invoke, Array.append_empty, Array.empty_append]
      exact this
    · simp at hst
  | callv x xs =>
    obtain ⟨cl, t, ho, hcal, rfl, hys⟩ := inv_callv hres
    simp only [stepC] at hst
    split at hst
    · rename_i f caps hf
      split at hst
      · rename_i c hc
        have hE := (hctx f c hc).1
        have hVf := he t
        simp only [ev] at hf
        rw [hf] at hVf
        simp only [V] at hVf
        obtain ⟨vs, hv, hVL⟩ := hVf
        refine enter f _ (cl.args.map a.eval ++ vs) c hc hst (by simpa using VL_append (rXs_V he hys) hVL) ?_
        have := run_callFunc hE (cl.args.map a.eval ++ vs) w
        simp only [execOp, ho, resolve, hcal, Act.eval, hv, Deferred.ofValue, Sem.run_bind, Sem.run_pure, Result.andThen_ok, invoke, Array.empty_append]
        exact this
      · simp at hst
    · simp at hst
  | _ => exact plain (by simpa only [stepC] using hst)
structure Inv (RO : Bx) (w0 : World) (R0 : Rf) (base : Nat) (L0 : Lf) (N : Nat) (s : St) (a : Act) (w : World) (L : Lf) : Prop where
  rel : HRel RO w (root? s.hp) s.hp.length L
  pres : Pres R0 base L0 (root? s.hp) s.hp.length L
  same : Same RO w0 w
  size : w0.heap.size ≤ w.heap.size
  os : w.os = w0.os
  tape : w.tape = w0.tape
  output : w.output = w0.output
  ev : EV RO w (root? s.hp) s.hp.length L s.tm a
  tmps : a.tmps.size = N
  defers : a.defers = []
theorem EV.put {w : World} {R : Rf} {nx : Nat} {L : Lf} (he : EV RO w R nx L tm a) {d : Option Nat} (hd : dstOk a.tmps.size d = true) {v : AV} {x : Value} (hv : V RO w R nx L v x) : EV RO w R nx L (put tm d v) (a.put d x) := by
  cases d with
  | none => exact he
  | some d =>
    simp only [dstOk, decide_eq_true_eq] at hd
    intro t
    simp only [Go.Proofs.Ytldmpjoddghdkaa.AI.put, lk, Act.put]
    by_cases e : d = t
    · subst e
      simp [Array.getD, hd, hv]
    · rw [if_neg e]
      have := he t
      simpa [Array.getD_eq_getD_getElem?, Array.getElem?_setIfInBounds, e] using this
theorem put_size {a : Act} {d : Option Nat} {x : Value} : (a.put d x).tmps.size = a.tmps.size := by
  cases d <;> simp [Act.put]
theorem put_defers {a : Act} {d : Option Nat} {x : Value} : (a.put d x).defers = a.defers := by
  cases d <;> simp [Act.put]
theorem runO_sound (hctx : CtxOk P ctx) {w0 : World} {R0 : Rf} {base : Nat} {L0 : Lf} {N : Nat} {s s' : St} {w : World} {L : Lf} (hi : Inv RO w0 R0 base L0 N s a w L) {ops : Array Oper} {i : Nat} {o : Oper} (ho : ops[i]? = some o) {r : ROp} (hr : resolveO P N ops o = some r) (hs : runO ctx r s = some s')
    {K : Act → World → Prop} {Q : Exit → Act → World → Prop} (hK : ∀ a' w' L', Inv RO w0 R0 base L0 N s' a' w' L' → K a' w') : wpOp P ops Q i K a w := by
  unfold resolveO at hr
  split at hr
  · simp at hr
  · rename_i ro hro
    split at hr
    · rename_i hdst
      have hdst' : dstOk a.tmps.size o.dst = true := by rw [hi.tmps]; exact hdst
      have go : ∀ (v : AV) (hp' : Hp), stepC ctx (Go.Proofs.Ytldmpjoddghdkaa.AI.ev s.tm) s.hp ro = some (v, hp') → s' = ⟨Go.Proofs.Ytldmpjoddghdkaa.AI.put s.tm o.dst v, hp'⟩ → o.wp P a w K Q := by
        intro v hp' hst e
        subst e
        refine stepC_sound hctx hi.rel hi.ev hro hst (fun x w' L' hadv hv => ?_)
        refine hK _ _ L' ⟨hadv.rel, ?_, hi.same.trans hadv.same, Nat.le_trans hi.size hadv.size, hadv.os.trans hi.os, hadv.tape.trans hi.tape, hadv.output.trans hi.output, ?_, by rw [put_size]; exact hi.tmps, by rw [put_defers]; exact hi.defers⟩
        · refine ⟨Nat.le_trans hi.pres.le hadv.pres.le, fun r b' hr hb => ?_, fun r hr hg bx k es' he => ?_⟩
          · obtain ⟨b1, e1, e2⟩ := hadv.pres.old r b' (Nat.lt_of_lt_of_le hr hi.pres.le) hb
            obtain ⟨b2, e3, e4⟩ := hi.pres.old r b1 hr e1
            exact ⟨b2, e3, Nat.le_trans e4 e2⟩
          · obtain ⟨es1, e1, e2, e3⟩ := hadv.pres.keep r (Nat.lt_of_lt_of_le hr hi.pres.le) (hi.pres.genOk hr hg) bx k es' he
            obtain ⟨es0, e4, e5, e6⟩ := hi.pres.keep r hr hg bx k es1 e1
            exact ⟨es0, e4, e5.trans e2, e3.trans e6⟩
        · refine EV.put ?_ hdst' hv
          intro t
          exact hadv.v (hi.ev t)
      have skip : s' = ⟨Go.Proofs.Ytldmpjoddghdkaa.AI.put s.tm o.dst (.tup []), s.hp⟩ → K (a.put o.dst undef) w := by
        intro e
        subst e
        refine hK _ _ L ⟨hi.rel, hi.pres, hi.same, hi.size, hi.os, hi.tape, hi.output, EV.put hi.ev hdst' (by simp only [V]; exact ⟨#[], rfl, by simp [VL]⟩), by rw [put_size]; exact hi.tmps, by rw [put_defers]; exact hi.defers⟩
      unfold wpOp
      simp only [ho]
      split at hr
      · rename_i hg
        simp only [Option.some.injEq] at hr
        subst hr
        have hw : Region.wanted o (yielded ops a.tmps) = true := by simp [Region.wanted, hg]
        rw [hw, if_pos rfl]
        simp only [runO] at hs
        split at hs
        · rename_i v hp' hst
          simp only [Option.some.injEq] at hs
          exact .inl (go v hp' hst hs.symm)
        · simp at hs
      · rename_i j want hg
        split at hr
        · rename_i d hd
          split at hr
          · rename_i hdN
            simp only [Option.some.injEq] at hr
            subst hr
            have hVd := hi.ev d
            have hget : a.tmps[d]? = some (a.tmps.getD d undef) := by
              have : d < a.tmps.size := by rw [hi.tmps]; exact hdN
              simp [Array.getD, this]
            simp only [runO] at hs
            split at hs
            · rename_i b hb
              rw [hb] at hVd
              have hy : yielded ops a.tmps j = some b := by
                simp only [yielded, hd, Option.bind_some, hget, V_bool hVd]
              split at hs
              · rename_i hbw
                have hw : Region.wanted o (yielded ops a.tmps) = true := by simp [Region.wanted, hg, hy, hbw]
                rw [hw, if_pos rfl]
                split at hs
                · rename_i v hp' hst
                  simp only [Option.some.injEq] at hs
                  exact .inl (go v hp' hst hs.symm)
                · simp at hs
              · rename_i hbw
                have hw : Region.wanted o (yielded ops a.tmps) = false := by simp [Region.wanted, hg, hy, hbw]
                rw [hw]
                simp only [Option.some.injEq] at hs
                simpa using skip hs.symm
            · rename_i hb
              rw [hb] at hVd
              simp only [V] at hVd
              obtain ⟨vs, e, hvs⟩ := hVd
              have hy : yielded ops a.tmps j = none := by
                simp only [yielded, hd, Option.bind_some, hget, e]
              have hw : Region.wanted o (yielded ops a.tmps) = false := by simp [Region.wanted, hg, hy]
              rw [hw]
              simp only [Option.some.injEq] at hs
              simpa using skip hs.symm
            · simp at hs
          · simp at hr
        · simp at hr
    · simp at hr
theorem runR_sound (hctx : CtxOk P ctx) {w0 : World} {R0 : Rf} {base : Nat} {L0 : Lf} {N : Nat} {ops : Array Oper} {Q : Exit → Act → World → Prop} : ∀ (l : List Nat) (rs : List ROp) {s s' : St} {a : Act} {w : World} {L : Lf}, l.length = rs.length →
    (∀ (k i : Nat) (r : ROp), l[k]? = some i → rs[k]? = some r → ∃ o, ops[i]? = some o ∧ resolveO P N ops o = some r) → Inv RO w0 R0 base L0 N s a w L → runR ctx rs s = some s' → (∀ a' w' L', Inv RO w0 R0 base L0 N s' a' w' L' → Q .normal a' w') → wpOps P ops Q l a w
  | [], [], s, s', a, w, L, _, _, hi, hs, hQ => by
    simp only [runR, Option.some.injEq] at hs
    subst hs
    simpa only [wpOps] using hQ a w L hi
  | i :: l, r :: rs, s, s', a, w, L, hl, hr, hi, hs, hQ => by
    simp only [runR] at hs
    split at hs
    · rename_i s1 hs1
      rw [wpOps_cons]
      obtain ⟨o, h1, h2⟩ := hr 0 i r (by simp) (by simp)
      refine runO_sound hctx hi h1 h2 hs1 (fun a' w' L' hi' => ?_)
      exact runR_sound hctx l rs (by simpa using hl) (fun k i r hk hr' => hr (k + 1) i r (by simpa using hk) (by simpa using hr')) hi' hs hQ
    · simp at hs
  | [], _ :: _, _, _, _, _, _, hl, _, _, _, _ => by simp at hl
  | _ :: _, [], _, _, _, _, _, hl, _, _, _, _ => by simp at hl
theorem resolveL_get {N : Nat} {ops : Array Oper} : ∀ {os : List Oper} {rs : List ROp}, resolveL P N ops os = some rs → os.length = rs.length ∧ ∀ (k : Nat) o, os[k]? = some o → ∃ r, rs[k]? = some r ∧ resolveO P N ops o = some r
  | [], rs, h => by simp only [resolveL, Option.some.injEq] at h; subst h; simp
  | o :: os, rs, h => by
    simp only [resolveL] at h
    split at h
    · rename_i r rs' h1 h2
      simp only [Option.some.injEq] at h
      subst h
      obtain ⟨h3, h4⟩ := resolveL_get h2
      refine ⟨by simp [h3], fun k o' hk => ?_⟩
      cases k with
      | zero => simp at hk; subst hk; exact ⟨r, by simp, h1⟩
      | succ k =>
        obtain ⟨r', h5, h6⟩ := h4 k o' (by simpa using hk)
        exact ⟨r', by simpa using h5, h6⟩
    · simp at h
end
end Go.Proofs.Ytldmpjoddghdkaa.AI
