import Derived.Test.YtldmpjoddghdkaaAMapo
namespace Go.Proofs.Ytldmpjoddghdkaa.AI
set_option linter.all false
open Go.RowKit
set_option autoImplicit false
set_option linter.all false
variable [Tabs]
def Bx.plus (RO : Bx) (D : Nat → Prop) : Bx := ⟨RO.rd, fun B => RO.pr B ∨ D B, fun B h => .inl (RO.sub B h)⟩
def flatV : AV → Bool
  | .dead => true
  | .bool _ => true
  | .tree _ _ => true
  | _ => false
structure InvM (RO : Bx) (w0 : World) (R0 : Rf) (base : Nat) (L0 : Lf) (N : Nat) (T : List Nat) (G : Nat) (D : Nat → Prop) (b : Nat) (s : St) (a : Act) (w : World) (L : Lf) : Prop where
  inv : Inv (RO.plus D) w R0 base L0 N (er T s) a w L
  same : Same RO w0 w
  size : w0.heap.size ≤ w.heap.size
  os : w.os = w0.os
  tape : w.tape = w0.tape
  output : w.output = w0.output
  new : ∀ B, D B → w0.heap.size ≤ B ∧ B < w.heap.size
  ro : ∀ B, RO.pr B → B < w0.heap.size
  tb : ∀ B, Tabs.at_ B → RO.pr B
  fl : ∀ t, has T t = true → flatV (lk s.tm t) = true
  tok : ∀ t, has T t = true → t ≠ G → lk s.tm t = .bool true → D b ∧ a.tmps.getD t undef = .map (some b)
  cont : ∀ es', lk s.tm G = .tree 2 es' → D b ∧ ∃ es clock l, w.heap[b]? = some (.map es clock) ∧ MR es.toList l ∧ es' = l.map cM
  hG : has T G = true
section
variable {P : Program} {RO : Bx} {ctx : Ctx}
theorem Cl.map {RO RO' : Bx} {w w' : World} {R : Rf} {nx : Nat} {L : Lf} {r i j : Nat} {bx : Bool} {c : AV} {v : Value} (hV : ∀ v x, V RO w R nx L v x → V RO' w' R nx L v x) (h : Cl RO w R nx L r bx i j c v) : Cl RO' w' R nx L r bx i j c v := by
  unfold Cl at *
  split
  · exact h
  · rename_i h0
    split at h
    · exact absurd rfl (h0 _ _ rfl)
    · exact hV _ _ h
theorem HRel.turn {D D' : Nat → Prop} {w w' : World} {R : Rf} {nx : Nat} {L : Lf} (h : HRel (RO.plus D) w R nx L) (hsz : w.heap.size ≤ w'.heap.size) (hD' : ∀ B, D' B → B < w'.heap.size) (hnew : ∀ B, D' B → D B ∨ w.heap.size ≤ B)
    (hsame : ∀ B, B < w.heap.size → ¬ D B → w'.heap[B]? = w.heap[B]?) (hro : ∀ B, RO.pr B → B < w.heap.size ∧ ¬ D B) (htb : ∀ B, Tabs.at_ B → RO.pr B) : HRel (RO.plus D') w' R nx L := by
  have hs : Same RO w w' := fun B hB => hsame B (hro B hB).1 (hro B hB).2
  have hV : ∀ v x, V (RO.plus D) w R nx L v x → V (RO.plus D') w' R nx L v x := fun v x hv =>
    V_more (RO := RO) (RO' := RO.plus D') (fun B hB => hB) _ _ (V.mono hs (Pres.refl _ _ _) _ _ (V_more (RO := RO.plus D) (RO' := RO) (fun B hB => hB) _ _ hv))
  refine ⟨h.dom, fun r p bx k es hr => ?_, h.inj, fun B hB => ?_, fun B hB => ?_⟩
  · have h0 := h.rows r p bx k es hr
    refine ⟨h0.shape, h0.cells, h0.no, fun b o T hL => ?_⟩
    obtain ⟨h1, h2, h3, h4⟩ := h0.yes b o T hL
    have hnd : ¬ D b := fun e => h1 (.inr e)
    have hb := hsame b h2.lt hnd
    refine ⟨?_, ⟨Nat.lt_of_lt_of_le h2.lt hsz, fun i hi => ?_, fun i hi => ?_⟩, h3, fun i j hi hj => ?_⟩
    · rintro (e | e)
      · exact h1 (.inl e)
      · rcases hnew b e with e | e
        · exact hnd e
        · have := h2.lt; omega
    · rw [cell_of hb]; exact h2.cell i hi
    · rw [frozen_of hb]; exact h2.free i hi
    · obtain ⟨v, hv, hc⟩ := h4 i j hi hj
      exact ⟨v, by rw [cell_of hb]; exact hv, Cl.map hV hc⟩
  · rcases hB with hB | hB
    · exact Nat.lt_of_lt_of_le (hro B hB).1 hsz
    · exact hD' B hB
  · obtain ⟨h1, x, h2, h3⟩ := h.tb B hB
    exact ⟨.inl (htb B hB), x, by rw [hs B (htb B hB)]; exact h2, h3⟩
theorem HRel.less {RO RO' : Bx} {w : World} {R : Rf} {nx : Nat} {L : Lf} (h : HRel RO' w R nx L) (hrd : ∀ B, RO'.rd B → RO.rd B) (hpr : ∀ B, RO.pr B → RO'.pr B) (htb : ∀ B, Tabs.at_ B → RO.pr B) : HRel RO w R nx L := by
  refine ⟨h.dom, fun r p bx k es hr => ?_, h.inj, fun B hB => h.ro B (hpr B hB), fun B hB => ⟨htb B hB, (h.tb B hB).2⟩⟩
  have h0 := h.rows r p bx k es hr
  refine ⟨h0.shape, h0.cells, h0.no, fun b o T hL => ?_⟩
  obtain ⟨h1, h2, h3, h4⟩ := h0.yes b o T hL
  refine ⟨fun e => h1 (hpr b e), h2, h3, fun i j hi hj => ?_⟩
  obtain ⟨v, hv, hc⟩ := h4 i j hi hj
  exact ⟨v, hv, Cl.map (fun v x => V_more hrd v x) hc⟩
theorem InvM.out {w0 : World} {R0 : Rf} {base : Nat} {L0 : Lf} {N : Nat} {T : List Nat} {G : Nat} {D : Nat → Prop} {b : Nat} {s : St} {a : Act} {w : World} {L : Lf} (h : InvM RO w0 R0 base L0 N T G D b s a w L) : Inv RO w0 R0 base L0 N (er T s) a w L :=
  ⟨h.inv.rel.less (fun B hB => hB) (fun B hB => .inl hB) h.tb, h.inv.pres, h.same, h.size, h.os, h.tape, h.output, fun t => V_more (RO := RO.plus D) (RO' := RO) (fun B hB => hB) _ _ (h.inv.ev t), h.inv.tmps, h.inv.defers⟩
theorem runO_sound' (hctx : CtxOk P ctx) {w0 : World} {R0 : Rf} {base : Nat} {L0 : Lf} {N : Nat} {s s' : St} {a : Act} {w : World} {L : Lf} (hi : Inv RO w0 R0 base L0 N s a w L) {ops : Array Oper} {i : Nat} {o : Oper} (ho : ops[i]? = some o) {r : ROp} (hr : resolveO P N ops o = some r) (hs : runO ctx r s = some s')
    {K : Act → World → Prop} {Q : Exit → Act → World → Prop} (hK : ∀ x w' L', Inv RO w0 R0 base L0 N s' (a.put o.dst x) w' L' → K (a.put o.dst x) w') : wpOp P ops Q i K a w := by
  unfold resolveO at hr
  split at hr
  · simp at hr
  · rename_i ro hro
    split at hr
    · rename_i hdst
      have hdst' : dstOk a.tmps.size o.dst = true := by rw [hi.tmps]; exact hdst
      have go : ∀ (v : AV) (hp' : Hp), stepC ctx (Go.Proofs.Ytldmpjoddghdkaa.AI.ev s.tm) s.hp ro = some (v, hp') → s' = ⟨Go.Proofs.Ytldmpjoddghdkaa.AI.put s.tm o.dst v, hp'⟩ → o.wp P a w K Q := by
        intro v hp' hst e
        subst e
        refine stepC_sound hctx hi.rel hi.ev hro hst (fun x w' L' hadv hv => ?_)
        refine hK _ _ L' ⟨hadv.rel, ?_, hi.same.trans hadv.same, Nat.le_trans hi.size hadv.size, hadv.os.trans hi.os, hadv.tape.trans hi.tape, hadv.output.trans hi.output, ?_, by rw [put_size]; exact hi.tmps, by rw [put_defers]; exact hi.defers⟩
        · refine ⟨Nat.le_trans hi.pres.le hadv.pres.le, fun r b' hr hb => ?_, fun r hr hg bx k es' he => ?_⟩
          · obtain ⟨b1, e1, e2⟩ := hadv.pres.old r b' (Nat.lt_of_lt_of_le hr hi.pres.le) hb
            obtain ⟨b2, e3, e4⟩ := hi.pres.old r b1 hr e1
            exact ⟨b2, e3, Nat.le_trans e4 e2⟩
          · obtain ⟨es1, e1, e2, e3⟩ := hadv.pres.keep r (Nat.lt_of_lt_of_le hr hi.pres.le) (hi.pres.genOk hr hg) bx k es' he
            obtain ⟨es0, e4, e5, e6⟩ := hi.pres.keep r hr hg bx k es1 e1
            exact ⟨es0, e4, e5.trans e2, e3.trans e6⟩
        · refine EV.put ?_ hdst' hv
          intro t
          exact hadv.v (hi.ev t)
      have skip : s' = ⟨Go.Proofs.Ytldmpjoddghdkaa.AI.put s.tm o.dst (.tup []), s.hp⟩ → K (a.put o.dst undef) w := by
        intro e
        subst e
        refine hK _ _ L ⟨hi.rel, hi.pres, hi.same, hi.size, hi.os, hi.tape, hi.output, EV.put hi.ev hdst' (by simp only [V]; exact ⟨#[], rfl, by simp [VL]⟩), by rw [put_size]; exact hi.tmps, by rw [put_defers]; exact hi.defers⟩
      unfold wpOp
      simp only [ho]
      split at hr
      · rename_i hg
        simp only [Option.some.injEq] at hr
        subst hr
        have hw : Region.wanted o (yielded ops a.tmps) = true := by simp [Region.wanted, hg]
        rw [hw, if_pos rfl]
        simp only [runO] at hs
        split at hs
        · rename_i v hp' hst
          simp only [Option.some.injEq] at hs
          exact .inl (go v hp' hst hs.symm)
        · simp at hs
      · rename_i j want hg
        split at hr
        · rename_i d hd
          split at hr
          · rename_i hdN
            simp only [Option.some.injEq] at hr
            subst hr
            have hVd := hi.ev d
            have hget : a.tmps[d]? = some (a.tmps.getD d undef) := by
              have : d < a.tmps.size := by rw [hi.tmps]; exact hdN
              simp [Array.getD, this]
            simp only [runO] at hs
            split at hs
            · rename_i b hb
              rw [hb] at hVd
              have hy : yielded ops a.tmps j = some b := by
                simp only [yielded, hd, Option.bind_some, hget, V_bool hVd]
              split at hs
              · rename_i hbw
                have hw : Region.wanted o (yielded ops a.tmps) = true := by simp [Region.wanted, hg, hy, hbw]
                rw [hw, if_pos rfl]
                split at hs
                · rename_i v hp' hst
                  simp only [Option.some.injEq] at hs
                  exact .inl (go v hp' hst hs.symm)
                · simp at hs
              · rename_i hbw
                have hw : Region.wanted o (yielded ops a.tmps) = false := by simp [Region.wanted, hg, hy, hbw]
                rw [hw]
                simp only [Option.some.injEq] at hs
                simpa using skip hs.symm
            · rename_i hb
              rw [hb] at hVd
              simp only [V] at hVd
              obtain ⟨vs, e, hvs⟩ := hVd
              have hy : yielded ops a.tmps j = none := by
                simp only [yielded, hd, Option.bind_some, hget, e]
              have hw : Region.wanted o (yielded ops a.tmps) = false := by simp [Region.wanted, hg, hy]
              rw [hw]
              simp only [Option.some.injEq] at hs
              simpa using skip hs.symm
            · simp at hs
          · simp at hr
        · simp at hr
    · simp at hr
theorem put_getD {a : Act} {d : Option Nat} {x : Value} {t : Nat} : (a.put d x).tmps.getD t undef = if d = some t ∧ t < a.tmps.size then x else a.tmps.getD t undef := by
  cases d with
  | none => simp [Act.put]
  | some d =>
    by_cases e : d = t
    · subst e
      by_cases h : d < a.tmps.size
      · simp [Act.put, h, Array.getD]
      · simp [Act.put, h, Array.getD]
    · simp [Act.put, e, Array.getD_eq_getD_getElem?, Array.getElem?_setIfInBounds]
theorem resolveO_dst {N : Nat} {ops : Array Oper} {o : Oper} {r : ROp} (h : resolveO P N ops o = some r) : r.dst = o.dst := by
  unfold resolveO at h
  split at h
  · simp at h
  · split at h
    · split at h
      · simp only [Option.some.injEq] at h; subst h; rfl
      · split at h
        · split at h
          · simp only [Option.some.injEq] at h; subst h; rfl
          · simp at h
        · simp at h
    · simp at h
theorem Inv.putT {RO : Bx} {w0 : World} {R0 : Rf} {base : Nat} {L0 : Lf} {N : Nat} {T : List Nat} {s s' : St} {a : Act} {w : World} {L : Lf} (hi : Inv RO w0 R0 base L0 N (er T s) a w L) (hs : er T s' = er T s) {d : Nat} (hd : has T d = true) (x : Value) : Inv RO w0 R0 base L0 N (er T s') (a.put (some d) x) w L := by
  rw [hs]
  refine ⟨hi.rel, hi.pres, hi.same, hi.size, hi.os, hi.tape, hi.output, fun t => ?_, by rw [put_size]; exact hi.tmps, by rw [put_defers]; exact hi.defers⟩
  have h0 := hi.ev t
  by_cases e : d = t
  · subst e
    simp only [er, lk_er, hd, if_true, V]
  · rw [put_getD, if_neg (by simp [e])]; exact h0
theorem ctxM_mk : ctxM ctx 1000000 = some (.inl mkG) := by simp [ctxM]
theorem ctxM_put : ctxM ctx 1000001 = some (.inl putG) := by simp [ctxM]
theorem ctxM_get : ctxM ctx 1000002 = some (.inl getG) := by simp [ctxM]
theorem callM {e : X → AV} {hp : Hp} {f : Nat} {g : List AV → Hp → Option (AV × Hp)} {xs : List X} (h : ctxM ctx f = some (.inl g)) : stepC (ctxM ctx) e hp (.call f xs) = g (xs.map e) hp := by
  simp only [stepC, h, callS]
theorem ev_back {w : World} {R : Rf} {nx : Nat} {L : Lf} {T : List Nat} {tm : List (Nat × AV)} {a : Act} (he : EV RO w R nx L (erT T tm) a) {x : Operand} {y : X} (hx : rX0 x = some y) (hf : freeT T y = true) : V RO w R nx L (ev tm y) (a.eval x) := by
  have := rX0_V he hx
  rwa [ev_er hf] at this
theorem opM_sound (hctx : CtxOk P ctx) {w0 : World} {R0 : Rf} {base : Nat} {L0 : Lf} {N : Nat} {T : List Nat} {G : Nat} {D : Nat → Prop} {b : Nat} {s s' : St} {a : Act} {w : World} {L : Lf} (hi : InvM RO w0 R0 base L0 N T G D b s a w L) {ops : Array Oper} {i : Nat} {o : Oper} (ho : ops[i]? = some o) {rs : List ROp}
    (hr : resolveOM P N T G ops o = some rs) (hs : runR (ctxM ctx) rs s = some s') {K : Act → World → Prop} {Q : Exit → Act → World → Prop} (hK : ∀ D' b' a' w' L', InvM RO w0 R0 base L0 N T G D' b' s' a' w' L' → K a' w') : wpOp P ops Q i K a w := by
  have hroD : ∀ B, RO.pr B → B < w.heap.size ∧ ¬ D B := fun B hB => ⟨Nat.lt_of_lt_of_le (hi.ro B hB) hi.size, fun e => by have := (hi.new B e).1; have := hi.ro B hB; omega⟩
  have plain : ∀ r, resolveO P N ops o = some r → plainOk T r = true → runR (ctxM ctx) [r] s = some s' → wpOp P ops Q i K a w := by
    intro r hr hp hs
    have hs' : runO (ctxM ctx) r s = some s' := by
      simp only [runR] at hs
      split at hs
      · rename_i s1 h1; rw [h1]; exact hs
      · simp at hs
    obtain ⟨h1, h2⟩ := runO_er hp hs'
    have hdst : offT T o.dst = true := by
      rw [← resolveO_dst hr]
      simp only [plainOk, Bool.and_eq_true] at hp
      exact hp.1.1.2
    refine runO_sound' hctx hi.inv ho hr h1 (fun x w' L' hi' => hK D b _ w' L' ?_)
    have hD : ∀ B, D B → w'.heap[B]? = w.heap[B]? := fun B hB => hi'.same B (.inr hB)
    refine ⟨⟨hi'.rel, hi'.pres, Same.refl _ _, Nat.le_refl _, rfl, rfl, rfl, hi'.ev, hi'.tmps, hi'.defers⟩, hi.same.trans fun B hB => hi'.same B (.inl hB), Nat.le_trans hi.size hi'.size, hi'.os.trans hi.os, hi'.tape.trans hi.tape, hi'.output.trans hi.output,
      fun B hB => ⟨(hi.new B hB).1, Nat.lt_of_lt_of_le (hi.new B hB).2 hi'.size⟩, hi.ro, hi.tb, fun t ht => by rw [h2 t ht]; exact hi.fl t ht, fun t ht hG h => ?_, fun es' h => ?_, hi.hG⟩
    · rw [h2 t ht] at h
      obtain ⟨h3, h4⟩ := hi.tok t ht hG h
      refine ⟨h3, ?_⟩
      rw [put_getD, if_neg]
      · exact h4
      · rintro ⟨e, _⟩
        rw [e] at hdst
        simp only [offT, Bool.not_eq_true'] at hdst
        rw [hdst] at ht; simp at ht
    · rw [h2 G hi.hG] at h
      obtain ⟨h3, es, clock, l, h4, h5, h6⟩ := hi.cont es' h
      exact ⟨h3, es, clock, l, by rw [hD b h3]; exact h4, h5, h6⟩
  have wanted : o.guard = none → (o.wp P a w K Q) → wpOp P ops Q i K a w := by
    intro hg h
    unfold wpOp
    have hw : Region.wanted o (yielded ops a.tmps) = true := by simp [Region.wanted, hg]
    simp only [ho, hw, if_true]
    exact .inl h
  unfold resolveOM at hr
  split at hr
  · -- a map is made
    rename_i t hop
    split at hr
    · rename_i d hg hd
      split at hr
      · rename_i hc
        obtain ⟨hc1, hc2, hc3, hc4⟩ := hc
        simp only [Option.some.injEq] at hr
        subst hr
        simp only [runR, runO, callM ctxM_mk] at hs
        split at hs
        · rename_i s1 hs1
          split at hs1
          · rename_i v hp' hmk
            simp only [Option.some.injEq] at hs1
            subst hs1
            unfold mkG at hmk
            split at hmk
            · rename_i hall
              simp only [Option.some.injEq, Prod.mk.injEq] at hmk
              obtain ⟨rfl, rfl⟩ := hmk
              simp only [stepC, step, ev, Option.some.injEq] at hs
              subst hs
              have hdead : ∀ t, has T t = true → lk s.tm t = .dead := by
                intro t ht
                have hmem : t ∈ T := has_mem.1 ht
                have := List.all_eq_true.1 hall (lk s.tm t) (by simp only [List.map_map, List.mem_map]; exact ⟨t, hmem, rfl⟩)
                cases hl : lk s.tm t <;> rw [hl] at this <;> simp at this ⊢
              refine wanted hg ?_
              unfold Oper.wp
              have hrun : (execOp a.eval o).run P w = .ok (.value (.map (some w.heap.size))) (w.alloc (.map #[] 0)) := by
                simp only [execOp, hop, Option.map_none, Sem.run_bind, run_makeMap, Result.andThen_ok, Sem.run_pure]
              rw [hrun, Oper.upon_value]
              have hsz : w.heap.size ≤ (w.alloc (.map #[] 0)).heap.size := by simp
              have hsz1 : (w.alloc (.map #[] 0)).heap.size = w.heap.size + 1 := by simp
              have hold : ∀ B, B < w.heap.size → (w.alloc (.map #[] 0)).heap[B]? = w.heap[B]? := fun B hB => Below.heap_alloc w _ B hB
              have hnewb : (w.alloc (.map #[] 0)).heap[w.heap.size]? = some (.map #[] 0) := (MapKept.heap_alloc w _).1
              have hrel := hi.inv.rel.turn (D' := fun B => D B ∨ B = w.heap.size) (w' := w.alloc (.map #[] 0)) hsz (fun B hB => by rcases hB with hB | rfl; exact Nat.lt_of_lt_of_le (hi.new B hB).2 hsz; omega) (fun B hB => by rcases hB with hB | rfl; exact .inl hB; exact .inr (Nat.le_refl _))
                (fun B hB _ => hold B hB) hroD hi.tb
              have hsm : Same RO w (w.alloc (.map #[] 0)) := fun B hB => hold B (hroD B hB).1
              have e1 : er T ⟨put (put s.tm (some G) (.tree 2 [])) (some d) (.bool true), s.hp⟩ = er T s := by
                simp only [er, put_erT hc2, put_erT hi.hG]
              refine hK (fun B => D B ∨ B = w.heap.size) w.heap.size _ _ L ⟨?_, hi.same.trans hsm, Nat.le_trans hi.size hsz, hi.os, hi.tape, hi.output, fun B hB => ?_, hi.ro, hi.tb, fun t ht => ?_, fun t ht hG h => ?_, fun es' h => ?_, hi.hG⟩
              · rw [hd]
                refine Inv.putT (s := s) ⟨hrel, hi.inv.pres, Same.refl _ _, Nat.le_refl _, rfl, rfl, rfl, fun t => ?_, hi.inv.tmps, hi.inv.defers⟩ e1 hc2 _
                exact V_more (RO := RO) (RO' := RO.plus _) (fun B hB => hB) _ _ (V.mono hsm (Pres.refl _ _ _) _ _ (V_more (RO := RO.plus D) (RO' := RO) (fun B hB => hB) _ _ (hi.inv.ev t)))
              · rcases hB with hB | rfl
                · exact ⟨(hi.new B hB).1, Nat.lt_of_lt_of_le (hi.new B hB).2 hsz⟩
                · exact ⟨hi.size, by omega⟩
              · simp only [lk_put]
                split
                · rfl
                · split
                  · rfl
                  · rw [hdead t ht]; rfl
              · simp only [lk_put] at h
                split at h
                · rename_i e
                  subst e
                  refine ⟨.inr rfl, ?_⟩
                  rw [hd, put_getD, if_pos ⟨rfl, by rw [hi.inv.tmps]; exact hc4⟩]
                · split at h
                  · simp at h
                  · rw [hdead t ht] at h; simp at h
              · simp only [lk_put] at h
                rw [if_neg hc3] at h
                simp only [if_true, AV.tree.injEq, true_and] at h
                subst h
                exact ⟨.inr rfl, #[], 0, [], hnewb, by simp [MR], rfl⟩
            · simp at hmk
          · simp at hs1
        · simp at hs
      · simp at hr
    · simp at hr
  · -- an entry is set
    rename_i t m k v hop
    split at hr
    · rename_i k' v' hg hd hk hv
      split at hr
      · rename_i hc
        obtain ⟨hc1, hc2, hc3, hc4, hc5⟩ := hc
        simp only [Option.some.injEq] at hr
        subst hr
        simp only [runR, runO, callM ctxM_put, List.map_cons, List.map_nil] at hs
        split at hs
        · rename_i s1 hs1
          simp only [Option.some.injEq] at hs
          subst hs
          split at hs1
          · rename_i v0 hp' hmk
            simp only [Option.some.injEq] at hs1
            subst hs1
            unfold putG at hmk
            split at hmk
            · rename_i es0 kk nn hargs
              simp only [List.cons.injEq, and_true] at hargs
              obtain ⟨g1, g2, g3, g4⟩ := hargs
              simp only [ev] at g1 g2
              split at hmk
              · rename_i l hl
                simp only [Option.some.injEq, Prod.mk.injEq] at hmk
                obtain ⟨rfl, rfl⟩ := hmk
                obtain ⟨hDb, es, clock, l', hb, hMR, hes⟩ := hi.cont es0 g1
                have : l' = l := by
                  have h1 := asM_map l'
                  rw [← hes, hl] at h1
                  simpa using h1.symm
                subst this
                obtain ⟨_, htm⟩ := hi.tok m hc2 hc3 g2
                have hkv := ev_back hi.inv.ev hk hc4
                have hvv := ev_back hi.inv.ev hv hc5
                rw [g3] at hkv
                rw [g4] at hvv
                have hkv := V_str hkv
                have hvv := V_int hvv
                obtain ⟨es2, clock2, hrun, hMR2⟩ := run_put hc1 hb hMR kk nn
                refine wanted hg ?_
                unfold Oper.wp
                have hm : a.eval (.tmp m) = .map (some b) := htm
                have hrun' : (execOp a.eval o).run P w = .ok .skip { w with heap := w.heap.setIfInBounds b (.map es2 clock2) } := by
                  simp only [execOp, hop, hm, hkv, hvv, Sem.run_bind, hrun, Result.andThen_ok, Sem.run_pure]
                rw [hrun', Oper.upon_skip, hd]
                obtain ⟨hs1, hs2⟩ := MapKept.heap_set (w := w) (o' := .map es2 clock2) hb
                have hold : ∀ B, B < w.heap.size → ¬ D B → ({ w with heap := w.heap.setIfInBounds b (.map es2 clock2) } : World).heap[B]? = w.heap[B]? := fun B _ hB => hs2 B (fun e => hB (by rw [e]; exact hDb))
                have hsz : ({ w with heap := w.heap.setIfInBounds b (.map es2 clock2) } : World).heap.size = w.heap.size := by simp
                have hrel := hi.inv.rel.turn (D' := D) (w' := { w with heap := w.heap.setIfInBounds b (.map es2 clock2) }) (Nat.le_of_eq hsz.symm) (fun B hB => by rw [hsz]; exact (hi.new B hB).2) (fun B hB => .inl hB) hold hroD hi.tb
                have hsm : Same RO w { w with heap := w.heap.setIfInBounds b (.map es2 clock2) } := fun B hB => hold B (hroD B hB).1 (hroD B hB).2
                refine hK D b _ _ L ⟨?_, hi.same.trans hsm, by rw [hsz]; exact hi.size, hi.os, hi.tape, hi.output, fun B hB => by rw [hsz]; exact hi.new B hB, hi.ro, hi.tb, fun t ht => ?_, fun t ht hG h => ?_, fun es' h => ?_, hi.hG⟩
                · have e1 : er T ⟨put s.tm (some G) (.tree 2 ((mput l' kk nn).map cM)), s.hp⟩ = er T s := by simp only [er, put_erT hi.hG]
                  rw [e1]
                  refine ⟨hrel, hi.inv.pres, Same.refl _ _, Nat.le_refl _, rfl, rfl, rfl, fun t => ?_, hi.inv.tmps, hi.inv.defers⟩
                  exact V_more (RO := RO) (RO' := RO.plus _) (fun B hB => hB) _ _ (V.mono hsm (Pres.refl _ _ _) _ _ (V_more (RO := RO.plus D) (RO' := RO) (fun B hB => hB) _ _ (hi.inv.ev t)))
                · simp only [lk_put]
                  split
                  · rfl
                  · exact hi.fl t ht
                · simp only [lk_put] at h
                  rw [if_neg (fun e => hG e.symm)] at h
                  exact hi.tok t ht hG h
                · simp only [lk_put, if_true, AV.tree.injEq, true_and] at h
                  exact ⟨hDb, es2, clock2, _, hs1, hMR2, h.symm⟩
              · simp at hmk
            · simp at hmk
          · simp at hs1
        · simp at hs
      · simp at hr
    · simp at hr
  · -- an entry is looked up
    rename_i t m k hop
    split at hr
    · rename_i d k' hg hd hk
      split at hr
      · rename_i hc
        obtain ⟨hc1, hc2, hc3, hc4, hc5, hc6⟩ := hc
        simp only [Option.some.injEq] at hr
        subst hr
        simp only [runR, runO, callM ctxM_get, List.map_cons, List.map_nil] at hs
        split at hs
        · rename_i s1 hs1
          simp only [Option.some.injEq] at hs
          subst hs
          split at hs1
          · rename_i v0 hp' hmk
            simp only [Option.some.injEq] at hs1
            subst hs1
            unfold getG at hmk
            split at hmk
            · rename_i es0 kk hargs
              simp only [List.cons.injEq, and_true] at hargs
              obtain ⟨g1, g2, g3⟩ := hargs
              simp only [ev] at g1 g2
              split at hmk
              · rename_i l hl
                split at hmk
                · rename_i n hn
                  simp only [Option.some.injEq, Prod.mk.injEq] at hmk
                  obtain ⟨rfl, rfl⟩ := hmk
                  obtain ⟨hDb, es, clock, l', hb, hMR, hes⟩ := hi.cont es0 g1
                  have : l' = l := by
                    have h1 := asM_map l'
                    rw [← hes, hl] at h1
                    simpa using h1.symm
                  subst this
                  obtain ⟨_, htm⟩ := hi.tok m hc2 hc3 g2
                  have hkv := ev_back hi.inv.ev hk hc4
                  rw [g3] at hkv
                  have hkv := V_str hkv
                  have hrun := run_get (P := P) hc1 hb hMR kk n hn
                  refine wanted hg ?_
                  unfold Oper.wp
                  have hm : a.eval (.tmp m) = .map (some b) := htm
                  have hrun' : (execOp a.eval o).run P w = .ok (.value (.int .i64 n)) w := by
                    simp only [execOp, hop, hm, hkv, Sem.run_bind, hrun, Result.andThen_ok, Sem.run_pure]
                  rw [hrun', Oper.upon_value, hd]
                  have hoff : offT T (some d) = true := by simp [offT, hc5]
                  refine hK D b _ _ L ⟨?_, hi.same, hi.size, hi.os, hi.tape, hi.output, hi.new, hi.ro, hi.tb, fun t ht => ?_, fun t ht hG h => ?_, fun es' h => ?_, hi.hG⟩
                  · have e1 : er T ⟨put s.tm (some d) (.int .i64 n), s.hp⟩ = ⟨put (er T s).tm (some d) (.int .i64 n), s.hp⟩ := by simp only [er, put_er hoff]
                    rw [e1]
                    have hev := EV.put (d := some d) (v := .int .i64 n) (x := .int .i64 n) hi.inv.ev (by rw [hi.inv.tmps]; simp [dstOk, hc6]) (by simp only [V, Rd])
                    exact ⟨hi.inv.rel, hi.inv.pres, hi.inv.same, hi.inv.size, rfl, rfl, rfl, hev, by rw [put_size]; exact hi.inv.tmps, by rw [put_defers]; exact hi.inv.defers⟩
                  · rw [lk_put_off hoff ht]; exact hi.fl t ht
                  · rw [lk_put_off hoff ht] at h
                    obtain ⟨h3, h4⟩ := hi.tok t ht hG h
                    refine ⟨h3, ?_⟩
                    rw [put_getD, if_neg]
                    · exact h4
                    · rintro ⟨e, _⟩
                      simp only [Option.some.injEq] at e
                      rw [e] at hc5
                      rw [hc5] at ht; simp at ht
                  · rw [lk_put_off hoff hi.hG] at h
                    exact hi.cont es' h
                · simp at hmk
              · simp at hmk
            · simp at hmk
          · simp at hs1
        · simp at hs
      · simp at hr
    · simp at hr
  · split at hr
    · -- the map is named anew
      rename_i m htok
      split at hr
      · rename_i d hg hd
        split at hr
        · rename_i hc
          obtain ⟨hc2, hc3, hc4⟩ := hc
          simp only [Option.some.injEq] at hr
          subst hr
          simp only [runR, runO, stepC, step, ev, Option.some.injEq] at hs
          subst hs
          have hmv : (o.op = .move (.tmp m) ∨ o.op = .assign (.tmp m)) ∧ has T m = true ∧ m ≠ G := by
            unfold tokOf at htok
            split at htok
            · rename_i m' hop
              split at htok
              · rename_i hc; simp only [Option.some.injEq] at htok; subst htok; exact ⟨.inl hop, hc⟩
              · simp at htok
            · rename_i m' hop
              split at htok
              · rename_i hc; simp only [Option.some.injEq] at htok; subst htok; exact ⟨.inr hop, hc⟩
              · simp at htok
            · simp at htok
          obtain ⟨hop, hm, hmG⟩ := hmv
          refine wanted hg ?_
          unfold Oper.wp
          have hrun : (execOp a.eval o).run P w = .ok (.value (a.eval (.tmp m))) w := by
            rcases hop with hop | hop <;> simp [execOp, hop]
          rw [hrun, Oper.upon_value, hd]
          have e1 : er T ⟨put s.tm (some d) (lk s.tm m), s.hp⟩ = er T s := by simp only [er, put_erT hc2]
          refine hK D b _ _ L ⟨Inv.putT (s := s) hi.inv e1 hc2 _, hi.same, hi.size, hi.os, hi.tape, hi.output, hi.new, hi.ro, hi.tb, fun t ht => ?_, fun t ht hG h => ?_, fun es' h => ?_, hi.hG⟩
          · simp only [lk_put]
            split
            · exact hi.fl m hm
            · exact hi.fl t ht
          · simp only [lk_put] at h
            split at h
            · rename_i e
              subst e
              obtain ⟨h3, h4⟩ := hi.tok m hm hmG h
              refine ⟨h3, ?_⟩
              rw [put_getD, if_pos ⟨rfl, by rw [hi.inv.tmps]; exact hc4⟩]
              exact h4
            · rename_i e
              obtain ⟨h3, h4⟩ := hi.tok t ht hG h
              refine ⟨h3, ?_⟩
              rw [put_getD, if_neg (by simp [e])]
              exact h4
          · simp only [lk_put, if_neg hc3] at h
            exact hi.cont es' h
        · simp at hr
      · simp at hr
    · split at hr
      · rename_i r hr'
        split at hr
        · rename_i hp
          simp only [Option.some.injEq] at hr
          subst hr
          exact plain r hr' hp hs
        · simp at hr
      · simp at hr
end
end Go.Proofs.Ytldmpjoddghdkaa.AI
