import Derived.Test.YtldmpjoddghdkaaARunC
namespace Go.Proofs.Ytldmpjoddghdkaa.AI
set_option linter.all false
open Go.RowKit
set_option autoImplicit false
set_option linter.unusedVariables false
set_option linter.unusedSimpArgs false
variable [Tabs]
section
variable {P : Program} {RO : Bx} {ctx : Ctx}
theorem lk_params : ∀ (vs : List AV) (i t : Nat), lk (params i vs) t = if i ≤ t then vs.getD (t - i) .dead else .dead
  | [], i, t => by simp [params, lk]
  | v :: vs, i, t => by
    simp only [params, lk]
    rw [lk_params vs (i + 1) t]
    by_cases h : i = t
    · subst h; simp
    · rw [if_neg h]
      by_cases h2 : i ≤ t
      · rw [if_pos h2, if_pos (by omega)]
        rw [show t - i = (t - (i + 1)) + 1 by omega]
        simp
      · rw [if_neg h2, if_neg (by omega)]
theorem VL_length {w : World} {R : Rf} {nx : Nat} {L : Lf} : ∀ {cs : List AV} {vs : List Value}, VL RO w R nx L cs vs → cs.length = vs.length
  | [], [], _ => rfl
  | c :: cs, v :: vs, h => by simp only [VL] at h; simp [VL_length h.2]
  | [], _ :: _, h => by simp [VL] at h
  | _ :: _, [], h => by simp [VL] at h
theorem VL_getD {w : World} {R : Rf} {nx : Nat} {L : Lf} : ∀ {cs : List AV} {vs : List Value}, VL RO w R nx L cs vs → ∀ (t : Nat) (ds : List Value), V RO w R nx L (cs.getD t .dead) ((vs ++ ds).getD t undef)
  | [], [], _, t, ds => by simp [V]
  | c :: cs, v :: vs, h, 0, ds => by simp only [VL] at h; simpa using h.1
  | c :: cs, v :: vs, h, t + 1, ds => by
    simp only [VL] at h
    simpa using VL_getD h.2 t ds
  | [], _ :: _, h, _, _ => by simp [VL] at h
  | _ :: _, [], h, _, _ => by simp [VL] at h
theorem EV_params {w : World} {R : Rf} {nx : Nat} {L : Lf} {avs : List AV} {args : Array Value} (h : VL RO w R nx L avs args.toList) (n : Nat) : EV RO w R nx L (params 0 avs) { tmps := args ++ Array.replicate n undef, defers := [] } := by
  intro t
  rw [lk_params]
  simp only [Nat.zero_le, if_true, Nat.sub_zero]
  have := VL_getD h t (List.replicate n undef)
  have e : (args ++ Array.replicate n undef).getD t undef = (args.toList ++ List.replicate n undef).getD t undef := by
    rw [← Array.toList_replicate, ← Array.toList_append]
    simp only [Array.getD_eq_getD_getElem?, List.getD_eq_getElem?_getD, Array.getElem?_toList]
  exact e ▸ this
theorem resV_ok {w0 : World} {R0 : Rf} {base : Nat} {L0 : Lf} {N : Nat} {s : St} {a : Act} {w : World} {L : Lf} (hi : Inv RO w0 R0 base L0 N s a w L) {r : ResultVar} {q : RV} (hq : resolveRV P r = some q) {v : AV} (hv : resV s q = some v) :
    ∃ x, (match r with | .tmp t => (pure (a.tmps.getD t undef) : Sem Value) | .cell b t => do loadVar t (← asAddr (a.tmps.getD b undef))).run P w = .ok x w ∧ V RO w (root? s.hp) s.hp.length L v x := by
  cases r with
  | tmp t =>
    simp only [resolveRV, Option.some.injEq] at hq
    subst hq
    simp only [resV, Option.some.injEq] at hv
    subst hv
    exact ⟨_, rfl, hi.ev t⟩
  | cell b t =>
    simp only [resolveRV] at hq
    split at hq
    · rename_i n g hn hg
      split at hq
      · rename_i hc
        simp only [Option.some.injEq] at hq
        subst hq
        simp only [resV, Option.map_eq_some_iff] at hv
        obtain ⟨⟨v', hp'⟩, hst, rfl⟩ := hv
        have key : ∃ b' o z, a.eval (.tmp b) = .pointer (some ⟨b', o, none⟩) ∧ (loadVar t ⟨b', o, none⟩).run P w = .ok z w ∧ V RO w (root? s.hp) s.hp.length L v' z := by
          simp only [step] at hst
          split at hst
          · rename_i r k idx off hv
            split at hst
            · rename_i bx k' es hr
              split at hst
              · rename_i hcond
                obtain ⟨rfl, hii, hk⟩ := hcond
                simp only [Option.map_eq_some_iff, Prod.mk.injEq] at hst
                obtain ⟨z, hz, rfl, rfl⟩ := hst
                obtain ⟨b0, hb0⟩ := row_some (getB_row hr)
                refine ld_core hi.rel hi.ev hn hg hc.2 rfl (.inl ⟨r, _, idx, off, bx, es, b0, hv, hr, hb0, hii, hk, ?_⟩)
                simp only [genAt, hb0] at hz
                exact hz
              · simp at hst
            · simp at hst
          · rename_i cells off hv
            split at hst
            · rename_i hk
              simp only [Option.map_eq_some_iff, Prod.mk.injEq] at hst
              obtain ⟨z, hz, rfl, rfl⟩ := hst
              exact ld_core hi.rel hi.ev hn hg hc.2 rfl (.inr ⟨cells, off, hv, hk, hz⟩)
            · simp at hst
          · simp at hst
        obtain ⟨b', o, z, h1, h2, h3⟩ := key
        refine ⟨z, ?_, h3⟩
        simp only [Act.eval] at h1
        simp only [Sem.run_bind, h1, asAddr, Sem.run_pure, Result.andThen_ok, h2]
      · simp at hq
    · simp at hq
theorem mapM_ok {w : World} {R : Rf} {nx : Nat} {L : Lf} {s : St} {f : ResultVar → Sem Value} (hf : ∀ r q v, resolveRV P r = some q → resV s q = some v → ∃ x, (f r).run P w = .ok x w ∧ V RO w R nx L v x) :
    ∀ (rs : List ResultVar) (qs : List RV) (vs : List AV), mapO (resolveRV P) rs = some qs → mapO (resV s) qs = some vs → ∃ xs, (rs.mapM f).run P w = .ok xs w ∧ VL RO w R nx L vs xs
  | [], qs, vs, h1, h2 => by
    simp only [mapO, Option.some.injEq] at h1
    subst h1
    simp only [mapO, Option.some.injEq] at h2
    subst h2
    exact ⟨[], by simp, by simp [VL]⟩
  | r :: rs, qs, vs, h1, h2 => by
    simp only [mapO] at h1
    split at h1
    · rename_i q hq
      split at h1
      · rename_i qs' hqs
        simp only [Option.some.injEq] at h1
        subst h1
        simp only [mapO] at h2
        split at h2
        · rename_i v hv
          split at h2
          · rename_i vs' hvs
            simp only [Option.some.injEq] at h2
            subst h2
            obtain ⟨x, h3, h4⟩ := hf r q v hq hv
            obtain ⟨xs, h5, h6⟩ := mapM_ok hf rs qs' vs' hqs hvs
            exact ⟨x :: xs, by simp [List.mapM_cons, h3, h5], by simp only [VL]; exact ⟨h4, h6⟩⟩
          · simp at h2
        · simp at h2
      · simp at h1
    · simp at h1
theorem result_ok {w0 : World} {R0 : Rf} {base : Nat} {L0 : Lf} {N : Nat} {s : St} {a : Act} {w : World} {L : Lf} (hi : Inv RO w0 R0 base L0 N s a w L) {fn : Func} {F : RF} (hF : mapO (resolveRV P) fn.results.toList = some F.res) {v : AV} (hv : result F s = some v) :
    ∃ x, (results fn a.tmps).run P w = .ok x w ∧ V RO w (root? s.hp) s.hp.length L v x := by
  unfold result at hv
  let f : ResultVar → Sem Value := fun | .tmp t => pure (a.tmps.getD t undef) | .cell b t => do loadVar t (← asAddr (a.tmps.getD b undef))
  have hfold : results fn a.tmps = (do let vs ← fn.results.mapM f; pure (if h : vs.size = 1 then vs[0] else .tuple vs)) := rfl
  have key : ∀ vs, mapO (resV s) F.res = some vs → ∃ xs : List Value, (results fn a.tmps).run P w = .ok (if h : xs.toArray.size = 1 then xs.toArray[0] else .tuple xs.toArray) w ∧ VL RO w (root? s.hp) s.hp.length L vs xs := by
    intro vs hvs
    obtain ⟨xs, h1, h2⟩ := mapM_ok (f := f) (fun r q v hq hv => by
      obtain ⟨x, h3, h4⟩ := resV_ok hi hq hv
      exact ⟨x, by cases r <;> exact h3, h4⟩) fn.results.toList F.res vs hF hvs
    refine ⟨xs, ?_, h2⟩
    rw [hfold, Array.mapM_eq_mapM_toList]
    simp only [Sem.run_bind, map_eq_pure_bind, h1, Result.andThen_ok, Sem.run_pure]
  split at hv
  · rename_i v' hvs
    simp only [Option.some.injEq] at hv
    subst hv
    obtain ⟨xs, h1, h2⟩ := key _ hvs
    match xs, h2 with
    | [x], h2 =>
      simp only [VL] at h2
      exact ⟨x, by simpa using h1, h2.1⟩
    | [], h2 => simp [VL] at h2
    | _ :: _ :: _, h2 => simp [VL] at h2
  · rename_i vs hne hvs
    simp only [Option.some.injEq] at hv
    subst hv
    obtain ⟨xs, h1, h2⟩ := key _ hvs
    have hlen := VL_length h2
    have : xs.length ≠ 1 := by
      intro h
      match vs, hlen with
      | [v], _ => exact hne _ rfl
      | [], e => simp at e; omega
      | _ :: _ :: _, e => simp at e; omega
    refine ⟨.tuple xs.toArray, by rw [h1, dif_neg (by simpa using this)], ?_⟩
    simp only [V]
    exact ⟨_, rfl, by simpa using h2⟩
  · simp at hv
theorem body_ok (hctx : CtxOk P ctx) {f : FuncId} {fn : Func} {F : RF} {ks : Keeps} (hf : P.funcs[f]? = some fn) (hr : resolveF P fn ks = some F)
    {w : World} {hp : Hp} {L : Lf} {avs : List AV} {args : Array Value} (h : HRel RO w (root? hp) hp.length L) (hV : VL RO w (root? hp) hp.length L avs args.toList) (hn : avs.length = F.nargs)
    {e : Ex} {s : St} (he : e = .nrm ∨ e = .ret) (hs : run ctx hp.length F.body ⟨params 0 avs, hp⟩ = some (e, s)) {v : AV} (hv : result F s = some v) :
    Calls P f args w (fun e w' => ∃ x L' N a, e = .returned x ∧ Inv RO w (root? hp) hp.length L N s a w' L' ∧ V RO w' (root? s.hp) s.hp.length L' v x) := by
  unfold resolveF at hr
  split at hr
  · simp at hr
  · rename_i c hc
    split at hr
    · rename_i hcond
      obtain ⟨hname, hsz⟩ := hcond
      split at hr
      · rename_i b rs hb hrs
        simp only [Option.some.injEq] at hr
        subst hr
        refine calls_of_wp hf hc ?_
        have hlen := VL_length hV
        simp only [Array.length_toList] at hlen
        have hi : Inv RO w (root? hp) hp.length L fn.ntmps ⟨params 0 avs, hp⟩ { tmps := args ++ Array.replicate (fn.ntmps - args.size) undef, defers := [] } w L := by
          refine ⟨h, Pres.refl _ _ _, Same.refl _ _, Nat.le_refl _, rfl, rfl, rfl, EV_params hV _, ?_, rfl⟩
          simp at hn ⊢
          omega
        refine run_sound hctx c hb hi hs (fun a' w' L' hi' => ?_)
        obtain ⟨x, h1, h2⟩ := result_ok (fn := fn) hi' hrs hv
        rcases he with rfl | rfl
        · exact ⟨hi'.defers, x, h1, x, L', _, a', rfl, hi', h2⟩
        · exact ⟨hi'.defers, x, h1, x, L', _, a', rfl, hi', h2⟩
      · simp at hr
    · simp at hr
theorem enters_of {f : FuncId} {fn : Func} {F : RF} {ks : Keeps} (hf : P.funcs[f]? = some fn) (hr : resolveF P fn ks = some F) : Enters P f := by
  unfold resolveF at hr
  split at hr
  · simp at hr
  · rename_i c hc
    split at hr
    · rename_i hcond
      exact ⟨fn, hf, by simp [hc], hcond.1⟩
    · simp at hr
theorem runF_ok (hctx : CtxOk P ctx) {f : FuncId} {fn : Func} {F : RF} {ks : Keeps} (hf : P.funcs[f]? = some fn) (hr : resolveF P fn ks = some F) : InlOk P f (runF ctx F) := by
  refine ⟨enters_of hf hr, ?_⟩
  intro RO w hp L avs args v hp' h hV hrun
  unfold runF at hrun
  have key : ∀ e s, (e = .nrm ∨ e = .ret) → (if avs.length = F.nargs then run ctx hp.length F.body ⟨params 0 avs, hp⟩ else none) = some (e, s) → (match result F s with
    | some v => (match gcV hp.length [v] s.hp with | ([v'], hp') => some (v', hp') | _ => none)
    | none => none) = some (v, hp') → Calls P f args w (fun e w' => ∃ x L', e = .returned x ∧ Adv RO w (root? hp) hp.length L w' (root? hp') hp'.length L' ∧ V RO w' (root? hp') hp'.length L' v x) := by
    intro e s he hs hres
    split at hs
    · rename_i hn
      split at hres
      · rename_i v0 hv0
        split at hres
        · rename_i v1 hp1 hgc
          simp only [Option.some.injEq, Prod.mk.injEq] at hres
          obtain ⟨rfl, rfl⟩ := hres
          refine Calls.mono (body_ok hctx hf hr h hV hn he hs hv0) ?_
          rintro e w' ⟨x, L', N, a, rfl, hi, hVx⟩
          obtain ⟨L2, h1, h2, h3⟩ := gcV_rel hi.rel hi.pres.le hi.pres [v0]
          have h4 := h3 [x] (by simp only [VL]; exact ⟨hVx, trivial⟩)
          rw [hgc] at h1 h2 h4
          simp only [VL] at h4
          exact ⟨x, L2, rfl, ⟨h1, h2, hi.same, hi.size, hi.os, hi.tape, hi.output⟩, h4.1⟩
        · simp at hres
      · simp at hres
    · simp at hs
  split at hrun
  · rename_i s hs
    exact key _ s (.inl rfl) hs hrun
  · rename_i s hs
    exact key _ s (.inr rfl) hs hrun
  · simp at hrun
end
end Go.Proofs.Ytldmpjoddghdkaa.AI
