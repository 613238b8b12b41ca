import Derived.Test.YtldmpjoddghdkaaAMapo2
namespace Go.Proofs.Ytldmpjoddghdkaa.AI
set_option linter.all false
open Go.RowKit
set_option autoImplicit false
set_option linter.all false
variable [Tabs]
section
variable {P : Program} {RO : Bx} {ctx : Ctx}
theorem runR_append {ctx : Ctx} : ∀ (x y : List ROp) (s : St), runR ctx (x ++ y) s = match runR ctx x s with | some s' => runR ctx y s' | none => none
  | [], y, s => rfl
  | o :: x, y, s => by
    simp only [List.cons_append, runR]
    cases runO ctx o s with
    | none => rfl
    | some s1 => exact runR_append x y s1
theorem runRM_sound (hctx : CtxOk P ctx) {w0 : World} {R0 : Rf} {base : Nat} {L0 : Lf} {N : Nat} {T : List Nat} {G : Nat} {ops : Array Oper} {Q : Exit → Act → World → Prop} : ∀ (l : List Nat) (rss : List (List ROp)) {D : Nat → Prop} {b : Nat} {s s' : St} {a : Act} {w : World} {L : Lf}, l.length = rss.length →
    (∀ (k i : Nat) (r : List ROp), l[k]? = some i → rss[k]? = some r → ∃ o, ops[i]? = some o ∧ resolveOM P N T G ops o = some r) → InvM RO w0 R0 base L0 N T G D b s a w L → runR (ctxM ctx) rss.flatten s = some s' → (∀ D' b' a' w' L', InvM RO w0 R0 base L0 N T G D' b' s' a' w' L' → Q .normal a' w') → wpOps P ops Q l a w
  | [], [], D, b, s, s', a, w, L, _, _, hi, hs, hQ => by
    simp only [List.flatten_nil, runR, Option.some.injEq] at hs
    subst hs
    simpa only [wpOps] using hQ D b a w L hi
  | i :: l, r :: rss, D, b, s, s', a, w, L, hl, hr, hi, hs, hQ => by
    rw [List.flatten_cons, runR_append] at hs
    split at hs
    · rename_i s1 hs1
      rw [wpOps_cons]
      obtain ⟨o, h1, h2⟩ := hr 0 i r (by simp) (by simp)
      refine opM_sound hctx hi h1 h2 hs1 (fun D' b' a' w' L' hi' => ?_)
      exact runRM_sound hctx l rss (by simpa using hl) (fun k i r hk hr' => hr (k + 1) i r (by simpa using hk) (by simpa using hr')) hi' hs hQ
    · simp at hs
  | [], _ :: _, _, _, _, _, _, _, _, hl, _, _, _, _ => by simp at hl
  | _ :: _, [], _, _, _, _, _, _, _, hl, _, _, _, _ => by simp at hl
theorem resolveLM_get {N : Nat} {T : List Nat} {G : Nat} {ops : Array Oper} : ∀ {os : List Oper} {rs : List (List ROp)}, resolveLM P N T G ops os = some rs → os.length = rs.length ∧ ∀ (k : Nat) o, os[k]? = some o → ∃ r, rs[k]? = some r ∧ resolveOM P N T G ops o = some r
  | [], rs, h => by simp only [resolveLM, Option.some.injEq] at h; subst h; simp
  | o :: os, rs, h => by
    simp only [resolveLM] at h
    split at h
    · rename_i r rs' h1 h2
      simp only [Option.some.injEq] at h
      subst h
      obtain ⟨h3, h4⟩ := resolveLM_get h2
      refine ⟨by simp [h3], fun k o' hk => ?_⟩
      cases k with
      | zero => simp at hk; subst hk; exact ⟨r, by simp, h1⟩
      | succ k =>
        obtain ⟨r', h5, h6⟩ := h4 k o' (by simpa using hk)
        exact ⟨r', by simpa using h5, h6⟩
    · simp at h
inductive DifK (T : List Nat) (tm : List (Nat × AV)) : List Nat → List AV → List AV → Prop
  | nil : DifK T tm [] [] []
  | off {t : Nat} {v : AV} {ks : List Nat} {vs vs' : List AV} : has T t = false → DifK T tm ks vs vs' → DifK T tm (t :: ks) (v :: vs) (v :: vs')
  | on {t : Nat} {ks : List Nat} {vs vs' : List AV} : has T t = true → flatV (lk tm t) = true → DifK T tm ks vs vs' → DifK T tm (t :: ks) (lk tm t :: vs) (.dead :: vs')
theorem nn_flat {v : AV} (h : flatV v = true) (hp : Hp) : nn v hp = (v, hp) := by cases v <;> simp [flatV] at h <;> rfl
theorem ren_flat {v : AV} (h : flatV v = true) (hp : Hp) (base : Nat) (fd : List Nat) : ren hp base fd v = v := by cases v <;> simp [flatV] at h <;> rfl
theorem roots_flat {v : AV} (h : flatV v = true) : roots v = [] := by cases v <;> simp [flatV] at h <;> rfl
theorem DifK.nnL {T : List Nat} {tm : List (Nat × AV)} {ks : List Nat} {vs vs' : List AV} (h : DifK T tm ks vs vs') : ∀ hp, (Go.Proofs.Ytldmpjoddghdkaa.AI.nnL vs hp).2 = (Go.Proofs.Ytldmpjoddghdkaa.AI.nnL vs' hp).2 ∧ DifK T tm ks (Go.Proofs.Ytldmpjoddghdkaa.AI.nnL vs hp).1 (Go.Proofs.Ytldmpjoddghdkaa.AI.nnL vs' hp).1 := by
  induction h with
  | nil => intro hp; exact ⟨rfl, .nil⟩
  | off ht _ ih =>
    intro hp
    simp only [Go.Proofs.Ytldmpjoddghdkaa.AI.nnL]
    obtain ⟨h1, h2⟩ := ih (nn _ hp).2
    exact ⟨h1, .off ht h2⟩
  | on ht hf _ ih =>
    intro hp
    simp only [Go.Proofs.Ytldmpjoddghdkaa.AI.nnL, nn_flat hf, nn_flat (v := .dead) rfl]
    obtain ⟨h1, h2⟩ := ih hp
    exact ⟨h1, .on ht hf h2⟩
theorem DifK.roots {T : List Nat} {tm : List (Nat × AV)} {ks : List Nat} {vs vs' : List AV} (h : DifK T tm ks vs vs') : rootsL vs = rootsL vs' := by
  induction h with
  | nil => rfl
  | off ht _ ih => simp only [rootsL, ih]
  | on ht hf _ ih => simp only [rootsL, ih, roots_flat hf, roots_flat (v := .dead) rfl]
theorem DifK.ren {T : List Nat} {tm : List (Nat × AV)} {ks : List Nat} {vs vs' : List AV} (h : DifK T tm ks vs vs') (hp : Hp) (base : Nat) (fd : List Nat) : DifK T tm ks (renL hp base fd vs) (renL hp base fd vs') := by
  induction h with
  | nil => exact .nil
  | off ht _ ih => simp only [renL]; exact .off ht ih
  | on ht hf _ ih => simp only [renL, ren_flat hf, ren_flat (v := .dead) rfl]; exact .on ht hf ih
theorem DifK.gcV {T : List Nat} {tm : List (Nat × AV)} {ks : List Nat} {vs vs' : List AV} (h : DifK T tm ks vs vs') (base : Nat) (hp : Hp) : (Go.Proofs.Ytldmpjoddghdkaa.AI.gcV base vs hp).2 = (Go.Proofs.Ytldmpjoddghdkaa.AI.gcV base vs' hp).2 ∧ DifK T tm ks (Go.Proofs.Ytldmpjoddghdkaa.AI.gcV base vs hp).1 (Go.Proofs.Ytldmpjoddghdkaa.AI.gcV base vs' hp).1 := by
  obtain ⟨h1, h2⟩ := h.nnL hp
  simp only [Go.Proofs.Ytldmpjoddghdkaa.AI.gcV, h1, h2.roots]
  exact ⟨trivial, h2.ren _ _ _⟩
theorem DifK.of {T : List Nat} {tm : List (Nat × AV)} (hf : ∀ t, has T t = true → flatV (lk tm t) = true) : ∀ ks : List Nat, DifK T tm ks (ks.map (lk tm)) (ks.map (lk (erT T tm)))
  | [] => .nil
  | t :: ks => by
    simp only [List.map_cons, lk_er]
    by_cases h : has T t = true
    · simp only [h, if_true]; exact .on h (hf t h) (by have := DifK.of hf ks; simpa only [lk_er] using this)
    · simp only [h]; exact .off (by simpa using h) (by have := DifK.of hf ks; simpa only [lk_er] using this)
theorem DifK.lk {T : List Nat} {tm : List (Nat × AV)} {ks : List Nat} {vs vs' : List AV} (h : DifK T tm ks vs vs') (t : Nat) : (has T t = true → Go.Proofs.Ytldmpjoddghdkaa.AI.lk (zipT ks vs) t = Go.Proofs.Ytldmpjoddghdkaa.AI.lk tm t ∨ Go.Proofs.Ytldmpjoddghdkaa.AI.lk (zipT ks vs) t = .dead) ∧ Go.Proofs.Ytldmpjoddghdkaa.AI.lk (erT T (zipT ks vs)) t = Go.Proofs.Ytldmpjoddghdkaa.AI.lk (zipT ks vs') t := by
  have key : (has T t = true → (Go.Proofs.Ytldmpjoddghdkaa.AI.lk (zipT ks vs) t = Go.Proofs.Ytldmpjoddghdkaa.AI.lk tm t ∨ Go.Proofs.Ytldmpjoddghdkaa.AI.lk (zipT ks vs) t = .dead) ∧ Go.Proofs.Ytldmpjoddghdkaa.AI.lk (zipT ks vs') t = .dead) ∧ (has T t = false → Go.Proofs.Ytldmpjoddghdkaa.AI.lk (zipT ks vs) t = Go.Proofs.Ytldmpjoddghdkaa.AI.lk (zipT ks vs') t) := by
    induction h with
    | nil => exact ⟨fun _ => ⟨.inr rfl, rfl⟩, fun _ => rfl⟩
    | @off t' v ks vs vs' ht _ ih =>
      simp only [zipT, Go.Proofs.Ytldmpjoddghdkaa.AI.lk]
      refine ⟨fun h => ?_, fun h => ?_⟩
      · have : t' ≠ t := fun e => by rw [e, h] at ht; simp at ht
        simp only [this, if_false]; exact ih.1 h
      · split
        · rfl
        · exact ih.2 h
    | @on t' ks vs vs' ht hf _ ih =>
      simp only [zipT, Go.Proofs.Ytldmpjoddghdkaa.AI.lk]
      refine ⟨fun h => ?_, fun h => ?_⟩
      · split
        · rename_i e; subst e; exact ⟨.inl rfl, rfl⟩
        · exact ih.1 h
      · have : t' ≠ t := fun e => by rw [e, h] at ht; simp at ht
        simp only [this, if_false]; exact ih.2 h
  refine ⟨fun h => (key.1 h).1, ?_⟩
  rw [lk_er]
  split
  · rename_i h; exact (key.1 h).2.symm
  · rename_i h; exact key.2 (by simpa using h)
theorem InvM.gc {w0 : World} {R0 : Rf} {base : Nat} {L0 : Lf} {N : Nat} {T : List Nat} {G : Nat} {D : Nat → Prop} {b : Nat} {s : St} {a : Act} {w : World} {L : Lf} (hi : InvM RO w0 R0 base L0 N T G D b s a w L) (keep : List Nat) : ∃ L', InvM RO w0 R0 base L0 N T G D b (gc base keep s) a w L' := by
  obtain ⟨L', h⟩ := hi.inv.gc keep
  have hd := (DifK.of hi.fl keep).gcV base s.hp
  have hhp : (er T (Go.Proofs.Ytldmpjoddghdkaa.AI.gc base keep s)).hp = (Go.Proofs.Ytldmpjoddghdkaa.AI.gc base keep (er T s)).hp := hd.1
  have hlk : ∀ t, lk (er T (Go.Proofs.Ytldmpjoddghdkaa.AI.gc base keep s)).tm t = lk (Go.Proofs.Ytldmpjoddghdkaa.AI.gc base keep (er T s)).tm t := fun t => (hd.2.lk t).2
  have hT : ∀ t, has T t = true → lk (Go.Proofs.Ytldmpjoddghdkaa.AI.gc base keep s).tm t = lk s.tm t ∨ lk (Go.Proofs.Ytldmpjoddghdkaa.AI.gc base keep s).tm t = .dead := fun t ht => (hd.2.lk t).1 ht
  refine ⟨L', ⟨?_, ?_, h.same, h.size, h.os, h.tape, h.output, fun t => ?_, h.tmps, h.defers⟩, hi.same, hi.size, hi.os, hi.tape, hi.output, hi.new, hi.ro, hi.tb, fun t ht => ?_, fun t ht hG hl => ?_, fun es' hl => ?_, hi.hG⟩
  · rw [hhp]; exact h.rel
  · rw [hhp]; exact h.pres
  · rw [hhp, hlk]; exact h.ev t
  · rcases hT t ht with e | e
    · rw [e]; exact hi.fl t ht
    · rw [e]; rfl
  · rcases hT t ht with e | e
    · rw [e] at hl; exact hi.tok t ht hG hl
    · rw [e] at hl; simp at hl
  · rcases hT G hi.hG with e | e
    · rw [e] at hl; exact hi.cont es' hl
    · rw [e] at hl; simp at hl
theorem runM_sound (hctx : CtxOk P ctx) {w0 : World} {R0 : Rf} {base : Nat} {L0 : Lf} {N : Nat} {T : List Nat} {G : Nat} : ∀ (c : Code) {ks ks' : Keeps} {rc : RC} {s s' : St} {e : Ex} {D : Nat → Prop} {b : Nat} {a : Act} {w : World} {L : Lf} {Q : Exit → Act → World → Prop},
    resolveCM P N T G c ks = some (rc, ks') → InvM RO w0 R0 base L0 N T G D b s a w L → run (ctxM ctx) base rc s = some (e, s') → (∀ D' b' a' w' L', InvM RO w0 R0 base L0 N T G D' b' s' a' w' L' → Q (exOf e) a' w') → c.wp P Q a w := by
  intro c
  induction c with
  | skip =>
    intro ks ks' rc s s' e D b a w L Q hr hi hs hQ
    simp only [resolveCM, Option.some.injEq, Prod.mk.injEq] at hr
    obtain ⟨rfl, rfl⟩ := hr
    simp only [run, Option.some.injEq, Prod.mk.injEq] at hs
    obtain ⟨rfl, rfl⟩ := hs
    exact wp_skip (hQ D b a w L hi)
  | label l =>
    intro ks ks' rc s s' e D b a w L Q hr hi hs hQ
    simp only [resolveCM, Option.some.injEq, Prod.mk.injEq] at hr
    obtain ⟨rfl, rfl⟩ := hr
    simp only [run, Option.some.injEq, Prod.mk.injEq] at hs
    obtain ⟨rfl, rfl⟩ := hs
    exact wp_label (hQ D b a w L hi)
  | region id ops draw =>
    intro ks ks' rc s s' e D b a w L Q hr hi hs hQ
    simp only [resolveCM] at hr
    split at hr
    · rename_i hd
      subst hd
      simp only [Option.map_eq_some_iff] at hr
      obtain ⟨rs, hrs, he⟩ := hr
      simp only [Prod.mk.injEq] at he
      obtain ⟨rfl, rfl⟩ := he
      simp only [run] at hs
      split at hs
      · rename_i s1 hs1
        simp only [Option.some.injEq, Prod.mk.injEq] at hs
        obtain ⟨rfl, rfl⟩ := hs
        obtain ⟨hlen, hget⟩ := resolveLM_get hrs
        refine wp_region (runRM_sound hctx (List.range ops.size) rs (by simpa using hlen) ?_ hi hs1 hQ)
        intro k i r hk hr
        have hki : k = i ∧ k < ops.size := by
          have hlt : k < (List.range ops.size).length := (List.getElem?_eq_some_iff.1 hk).1
          simp only [List.length_range] at hlt
          rw [List.getElem?_range hlt] at hk
          simp only [Option.some.injEq] at hk
          exact ⟨hk, hlt⟩
        obtain ⟨rfl, hlt⟩ := hki
        obtain ⟨r', h1, h2⟩ := hget k ops[k] (by simp [hlt])
        rw [hr] at h1
        simp only [Option.some.injEq] at h1
        subst h1
        exact ⟨ops[k], by simp [hlt], h2⟩
      · simp at hs
    · simp at hr
  | seq x y ihx ihy =>
    intro ks ks' rc s s' e D b a w L Q hr hi hs hQ
    simp only [resolveCM] at hr
    split at hr
    · rename_i x' ks1 hx
      split at hr
      · rename_i y' ks2 hy
        simp only [Option.some.injEq, Prod.mk.injEq] at hr
        obtain ⟨rfl, rfl⟩ := hr
        simp only [run] at hs
        refine wp_seq ?_
        split at hs
        · rename_i s1 hs1
          refine ihx hx hi hs1 (fun D' b' a' w' L' hi' => ?_)
          exact ihy hy hi' hs hQ
        · rename_i r hne
          refine ihx hx hi hs (fun D' b' a' w' L' hi' => ?_)
          cases e with
          | nrm => exact absurd hs (by intro h; exact hne _ h)
          | exit i => exact hQ D' b' a' w' L' hi'
          | ret => exact hQ D' b' a' w' L' hi'
      · simp at hr
    · simp at hr
  | cond t x y ihx ihy =>
    intro ks ks' rc s s' e D b a w L Q hr hi hs hQ
    simp only [resolveCM] at hr
    split at hr
    · rename_i c' x' ks1 hc hx
      split at hr
      · rename_i hfree
        split at hr
        · rename_i y' ks2 hy
          simp only [Option.some.injEq, Prod.mk.injEq] at hr
          obtain ⟨rfl, rfl⟩ := hr
          simp only [run] at hs
          split at hs
          · rename_i t ht
            have hV := ev_back hi.inv.ev hc hfree
            rw [ht] at hV
            have hv := V_bool hV
            refine wp_cond hv ?_
            cases t
            · simp only [Bool.false_eq_true, if_false] at hs ⊢
              exact ihy hy hi hs hQ
            · simp only [if_true] at hs ⊢
              exact ihx hx hi hs hQ
          · simp at hs
        · simp at hr
      · simp at hr
    · simp at hr
  | block id x ih =>
    intro ks ks' rc s s' e D b a w L Q hr hi hs hQ
    simp only [resolveCM, Option.map_eq_some_iff] at hr
    obtain ⟨⟨x', ks1⟩, hx, he⟩ := hr
    simp only [Prod.mk.injEq] at he
    obtain ⟨rfl, rfl⟩ := he
    simp only [run] at hs
    refine wp_block ?_
    split at hs
    · rename_i i s1 hs1
      refine ih hx hi hs1 (fun D' b' a' w' L' hi' => ?_)
      simp only [exOf, Exit.inBlock]
      split at hs
      · rename_i h
        simp only [Option.some.injEq, Prod.mk.injEq] at hs
        obtain ⟨rfl, rfl⟩ := hs
        rw [if_pos h]
        exact hQ D' b' a' w' L' hi'
      · rename_i h
        simp only [Option.some.injEq, Prod.mk.injEq] at hs
        obtain ⟨rfl, rfl⟩ := hs
        rw [if_neg h]
        exact hQ D' b' a' w' L' hi'
    · rename_i r hne
      refine ih hx hi hs (fun D' b' a' w' L' hi' => ?_)
      cases e with
      | nrm => exact hQ D' b' a' w' L' hi'
      | exit i => exact absurd hs (by intro h; exact hne _ _ h)
      | ret => exact hQ D' b' a' w' L' hi'
  | loop x ih =>
    intro ks ks' rc s s' e D b a w L Q hr hi hs hQ
    simp only [resolveCM] at hr
    split at hr
    · simp at hr
    · rename_i k ks1
      simp only [Option.map_eq_some_iff] at hr
      obtain ⟨⟨x', ks2⟩, hx, he⟩ := hr
      simp only [Prod.mk.injEq] at he
      obtain ⟨rfl, rfl⟩ := he
      simp only [run] at hs
      split at hs
      · rename_i e1 s1 hs1
        simp only [Option.some.injEq, Prod.mk.injEq] at hs
        obtain ⟨rfl, rfl⟩ := hs
        unfold iterW at hs1
        split at hs1
        · rename_i hex
          generalize hex.choose = n at hs1
          clear hex
          refine wp_loop_rounds n ?_
          induction n generalizing s D b a w L with
          | zero => simp [iterN] at hs1
          | succ n ihn =>
            simp only [iterN] at hs1
            rw [rounds_succ]
            obtain ⟨L1, hi1⟩ := hi.gc k.1
            split at hs1
            · rename_i s2 hs2
              refine ih hx hi1 hs2 (fun D' b' a' w' L' hi' => ?_)
              exact ihn hi' hs1
            · rename_i r hne
              refine ih hx hi1 hs1 (fun D' b' a' w' L' hi' => ?_)
              obtain ⟨L2, hi2⟩ := hi'.gc (kOf k.2 (exN e1))
              have := hQ D' b' a' w' L2 hi2
              cases e1 with
              | nrm => exact absurd hs1 (by intro h; exact hne _ h)
              | exit i => exact this
              | ret => exact this
        · simp at hs1
      · simp at hs
  | exit id =>
    intro ks ks' rc s s' e D b a w L Q hr hi hs hQ
    simp only [resolveCM, Option.some.injEq, Prod.mk.injEq] at hr
    obtain ⟨rfl, rfl⟩ := hr
    simp only [run, Option.some.injEq, Prod.mk.injEq] at hs
    obtain ⟨rfl, rfl⟩ := hs
    exact wp_exit (hQ D b a w L hi)
  | ret =>
    intro ks ks' rc s s' e D b a w L Q hr hi hs hQ
    simp only [resolveCM, Option.some.injEq, Prod.mk.injEq] at hr
    obtain ⟨rfl, rfl⟩ := hr
    simp only [run, Option.some.injEq, Prod.mk.injEq] at hs
    obtain ⟨rfl, rfl⟩ := hs
    exact wp_ret (hQ D b a w L hi)
  | _ =>
    intro ks ks' rc s s' e D b a w L Q hr hi hs hQ
    simp [resolveCM] at hr
theorem EV.er {w : World} {R : Rf} {nx : Nat} {L : Lf} {T : List Nat} {tm : List (Nat × AV)} {a : Act} (h : EV RO w R nx L tm a) : EV RO w R nx L (erT T tm) a := by
  intro t
  rw [lk_er]
  split
  · simp [V]
  · exact h t
theorem mapO_congr {α β : Type} {f g : α → Option β} : ∀ (l : List α), (∀ x ∈ l, f x = g x) → mapO f l = mapO g l
  | [], _ => rfl
  | x :: xs, h => by
    simp only [mapO, h x (by simp), mapO_congr xs fun y hy => h y (by simp [hy])]
theorem result_er {F : RF} {T : List Nat} {s : St} (h : F.res.all (resFree T) = true) : result F (er T s) = result F s := by
  have : mapO (resV (er T s)) F.res = mapO (resV s) F.res := by
    refine mapO_congr _ fun q hq => ?_
    have hq := List.all_eq_true.1 h q hq
    cases q with
    | t n =>
      have : has T n = false := by simpa [resFree] using hq
      simp only [resV, Go.Proofs.Ytldmpjoddghdkaa.AI.er, lk_er, this]; simp
    | cell a n g =>
      simp only [resV, Go.Proofs.Ytldmpjoddghdkaa.AI.er, step, ev_er (show freeT T (.t a) = true from by simpa [freeT, resFree] using hq)]
  unfold result
  rw [this]
theorem inv_FM {fn : Func} {ks : Keeps} {T : List Nat} {G : Nat} {F : RF} (hr : resolveFM P fn ks T G = some F) : ∃ c, fn.body = some c ∧ (fn.name == "runtime.NumGoroutine") = false ∧ fn.params.size + fn.nfree ≤ fn.ntmps ∧ (T.all (fun t => decide (fn.params.size + fn.nfree ≤ t)) = true) ∧ has T G = true ∧
    F.res.all (resFree T) = true ∧ F.nargs = fn.params.size + fn.nfree ∧ resolveCM P fn.ntmps T G c ks = some (F.body, []) ∧ mapO (resolveRV P) fn.results.toList = some F.res := by
  unfold resolveFM at hr
  split at hr
  · simp at hr
  · rename_i c hc
    split at hr
    · rename_i hcond
      split at hr
      · rename_i b rs hb hrs
        split at hr
        · rename_i hfree
          simp only [Option.some.injEq] at hr
          subst hr
          exact ⟨c, hc, hcond.1, hcond.2.1, hcond.2.2.1, hcond.2.2.2, hfree, rfl, hb, hrs⟩
        · simp at hr
      · simp at hr
    · simp at hr
theorem enters_ofM {f : FuncId} {fn : Func} {F : RF} {ks : Keeps} {T : List Nat} {G : Nat} (hf : P.funcs[f]? = some fn) (hr : resolveFM P fn ks T G = some F) : Enters P f := by
  obtain ⟨c, h1, h2, _⟩ := inv_FM hr
  exact ⟨fn, hf, by simp [h1], h2⟩
theorem body_okM (hctx : CtxOk P ctx) {f : FuncId} {fn : Func} {F : RF} {ks : Keeps} {T : List Nat} {G : Nat} (hf : P.funcs[f]? = some fn) (hr : resolveFM P fn ks T G = some F)
    {w : World} {hp : Hp} {L : Lf} {avs : List AV} {args : Array Value} (h : HRel RO w (root? hp) hp.length L) (hV : VL RO w (root? hp) hp.length L avs args.toList) (hn : avs.length = F.nargs)
    {e : Ex} {s : St} (he : e = .nrm ∨ e = .ret) (hs : run (ctxM ctx) hp.length F.body ⟨params 0 avs, hp⟩ = some (e, s)) {v : AV} (hv : result F s = some v) :
    Calls P f args w (fun e w' => ∃ x L' N a, e = .returned x ∧ Inv RO w (root? hp) hp.length L N (er T s) a w' L' ∧ V RO w' (root? s.hp) s.hp.length L' v x) := by
  obtain ⟨c, hc, hname, hsz, hT, hG, hfree, hnar, hb, hrs⟩ := inv_FM hr
  refine calls_of_wp hf hc ?_
  have hlen := VL_length hV
  simp only [Array.length_toList] at hlen
  have hev := EV_params hV (fn.ntmps - args.size)
  have hdead : ∀ t, has T t = true → lk (params 0 avs) t = .dead := by
    intro t ht
    have h1 := List.all_eq_true.1 hT t (has_mem.1 ht)
    simp only [decide_eq_true_eq] at h1
    rw [lk_params]
    simp only [Nat.zero_le, if_true, Nat.sub_zero]
    rw [List.getD_eq_getElem?_getD, List.getElem?_eq_none (by omega)]
    rfl
  have htb : ∀ B, Tabs.at_ B → RO.pr B := fun B hB => (h.tb B hB).1
  have hi : InvM RO w (root? hp) hp.length L fn.ntmps T G (fun _ => False) 0 ⟨params 0 avs, hp⟩ { tmps := args ++ Array.replicate (fn.ntmps - args.size) undef, defers := [] } w L := by
    refine ⟨⟨h.less (RO := RO.plus fun _ => False) (fun B hB => hB) (fun B hB => by rcases hB with hB | hB; exact hB; exact hB.elim) (fun B hB => .inl (htb B hB)), Pres.refl _ _ _, Same.refl _ _, Nat.le_refl _, rfl, rfl, rfl, ?_, ?_, rfl⟩,
      Same.refl _ _, Nat.le_refl _, rfl, rfl, rfl, fun B hB => hB.elim, fun B hB => h.ro B hB, htb, fun t ht => by rw [hdead t ht]; rfl, fun t ht _ hl => by rw [hdead t ht] at hl; simp at hl, fun es' hl => by rw [hdead G hG] at hl; simp at hl, hG⟩
    · intro t
      exact V_more (RO := RO) (RO' := RO.plus _) (fun B hB => hB) _ _ (EV.er hev t)
    · simp at hn ⊢
      omega
  refine runM_sound hctx c hb hi hs (fun D' b' a' w' L' hi' => ?_)
  have hi2 := hi'.out
  rw [← result_er hfree (s := s)] at hv
  obtain ⟨x, h1, h2⟩ := result_ok (fn := fn) hi2 hrs hv
  rcases he with rfl | rfl
  · exact ⟨hi2.defers, x, h1, x, L', _, a', rfl, hi2, h2⟩
  · exact ⟨hi2.defers, x, h1, x, L', _, a', rfl, hi2, h2⟩
def G_mapMk : CK := .inl mkG
def G_mapPut : CK := .inl putG
def G_mapGet : CK := .inl getG
theorem cl_mapMk (args : List AV) (hp : Hp) : callS G_mapMk args hp = mkG args hp := rfl
theorem cl_mapPut (args : List AV) (hp : Hp) : callS G_mapPut args hp = putG args hp := rfl
theorem cl_mapGet (args : List AV) (hp : Hp) : callS G_mapGet args hp = getG args hp := rfl
theorem byv_noneM (hctx : CtxOk P ctx) {f : FuncId} {fn : Func} {F : RF} {ks : Keeps} {T : List Nat} {G : Nat} (hf : P.funcs[f]? = some fn) (hr : resolveFM P fn ks T G = some F)
    {B : ByV} (hmt : B.mt = none) (hro : B.ro = false) (hsem : ∀ args r, B.sem args = some r → semF (ctxM ctx) F none false args = some r) : InlOk P f (callS (.byv B)) := by
  refine ⟨enters_ofM hf hr, ?_⟩
  intro RO w hp L avs args v hp' h hV hcall
  simp only [callS, hmt] at hcall
  split at hcall
  · simp at hcall
  · rename_i ps hps
    split at hcall
    · simp at hcall
    · rename_i v1 l1 hs1
      have hs2 := hsem _ _ hs1
      unfold semF at hs2
      split at hs2
      · simp at hs2
      · rename_i hn
        have hn' : ps.length = F.nargs := by omega
        have frame : ∀ (rd : Nat → Prop) (hsub : ∀ B, rd B → B < w.heap.size) (w' : World), Same ⟨rd, (· < w.heap.size), hsub⟩ w w' → w.heap.size ≤ w'.heap.size → HRel RO w' (root? hp) hp.length L ∧ Same RO w w' := by
          intro rd hsub w' hsame hsz
          have hs : Same RO w w' := fun B hB => hsame B (h.ro B hB)
          refine ⟨h.world hs hsz ?_, hs⟩
          intro r p x b o T hrow hL i hi
          obtain ⟨bx, k, es⟩ := x
          have hm := ((h.rows _ _ _ _ _ hrow).yes _ _ _ hL).2.1
          exact ⟨cell_of (hsame b hm.lt), frozen_of (hsame b hm.lt)⟩
        have key : ∀ e s, (e = .nrm ∨ e = .ret) → run (ctxM ctx) 0 F.body ⟨params 0 ps, []⟩ = some (e, s) → (match result F s with
            | some v => (hand v s.hp).map fun x => (x.1, ([] : List (List AV)))
            | none => none) = some (v1, l1) → Calls P f args w (fun e w' => ∃ x L', e = .returned x ∧ Adv RO w (root? hp) hp.length L w' (root? hp') hp'.length L' ∧ V RO w' (root? hp') hp'.length L' v x) := by
          intro e s he hrun hres
          split at hres
          · rename_i v0 hv0
            simp only [hro, Bool.false_eq_true, if_false] at hcall
            simp only [Option.some.injEq, Prod.ext_iff] at hcall
            obtain ⟨rfl, rfl⟩ := hcall
            simp only [Option.map_eq_some_iff, Prod.mk.injEq] at hres
            obtain ⟨⟨v2, hc'⟩, hh, rfl, _⟩ := hres
            let RO' : Bx := ⟨(· < w.heap.size), (· < w.heap.size), fun B hB => hB⟩
            have hVps : VL RO' w (root? []) ([] : Hp).length (fun _ _ => none) ps args.toList :=
              mapO_V avs ps _ (fun v p x hv hp1 hx1 => packR_V h (fun B hB => h.ro B (RO.sub B hB)) 5 v p x (.inr fun B hB => hB) hp1 hx1) hps hV
            refine Calls.mono (body_okM hctx hf hr (HRel.void (RO := RO') (fun B hB => hB) (fun B hB => ⟨h.ro B (h.tb B hB).1, (h.tb B hB).2⟩)) hVps hn' he hrun hv0) ?_
            rintro e w' ⟨x, L', N, a, rfl, hi, hVx⟩
            obtain ⟨h1, h2⟩ := frame _ (fun B hB => hB) w' hi.same hi.size
            have hap : Apart (root? hp) L (root? s.hp) L' := by
              intro r p x b o T r' p' x' o' T' h3 h4 h5 h6
              obtain ⟨bx, k, es⟩ := x
              obtain ⟨bx', k', es'⟩ := x'
              have hm := ((h.rows _ _ _ _ _ h3).yes _ _ _ h4).2.1
              have hm' := ((hi.rel.rows _ _ _ _ _ h5).yes _ _ _ h6).1
              exact hm' hm.lt
            obtain ⟨L2, h3, h4⟩ := hand_ok (RO := RO) (RO' := RO') (fun B hB => h.ro B hB) v0 hi.rel h1 hap hVx hh
            exact ⟨x, L2, rfl, ⟨h3.rel, h3.pres, h2, hi.size, hi.os, hi.tape, hi.output⟩, h4⟩
          · simp at hres
        simp only [Bool.false_eq_true, if_false] at hs2
        split at hs2
        · rename_i s hrun
          exact key _ s (.inl rfl) hrun hs2
        · rename_i s hrun
          exact key _ s (.inr rfl) hrun hs2
        · simp at hs2
end
end Go.Proofs.Ytldmpjoddghdkaa.AI
