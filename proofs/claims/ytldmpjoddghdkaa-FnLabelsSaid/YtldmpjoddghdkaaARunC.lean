import Derived.Test.YtldmpjoddghdkaaADraw7
import Derived.LoopN
namespace Go.Proofs.Ytldmpjoddghdkaa.AI
set_option linter.all false
open Go.RowKit
set_option autoImplicit false
set_option linter.unusedVariables false
set_option linter.unusedSimpArgs false
variable [Tabs]
def exOf : Ex → Exit
  | .nrm => .normal
  | .exit i => .exit i
  | .ret => .ret
section
variable {P : Program} {RO : Bx} {ctx : Ctx}
theorem zipT_lk {w : World} {R : Rf} {nx : Nat} {L : Lf} {a : Act} : ∀ (ks : List Nat) (vs : List AV), VL RO w R nx L vs (ks.map fun t => a.tmps.getD t undef) → EV RO w R nx L (zipT ks vs) a
  | [], _, _ => fun t => by simp [zipT, lk, V]
  | k :: ks, [], h => by simp [VL] at h
  | k :: ks, v :: vs, h => by
    simp only [List.map_cons, VL] at h
    intro t
    simp only [zipT, lk]
    by_cases e : k = t
    · rw [if_pos e, ← e]; exact h.1
    · rw [if_neg e]; exact zipT_lk ks vs h.2 t
theorem VL_map {w : World} {R : Rf} {nx : Nat} {L : Lf} {tm : List (Nat × AV)} {a : Act} (h : EV RO w R nx L tm a) : ∀ (ks : List Nat), VL RO w R nx L (ks.map (lk tm)) (ks.map fun t => a.tmps.getD t undef)
  | [] => by simp [VL]
  | k :: ks => by
    simp only [List.map_cons, VL]
    exact ⟨h k, VL_map h ks⟩
theorem Inv.gc {w0 : World} {R0 : Rf} {base : Nat} {L0 : Lf} {N : Nat} {s : St} {a : Act} {w : World} {L : Lf} (hi : Inv RO w0 R0 base L0 N s a w L) (keep : List Nat) : ∃ L', Inv RO w0 R0 base L0 N (gc base keep s) a w L' := by
  obtain ⟨L', h1, h2, h3⟩ := gcV_rel hi.rel hi.pres.le hi.pres (keep.map (lk s.tm))
  refine ⟨L', h1, h2, hi.same, hi.size, hi.os, hi.tape, hi.output, ?_, hi.tmps, hi.defers⟩
  exact zipT_lk keep _ (h3 _ (VL_map hi.ev keep))
theorem range_eq (n : Nat) : List.range n = List.range' 0 n := List.range_eq_range'
theorem run_sound (hctx : CtxOk P ctx) {w0 : World} {R0 : Rf} {base : Nat} {L0 : Lf} {N : Nat} : ∀ (c : Code) {ks ks' : Keeps} {rc : RC} {s s' : St} {e : Ex} {a : Act} {w : World} {L : Lf} {Q : Exit → Act → World → Prop},
    resolveC P N c ks = some (rc, ks') → Inv RO w0 R0 base L0 N s a w L → run ctx base rc s = some (e, s') → (∀ a' w' L', Inv RO w0 R0 base L0 N s' a' w' L' → Q (exOf e) a' w') → c.wp P Q a w := by
  intro c
  induction c with
  | skip =>
    intro ks ks' rc s s' e a w L Q hr hi hs hQ
    simp only [resolveC, Option.some.injEq, Prod.mk.injEq] at hr
    obtain ⟨rfl, rfl⟩ := hr
    simp only [run, Option.some.injEq, Prod.mk.injEq] at hs
    obtain ⟨rfl, rfl⟩ := hs
    exact wp_skip (hQ a w L hi)
  | label l =>
    intro ks ks' rc s s' e a w L Q hr hi hs hQ
    simp only [resolveC, Option.some.injEq, Prod.mk.injEq] at hr
    obtain ⟨rfl, rfl⟩ := hr
    simp only [run, Option.some.injEq, Prod.mk.injEq] at hs
    obtain ⟨rfl, rfl⟩ := hs
    exact wp_label (hQ a w L hi)
  | region id ops draw =>
    intro ks ks' rc s s' e a w L Q hr hi hs hQ
    simp only [resolveC] at hr
    split at hr
    · simp at hr
    · rename_i rs hrs
      split at hr
      · rename_i hd
        simp only [Option.some.injEq, Prod.mk.injEq] at hr
        obtain ⟨rfl, rfl⟩ := hr
        subst hd
        simp only [run] at hs
        split at hs
        · rename_i s1 hs1
          simp only [Option.some.injEq, Prod.mk.injEq] at hs
          obtain ⟨rfl, rfl⟩ := hs
          obtain ⟨hlen, hget⟩ := resolveL_get hrs
          refine wp_region (runR_sound hctx (List.range ops.size) rs (by simpa using hlen) ?_ hi hs1 hQ)
          intro k i r hk hr
          have hki : k = i ∧ k < ops.size := by
            have hlt : k < (List.range ops.size).length := (List.getElem?_eq_some_iff.1 hk).1
            simp only [List.length_range] at hlt
            rw [List.getElem?_range hlt] at hk
            simp only [Option.some.injEq] at hk
            exact ⟨hk, hlt⟩
          obtain ⟨rfl, hlt⟩ := hki
          obtain ⟨r', h1, h2⟩ := hget k ops[k] (by simp [hlt])
          rw [hr] at h1
          simp only [Option.some.injEq] at h1
          subst h1
          exact ⟨ops[k], by simp [hlt], h2⟩
        · simp at hs
      · rename_i hd
        split at hr
        · rename_i hcond
          simp only [Bool.and_eq_true] at hcond
          obtain ⟨⟨⟨h1, h2⟩, h3⟩, h4⟩ := hcond
          simp only [Option.some.injEq, Prod.mk.injEq] at hr
          obtain ⟨rfl, rfl⟩ := hr
          have hd' : draw = true := by simpa using hd
          subst hd'
          simp only [run] at hs
          split at hs
          · rename_i s1 ms hs1
            simp only [Option.some.injEq, Prod.mk.injEq] at hs
            obtain ⟨rfl, rfl⟩ := hs
            exact runRD_sound hctx hrs h1 h2 h3 h4 hi hs1 hQ
          · simp at hs
        · simp at hr
  | seq x y ihx ihy =>
    intro ks ks' rc s s' e a w L Q hr hi hs hQ
    simp only [resolveC] at hr
    split at hr
    · rename_i x' ks1 hx
      split at hr
      · rename_i y' ks2 hy
        simp only [Option.some.injEq, Prod.mk.injEq] at hr
        obtain ⟨rfl, rfl⟩ := hr
        simp only [run] at hs
        refine wp_seq ?_
        split at hs
        · rename_i s1 hs1
          refine ihx hx hi hs1 (fun a' w' L' hi' => ?_)
          exact ihy hy hi' hs hQ
        · rename_i r hne
          refine ihx hx hi hs (fun a' w' L' hi' => ?_)
          cases e with
          | nrm => exact absurd hs (by intro h; exact hne _ h)
          | exit i => exact hQ a' w' L' hi'
          | ret => exact hQ a' w' L' hi'
      · simp at hr
    · simp at hr
  | cond t x y ihx ihy =>
    intro ks ks' rc s s' e a w L Q hr hi hs hQ
    simp only [resolveC] at hr
    split at hr
    · rename_i c' x' ks1 hc hx
      split at hr
      · rename_i y' ks2 hy
        simp only [Option.some.injEq, Prod.mk.injEq] at hr
        obtain ⟨rfl, rfl⟩ := hr
        simp only [run] at hs
        split at hs
        · rename_i t ht
          have hV := rX0_V hi.ev hc
          rw [ht] at hV
          have hv := V_bool hV
          refine wp_cond hv ?_
          cases t
          · simp only [Bool.false_eq_true, if_false] at hs ⊢
            exact ihy hy hi hs hQ
          · simp only [if_true] at hs ⊢
            exact ihx hx hi hs hQ
        · simp at hs
      · simp at hr
    · simp at hr
  | block id x ih =>
    intro ks ks' rc s s' e a w L Q hr hi hs hQ
    simp only [resolveC, Option.map_eq_some_iff] at hr
    obtain ⟨⟨x', ks1⟩, hx, he⟩ := hr
    simp only [Prod.mk.injEq] at he
    obtain ⟨rfl, rfl⟩ := he
    simp only [run] at hs
    refine wp_block ?_
    split at hs
    · rename_i i s1 hs1
      refine ih hx hi hs1 (fun a' w' L' hi' => ?_)
      simp only [exOf, Exit.inBlock]
      split at hs
      · rename_i h
        simp only [Option.some.injEq, Prod.mk.injEq] at hs
        obtain ⟨rfl, rfl⟩ := hs
        rw [if_pos h]
        exact hQ a' w' L' hi'
      · rename_i h
        simp only [Option.some.injEq, Prod.mk.injEq] at hs
        obtain ⟨rfl, rfl⟩ := hs
        rw [if_neg h]
        exact hQ a' w' L' hi'
    · rename_i r hne
      refine ih hx hi hs (fun a' w' L' hi' => ?_)
      cases e with
      | nrm => exact hQ a' w' L' hi'
      | exit i => exact absurd hs (by intro h; exact hne _ _ h)
      | ret => exact hQ a' w' L' hi'
  | loop x ih =>
    intro ks ks' rc s s' e a w L Q hr hi hs hQ
    simp only [resolveC] at hr
    split at hr
    · simp at hr
    · rename_i k ks1
      simp only [Option.map_eq_some_iff] at hr
      obtain ⟨⟨x', ks2⟩, hx, he⟩ := hr
      simp only [Prod.mk.injEq] at he
      obtain ⟨rfl, rfl⟩ := he
      simp only [run] at hs
      split at hs
      · rename_i e1 s1 hs1
        simp only [Option.some.injEq, Prod.mk.injEq] at hs
        obtain ⟨rfl, rfl⟩ := hs
        unfold iterW at hs1
        split at hs1
        · rename_i hex
          generalize hex.choose = n at hs1
          clear hex
          refine wp_loop_rounds n ?_
          induction n generalizing s a w L with
          | zero => simp [iterN] at hs1
          | succ n ihn =>
            simp only [iterN] at hs1
            rw [rounds_succ]
            obtain ⟨L1, hi1⟩ := hi.gc k.1
            split at hs1
            · rename_i s2 hs2
              refine ih hx hi1 hs2 (fun a' w' L' hi' => ?_)
              exact ihn hi' hs1
            · rename_i r hne
              refine ih hx hi1 hs1 (fun a' w' L' hi' => ?_)
              obtain ⟨L2, hi2⟩ := hi'.gc (kOf k.2 (exN e1))
              have := hQ a' w' L2 hi2
              cases e1 with
              | nrm => exact absurd hs1 (by intro h; exact hne _ h)
              | exit i => exact this
              | ret => exact this
        · simp at hs1
      · simp at hs
  | exit id =>
    intro ks ks' rc s s' e a w L Q hr hi hs hQ
    simp only [resolveC, Option.some.injEq, Prod.mk.injEq] at hr
    obtain ⟨rfl, rfl⟩ := hr
    simp only [run, Option.some.injEq, Prod.mk.injEq] at hs
    obtain ⟨rfl, rfl⟩ := hs
    exact wp_exit (hQ a w L hi)
  | ret =>
    intro ks ks' rc s s' e a w L Q hr hi hs hQ
    simp only [resolveC, Option.some.injEq, Prod.mk.injEq] at hr
    obtain ⟨rfl, rfl⟩ := hr
    simp only [run, Option.some.injEq, Prod.mk.injEq] at hs
    obtain ⟨rfl, rfl⟩ := hs
    exact wp_ret (hQ a w L hi)
  | _ =>
    intro ks ks' rc s s' e a w L Q hr hi hs hQ
    simp [resolveC] at hr
end
end Go.Proofs.Ytldmpjoddghdkaa.AI
