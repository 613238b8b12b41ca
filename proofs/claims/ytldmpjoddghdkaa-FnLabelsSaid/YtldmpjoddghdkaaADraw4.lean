import Derived.Test.YtldmpjoddghdkaaADraw3
namespace Go.Proofs.Ytldmpjoddghdkaa.AI
set_option linter.all false
open Go.RowKit
set_option autoImplicit false
set_option linter.unusedVariables false
set_option linter.unusedSimpArgs false
variable [Tabs]
section
variable {P : Program} {ctx : Ctx} {RO : Bx} {w : World}
theorem part_step (hctx : CtxOk P ctx) (F : Nat → Prop) [DecidablePred F] {lo hi nx : Nat} {R : Rf} {L : Lf} (h : HRel RO w R nx L) (hF : ∀ r, F r → r < lo) (hcl : ∀ r b, F r → R r = some b → ∀ q ∈ rootsB (some b), F q)
    {M M' : Hp} (hM : ∀ r, root? M r = part F R r) (hlen : M.length = lo) (hlen' : M'.length = hi) (hlo : lo ≤ hi) (hnx : hi ≤ nx) (hno : ∀ r b, R r = some b → ∀ q ∈ rootsB (some b), ¬ (lo ≤ q ∧ q < hi))
    {tm : List (Nat × AV)} {a : Act} (he : EV RO w R nx L tm a) (hroots : ∀ t, ∀ q ∈ roots (lk tm t), F q) {o : Oper} {ro : Go.Proofs.Ytldmpjoddghdkaa.AI.RO} (hres : resolveOp P o = some ro) {v : AV} (hst : stepC ctx (ev tm) M ro = some (v, M'))
    (hcl3 : ∀ w3 x L3, Adv (RO.but R L F) w (part F R) lo L w3 (root? M') hi L3 → V (RO.but R L F) w3 (root? M') hi L3 v x → (∀ q ∈ roots v, F q ∨ (lo ≤ q ∧ q < hi)) ∧ ∀ r b, root? M' r = some b → ∀ q ∈ rootsB (some b), F q ∨ (lo ≤ q ∧ q < hi))
    {next : Act → World → Prop} {Q : Exit → Act → World → Prop}
    (hn : ∀ x w' L', HRel RO w' (joinR F lo hi R (root? M')) nx L' → Same RO w w' → w.heap.size ≤ w'.heap.size → w'.os = w.os → w'.tape = w.tape → w'.output = w.output → (∀ r b, root? M' r = some b → ∀ q ∈ rootsB (some b), F q ∨ (lo ≤ q ∧ q < hi)) →
      (∀ q, q < nx → ¬ (lo ≤ q ∧ q < hi) → OkRoot R L (joinR F lo hi R (root? M')) nx L' q) → (∀ q ∈ roots v, F q ∨ (lo ≤ q ∧ q < hi)) → V RO w' (joinR F lo hi R (root? M')) nx L' v x → next (a.put o.dst x) w') : o.wp P a w next Q := by
  have hMf : root? M = part F R := funext hM
  have hv := HRel.view F h hF hcl
  have hev : EV (RO.but R L F) w (part F R) lo L tm a := by
    intro t
    have h1 : V RO w (part F R) lo L (lk tm t) (a.tmps.getD t undef) := V_on (Same.refl RO w) _ _ (fun q hq => OkRoot.of_eq (hF q (hroots t q hq)) (by simp [part, hroots t q hq]) (fun _ => rfl)) (he t)
    exact V_more (RO := RO) (RO' := RO.but R L F) (fun B hB => hB) _ _ h1
  rw [← hMf, ← hlen] at hv hev
  refine stepC_sound hctx hv hev hres hst (fun x w' L3 adv hx => ?_)
  rw [hMf, hlen, hlen'] at adv
  rw [hlen'] at hx
  obtain ⟨h3, h4⟩ := hcl3 w' x L3 adv hx
  obtain ⟨h5, h6⟩ := HRel.merge F h hF hlo hnx hno adv h4
  refine hn x w' _ h5 h6 adv.size adv.os adv.tape adv.output h4 (fun q hq hn => ok_join F h hF hnx adv hn hq) h3 ?_
  have hx2 : V RO w' (root? M') hi L3 v x := V_more (RO := RO.but R L F) (RO' := RO) (fun B hB => hB) _ _ hx
  refine V_on (Same.refl RO w') v x (fun q hq => OkRoot.of_eq ?_ ?_ (fun p => ?_)) hx2
  · rcases h3 q hq with h' | h'
    · have := hF q h'; omega
    · omega
  · simp [joinR, h3 q hq]
  · simp [joinL, h3 q hq]
end
theorem wrote_sub {ctx : Ctx} {e : X → AV} {hp : Hp} {o : Go.Proofs.Ytldmpjoddghdkaa.AI.RO} {F : List Nat} {q : Nat} (h : has (wrote ctx e (mask F 0 hp) o F) q = true) : has F q = true := by
  unfold wrote at h
  split at h
  · split at h
    · split at h
      · split at h
        · rename_i hg
          simp only [has] at h
          have hq : q = _ := (by simpa using h : _ = q).symm
          unfold getB at hg
          split at hg
          · simp at hg
          · rename_i b hb
            rw [mask_root] at hb
            split at hb
            · rename_i hh
              rw [hq]; exact hh
            · simp at hb
        · exact h
      · exact h
    · exact h
  · simp [has] at h
def Wb (k : Nat) (m : Mark) (r : Nat) : Bool := (decide (k = 1) && m.t) || decide (m.lo ≤ r ∧ r < m.hi) || has m.w r
structure Canon (P : Program) (ctx : Ctx) (N : Nat) (ops : Array Oper) (rs : List (Nat × ROp)) (ah : List (List Nat)) (pairs : List (Nat × Nat)) (st : Nat → St) (mk : Nat → Mark) : Prop where
  len : rs.length = ops.size
  res : ∀ (j : Nat) (o : Oper), ops[j]? = some o → ∃ r, rs[j]? = some r ∧ resolveO P N ops o = some r.2
  run : ∀ (j : Nat) (r : Nat × ROp), rs[j]? = some r → runOD ctx r.1 r.2 (st j) = some (st (j + 1), mk j)
  kind : ∀ (j : Nat) (r : Nat × ROp), rs[j]? = some r → r.1 = kindOf' pairs j r.2
  order : ∀ (i j : Nat) (ri rj : Nat × ROp), i < j → rs[i]? = some ri → rs[j]? = some rj → i ∈ ah.getD j [] ∨ (asideT ri.2 rj.2 = true ∧ (vie ri.2 rj.2 = false ∨ ((i, j) ∈ pairs ∧ apartM (mk i) (mk j) = true)))
  consts : ∀ (j : Nat) (r : Nat × ROp), rs[j]? = some r → constsOk r.2 = true
inductive Way (ctx : Ctx) (k : Nat) (r : ROp) (s s' : St) (m : Mark) (v : AV) : Prop where
  | skip (t : Nat) (want : Bool) (hg : r.guard = some (t, want)) (hw : (∃ b, lk s.tm t = .bool b ∧ b ≠ want) ∨ lk s.tm t = .tup []) (hv : v = .tup []) (hp : s'.hp = s.hp) (hm : m = ⟨[], false, s.hp.length, s.hp.length, []⟩)
  | go (hg : r.guard = none ∨ ∃ t want, r.guard = some (t, want) ∧ lk s.tm t = .bool want) (hd : stepD ctx k r.op s = some (v, s'.hp, m))
theorem way_of {ctx : Ctx} {k : Nat} {r : ROp} {s s' : St} {m : Mark} (h : runOD ctx k r s = some (s', m)) : ∃ v, s'.tm = put s.tm r.dst v ∧ Way ctx k r s s' m v := by
  unfold runOD at h
  have go : (match stepD ctx k r.op s with | some (v, hp, m) => some ((⟨put s.tm r.dst v, hp⟩ : St), m) | none => none) = some (s', m) → (r.guard = none ∨ ∃ t want, r.guard = some (t, want) ∧ lk s.tm t = .bool want) → ∃ v, s'.tm = put s.tm r.dst v ∧ Way ctx k r s s' m v := by
    intro h hg
    split at h
    · rename_i v hp m' hd
      simp only [Option.some.injEq, Prod.mk.injEq] at h
      obtain ⟨rfl, rfl⟩ := h
      exact ⟨v, rfl, .go hg hd⟩
    · simp at h
  simp only at h
  split at h
  · rename_i hg
    exact go h (.inl hg)
  · rename_i t want hg
    split at h
    · rename_i b hb
      split at h
      · rename_i e
        exact go h (.inr ⟨t, want, hg, by rw [hb, e]⟩)
      · rename_i e
        simp only [Option.some.injEq, Prod.mk.injEq] at h
        obtain ⟨rfl, rfl⟩ := h
        exact ⟨.tup [], rfl, .skip t want hg (.inl ⟨b, hb, e⟩) rfl rfl rfl⟩
    · rename_i hb
      simp only [Option.some.injEq, Prod.mk.injEq] at h
      obtain ⟨rfl, rfl⟩ := h
      exact ⟨.tup [], rfl, .skip t want hg (.inr hb) rfl rfl rfl⟩
    · simp at h
theorem way_len {ctx : Ctx} {k : Nat} {r : ROp} {s s' : St} {m : Mark} {v : AV} (h : Way ctx k r s s' m v) : m.lo = s.hp.length ∧ m.hi = s'.hp.length ∧ m.lo ≤ m.hi := by
  cases h with
  | skip t want hg hw hv hp hm => subst hm; simp [hp]
  | go hg hd =>
    unfold stepD at hd
    simp only at hd
    split at hd
    · split at hd
      · simp only [Option.some.injEq, Prod.mk.injEq] at hd
        obtain ⟨_, h2, rfl⟩ := hd
        simp [← h2]
      · simp at hd
    · split at hd
      · split at hd
        · simp only [Option.some.injEq, Prod.mk.injEq] at hd
          obtain ⟨_, h2, rfl⟩ := hd
          simp [← h2]
        · split at hd
          · rename_i hle
            simp only [Option.some.injEq, Prod.mk.injEq] at hd
            obtain ⟨_, h2, rfl⟩ := hd
            simp [← h2, hle]
          · simp at hd
      · simp at hd
    · split at hd
      · split at hd
        · split at hd
          · split at hd
            · simp only [Option.some.injEq, Prod.mk.injEq] at hd
              obtain ⟨_, h2, rfl⟩ := hd
              simp [← h2]
            · simp at hd
          · split at hd
            · rename_i hle
              simp only [Option.some.injEq, Prod.mk.injEq] at hd
              obtain ⟨_, h2, rfl⟩ := hd
              simp [← h2, hle.1, merge_length _ _ _ _ hle.1]
            · simp at hd
        · simp at hd
      · simp at hd
theorem way_stays {ctx : Ctx} {k : Nat} {r : ROp} {s s' : St} {m : Mark} {v : AV} (h : Way ctx k r s s' m v) {q : Nat} (hq : Wb k m q = false) : root? s'.hp q = root? s.hp q := by
  obtain ⟨hl1, hl2, hl3⟩ := way_len h
  cases h with
  | skip t want hg hw hv hp hm => rw [hp]
  | go hg hd =>
    unfold stepD at hd
    simp only at hd
    split at hd
    · split at hd
      · simp only [Option.some.injEq, Prod.mk.injEq] at hd
        rw [← hd.2.1]
      · simp at hd
    · split at hd
      · split at hd
        · simp only [Option.some.injEq, Prod.mk.injEq] at hd
          rw [← hd.2.1]
        · split at hd
          · simp only [Option.some.injEq, Prod.mk.injEq] at hd
            obtain ⟨_, h2, rfl⟩ := hd
            simp [Wb] at hq
          · simp at hd
      · simp at hd
    · split at hd
      · split at hd
        · rename_i v' hp' hst
          split at hd
          · split at hd
            · simp only [Option.some.injEq, Prod.mk.injEq] at hd
              rw [← hd.2.1]
            · simp at hd
          · split at hd
            · rename_i hle
              simp only [Option.some.injEq, Prod.mk.injEq] at hd
              obtain ⟨_, h2, rfl⟩ := hd
              rw [← h2, merge_root _ _ _ hle.1]
              split
              · rfl
              · rename_i hc
                simp only [Wb, Bool.or_eq_false_iff] at hq
                have h4 : ¬ (s.hp.length ≤ q ∧ q < hp'.length) := by simpa using hq.1.2
                by_cases hlt : q < s.hp.length
                · have hf : has (disc s.hp 0 200 (rootsL ((opnds r.op).map (ev s.tm))) []) q = true := by
                    cases e : has (disc s.hp 0 200 (rootsL ((opnds r.op).map (ev s.tm))) []) q
                    · exact absurd ⟨hlt, e⟩ hc
                    · rfl
                  rw [unwrote hq.2 hf hst (by rw [mask_length]; exact hlt), mask_root, if_pos hf]
                · rw [root_out (by omega), root_out (by omega)]
            · simp at hd
        · simp at hd
      · simp at hd
theorem way_still {ctx : Ctx} {k : Nat} {r : ROp} {s s' : St} {m : Mark} {v : AV} (h : Way ctx k r s s' m v) (hs : still r.op = true ∨ k = 0) : m.t = false ∧ m.lo = m.hi ∧ m.w = [] := by
  cases h with
  | skip t want hg hw hv hp hm => subst hm; simp
  | go hg hd =>
    unfold stepD at hd
    simp only at hd
    split at hd
    · split at hd
      · simp only [Option.some.injEq, Prod.mk.injEq] at hd
        obtain ⟨_, h2, rfl⟩ := hd
        simp
      · simp at hd
    · rcases hs with hs | hs
      · split at hd
        · rw [if_pos hs] at hd
          simp only [Option.some.injEq, Prod.mk.injEq] at hd
          obtain ⟨_, h2, rfl⟩ := hd
          simp
        · simp at hd
      · simp at hs
    · rename_i h0 h1
      rcases hs with hs | hs
      · split at hd
        · split at hd
          · split at hd
            · simp only [Option.some.injEq, Prod.mk.injEq] at hd
              obtain ⟨_, h2, rfl⟩ := hd
              simp
            · simp at hd
          · simp at hd
        · simp at hd
      · exact absurd hs (by assumption)
end Go.Proofs.Ytldmpjoddghdkaa.AI
