import Derived.Test.YtldmpjoddghdkaaAMore
namespace Go.Proofs.Ytldmpjoddghdkaa.AI
set_option linter.all false
open Go.RowKit
set_option autoImplicit false
set_option linter.unusedVariables false
set_option linter.unusedSimpArgs false
variable [Tabs]
theorem mapP {α : Type} {z : Option α} {f : α → AV} {hp hp' : Hp} {v : AV} (hs : (z.map fun c => (f c, hp)) = some (v, hp')) : hp' = hp ∧ ∀ M : Hp, (z.map fun c => (f c, M)) = some (v, M) := by
  cases z with
  | none => simp at hs
  | some c =>
    simp only [Option.map_some, Option.some.injEq, Prod.mk.injEq] at hs
    exact ⟨hs.2.symm, fun M => by simp [hs.1]⟩
theorem someP {hp hp' : Hp} {v u : AV} (hs : some (u, hp) = some (v, hp')) : hp' = hp ∧ ∀ M : Hp, some (u, M) = some (v, M) := by
  simp only [Option.some.injEq, Prod.mk.injEq] at hs
  exact ⟨hs.2.symm, fun M => by simp [hs.1]⟩
theorem nonheapy {e : X → AV} {hp hp' : Hp} {o : Go.Proofs.Ytldmpjoddghdkaa.AI.RO} {v : AV} (h : heapy o = false) (hs : step e hp o = some (v, hp')) : hp' = hp ∧ ∀ M, step e M o = some (v, M) := by
  cases o with
  | mx xs => cases xs <;> simp only [step] at hs ⊢ <;> first | (simp at hs; done) | (split at hs <;> first | exact mapP hs | (simp at hs; done))
  | mn xs => cases xs <;> simp only [step] at hs ⊢ <;> first | (simp at hs; done) | (split at hs <;> first | exact mapP hs | (simp at hs; done))
  | len str x => cases str <;> simp only [step] at hs ⊢ <;> split at hs <;> first | exact someP hs | (simp at hs; done)
  | _ => first
    | (simp [heapy] at h; done)
    | (simp only [step] at hs ⊢; first
      | exact someP hs
      | exact mapP hs
      | (split at hs <;> first | exact someP hs | exact mapP hs | (simp at hs; done) | (split at hs <;> first | exact someP hs | exact mapP hs | (simp at hs; done) | (rename_i hc; simp only [hc, if_true, if_false]; first | exact someP hs | exact mapP hs))))
theorem still_hp {e : X → AV} {hp hp' : Hp} {o : Go.Proofs.Ytldmpjoddghdkaa.AI.RO} {v : AV} (h : still o = true) (hs : step e hp o = some (v, hp')) : hp' = hp := by
  by_cases hh : heapy o = false
  · exact (nonheapy hh hs).1
  · cases o with
    | slc str k x lo hi =>
      cases str <;> simp only [step] at hs <;> split at hs <;> first | exact (mapP hs).1 | (simp at hs; done) | (split at hs <;> first | exact (mapP hs).1 | (simp at hs; done) | (split at hs <;> first | exact (mapP hs).1 | (simp at hs; done)))
    | ld n a x =>
      simp only [step] at hs
      split at hs
      · split at hs
        · split at hs
          · exact (mapP hs).1
          · simp at hs
        · simp at hs
      · split at hs
        · exact (mapP hs).1
        · simp at hs
      · simp at hs
    | b2s x =>
      simp only [step, Option.bind_eq_some_iff] at hs
      obtain ⟨es, _, hs⟩ := hs
      exact (mapP hs).1
    | ia k x i =>
      simp only [step] at hs
      split at hs
      · split at hs
        · split at hs
          · exact (someP hs).1
          · simp at hs
        · simp at hs
      · split at hs
        · exact (someP hs).1
        · simp at hs
      · simp at hs
    | _ => first | (simp [still] at h; done) | (simp [heapy] at hh; done)
theorem still_hpC {ctx : Ctx} {e : X → AV} {hp hp' : Hp} {o : Go.Proofs.Ytldmpjoddghdkaa.AI.RO} {v : AV} (h : still o = true) (hs : stepC ctx e hp o = some (v, hp')) : hp' = hp := by
  cases o <;> first | (simp [still] at h; done) | (simp only [stepC] at hs; exact still_hp h hs)
theorem nonheapyC {ctx : Ctx} {e : X → AV} {hp hp' : Hp} {o : Go.Proofs.Ytldmpjoddghdkaa.AI.RO} {v : AV} (h : heapy o = false) (hs : stepC ctx e hp o = some (v, hp')) : hp' = hp ∧ ∀ M, stepC ctx e M o = some (v, M) := by
  cases o <;> first | (simp [heapy] at h; done) | (simp only [stepC] at hs ⊢; exact nonheapy h hs)
theorem fillP_congr {e e' : X → AV} : ∀ {ps : List (Nat × Nat × X)} {cs : List AV}, (∀ x ∈ ps.map (·.2.2), e x = e' x) → fillP e cs ps = fillP e' cs ps
  | [], _, _ => rfl
  | (o, n, x) :: ps, cs, h => by
    have h1 : e x = e' x := h x (by simp)
    simp only [fillP, h1]
    split
    · split
      · exact fillP_congr fun y hy => h y (by simp at hy ⊢; exact .inr hy)
      · rfl
    · rfl
theorem fillE_congr {e e' : X → AV} {r : BRef} {k : Nat} : ∀ {xs : List X} {hp : Hp}, (∀ x ∈ xs, e x = e' x) → fillE e r k hp xs = fillE e' r k hp xs
  | [], _, _ => rfl
  | x :: xs, hp, h => by
    have h1 : e x = e' x := h x (by simp)
    have h2 : ∀ hp, fillE e r k hp xs = fillE e' r k hp xs := fun hp => fillE_congr fun y hy => h y (by simp [hy])
    simp only [fillE, h1, h2]
theorem step_congr {e e' : X → AV} {hp : Hp} {o : Go.Proofs.Ytldmpjoddghdkaa.AI.RO} (h : ∀ x ∈ opnds o, e x = e' x) : step e hp o = step e' hp o := by
  cases o with
  | mx xs => cases xs with
    | nil => rfl
    | cons x xs =>
      have h2 : xs.map e = xs.map e' := List.map_congr_left fun y hy => h y (by simp [opnds, hy])
      simp only [step, h x (by simp [opnds]), h2]
  | mn xs => cases xs with
    | nil => rfl
    | cons x xs =>
      have h2 : xs.map e = xs.map e' := List.map_congr_left fun y hy => h y (by simp [opnds, hy])
      simp only [step, h x (by simp [opnds]), h2]
  | len str x => cases str <;> simp only [step, h x (by simp [opnds])]
  | build z ps => simp only [step]; rw [fillP_congr (e := e) (e' := e') (by simpa [opnds] using h)]
  | bsl k xs => simp only [step]; rw [fillE_congr (e := e) (e' := e') (by simpa [opnds] using h)]
  | slc str k x lo hi =>
    have h1 : lo.map e = lo.map e' := by cases lo with | none => rfl | some y => simp [h y (by simp [opnds])]
    have h2 : hi.map e = hi.map e' := by cases hi with | none => rfl | some y => simp [h y (by simp [opnds])]
    cases str <;> simp only [step, h x (by simp [opnds]), h1, h2]
  | mkf f xs =>
    have h2 : xs.map e = xs.map e' := List.map_congr_left fun y hy => h y (by simpa [opnds] using hy)
    simp only [step, h2]
  | pick c a b => simp only [step, h c (by simp [opnds]), h a (by simp [opnds]), h b (by simp [opnds])]
  | st n x v => simp only [step, h x (by simp [opnds]), h v (by simp [opnds])]
  | bin op x y => simp only [step, h x (by simp [opnds]), h y (by simp [opnds])]
  | bib op x y => simp only [step, h x (by simp [opnds]), h y (by simp [opnds])]
  | eqs op fs x y => simp only [step, h x (by simp [opnds]), h y (by simp [opnds])]
  | mk k z b x y => simp only [step, h x (by simp [opnds]), h y (by simp [opnds])]
  | ia k x y => simp only [step, h x (by simp [opnds]), h y (by simp [opnds])]
  | ix x y => simp only [step, h x (by simp [opnds]), h y (by simp [opnds])]
  | app fl k b x y => simp only [step, h x (by simp [opnds]), h y (by simp [opnds])]
  | call f xs => rfl
  | callv x xs => rfl
  | new c => rfl
  | mv x => simp only [step, h x (by simp [opnds])]
  | box x => simp only [step, h x (by simp [opnds])]
  | ld n a x => simp only [step, h x (by simp [opnds])]
  | nck x => simp only [step, h x (by simp [opnds])]
  | un op x => simp only [step, h x (by simp [opnds])]
  | cvi k x => simp only [step, h x (by simp [opnds])]
  | cvs x => simp only [step, h x (by simp [opnds])]
  | s2b x => simp only [step, h x (by simp [opnds])]
  | b2s x => simp only [step, h x (by simp [opnds])]
  | fa off x => simp only [step, h x (by simp [opnds])]
  | fl off n a x => simp only [step, h x (by simp [opnds])]
  | ex x i => simp only [step, h x (by simp [opnds])]
theorem stepC_congr {ctx : Ctx} {e e' : X → AV} {hp : Hp} {o : Go.Proofs.Ytldmpjoddghdkaa.AI.RO} (h : ∀ x ∈ opnds o, e x = e' x) : stepC ctx e hp o = stepC ctx e' hp o := by
  cases o with
  | call f xs =>
    have h2 : xs.map e = xs.map e' := List.map_congr_left fun y hy => h y (by simpa [opnds] using hy)
    simp only [stepC, h2]
  | callv x xs =>
    have h2 : xs.map e = xs.map e' := List.map_congr_left fun y hy => h y (by simp [opnds, hy])
    simp only [stepC, h2, h x (by simp [opnds])]
  | _ => simp only [stepC]; exact step_congr h
mutual
theorem unown_old : ∀ (v : AV) (hp : Hp) {n : Nat}, n < hp.length → root? (unown v hp).2 n = root? hp n ∧ n < (unown v hp).2.length
  | .tree k es, hp, n, h => by
    simp only [unown]
    rw [root_push]
    refine ⟨upd_ne _ _ (by omega), by simp; omega⟩
  | .agg cs, hp, n, h => by simp only [unown]; exact unownL_old cs hp h
  | .tup cs, hp, n, h => by simp only [unown]; exact unownL_old cs hp h
  | .dead, hp, n, h => by simp [unown, h]
  | .gone, hp, n, h => by simp [unown, h]
  | .pnil, hp, n, h => by simp [unown, h]
  | .inil, hp, n, h => by simp [unown, h]
  | .fnil, hp, n, h => by simp [unown, h]
  | .bool _, hp, n, h => by simp [unown, h]
  | .int _ _, hp, n, h => by simp [unown, h]
  | .str _, hp, n, h => by simp [unown, h]
  | .nil _, hp, n, h => by simp [unown, h]
  | .sl _ _ _ _, hp, n, h => by simp [unown, h]
  | .ptr _ _ _ _, hp, n, h => by simp [unown, h]
  | .rp _ _, hp, n, h => by simp [unown, h]
  | .fn _ _, hp, n, h => by simp [unown, h]
theorem unownL_old : ∀ (vs : List AV) (hp : Hp) {n : Nat}, n < hp.length → root? (unownL vs hp).2 n = root? hp n ∧ n < (unownL vs hp).2.length
  | [], hp, n, h => by simp [unownL, h]
  | v :: vs, hp, n, h => by
    simp only [unownL]
    obtain ⟨h1, h2⟩ := unown_old v hp h
    obtain ⟨h3, h4⟩ := unownL_old vs _ h2
    exact ⟨h3.trans h1, h4⟩
end
theorem push_old {hp : Hp} {b : Option Blk} {n : Nat} (h : n < hp.length) : root? (hp ++ [b]) n = root? hp n := by
  rw [root_push]; exact upd_ne _ _ (by omega)
theorem unturned {ctx : Ctx} {e : X → AV} {hp hp' : Hp} {o : Go.Proofs.Ytldmpjoddghdkaa.AI.RO} {v : AV} (h : turns ctx e o = false) (hs : stepC ctx e hp o = some (v, hp')) {n : Nat} (hn : n < hp.length) : root? hp' n = root? hp n := by
  cases o with
  | new c =>
    simp only [stepC, step, Option.some.injEq, Prod.mk.injEq] at hs
    obtain ⟨_, rfl⟩ := hs
    rw [push_old (Nat.lt_of_lt_of_le hn (nnL_len c hp))]
    exact nnL_old c hp hn
  | box x =>
    simp only [stepC, step] at hs
    split at hs
    · rename_i c hc
      simp only [Option.some.injEq, Prod.mk.injEq] at hs
      obtain ⟨_, rfl⟩ := hs
      rw [push_old (Nat.lt_of_lt_of_le hn (nnL_len c hp))]
      exact nnL_old c hp hn
    · simp at hs
  | s2b x =>
    simp only [stepC, step, newB] at hs
    split at hs
    · split at hs
      · simp only [Option.some.injEq, Prod.mk.injEq] at hs
        obtain ⟨_, rfl⟩ := hs
        exact push_old hn
      · simp at hs
    · simp at hs
  | mk k z b l c =>
    simp only [stepC, step, newB] at hs
    split at hs
    · split at hs
      · simp only [Option.some.injEq, Prod.mk.injEq] at hs
        obtain ⟨_, rfl⟩ := hs
        exact push_old hn
      · simp at hs
    · simp at hs
  | call f xs =>
    simp only [stepC] at hs
    simp only [turns] at h
    split at h
    · rename_i F hF
      rw [hF] at hs
      simp only [callS] at hs
      have hmt : F.mt = none := by simpa using h
      simp only [hmt] at hs
      split at hs
      · simp at hs
      · split at hs
        · simp at hs
        · split at hs
          · split at hs
            · simp only [Option.some.injEq, Prod.mk.injEq] at hs
              obtain ⟨_, rfl⟩ := hs
              rfl
            · simp at hs
          · simp only [Option.some.injEq, Prod.ext_iff] at hs
            obtain ⟨_, rfl⟩ := hs
            exact (unown_old _ hp hn).1
    · simp at h
  | app flt k b x y =>
    simp only [stepC, step, newB] at hs
    simp only [turns] at h
    split at h
    · simp at h
    · rename_i hne
      have hflt : flt = true := by simpa using h
      subst hflt
      simp only [if_true] at hs
      split at hs
      · simp at hs
      · rename_i es hp1 hnew
        have e1 : hp1 = hp := by
          split at hnew
          · split at hnew
            · simp only [Option.some.injEq, Prod.mk.injEq] at hnew; exact hnew.2.symm
            · simp at hnew
          · split at hnew
            · split at hnew
              · simp only [Option.some.injEq, Prod.mk.injEq] at hnew; exact hnew.2.symm
              · simp at hnew
            · simp at hnew
        subst e1
        split at hs
        · split at hs
          · simp only [Option.some.injEq, Prod.mk.injEq] at hs
            obtain ⟨_, rfl⟩ := hs
            exact push_old hn
          · simp at hs
        · rename_i hx
          exact absurd hx (hne _ _ _ _)
        · simp at hs
  | _ => simp [turns] at h
theorem old_setB {hp : Hp} {r : BRef} {n q : Nat} {f : List (List AV) → List (List AV)} (h : q ≠ r.root) : root? (setB hp r n f) q = root? hp q := by
  unfold setB
  split
  · rfl
  · rename_i b hb
    rw [root_set _ _ _ (root_lt hb)]
    exact upd_ne _ _ h
theorem unwrote {ctx : Ctx} {e : X → AV} {hp hp' : Hp} {o : Go.Proofs.Ytldmpjoddghdkaa.AI.RO} {v : AV} {F : List Nat} {n : Nat} (h : has (wrote ctx e hp o F) n = false) (hF : has F n = true) (hs : stepC ctx e hp o = some (v, hp')) (hn : n < hp.length) : root? hp' n = root? hp n := by
  unfold wrote at h
  by_cases ht : turns ctx e o = true
  · rw [if_pos ht] at h
    cases o with
    | st k x y =>
      simp only at h
      split at h
      · rename_i r k' i' off hx
        split at h
        · rename_i k2 es hg
          have hne : n ≠ r.root := by
            intro e1; subst e1; simp [has] at h
          simp only [stepC, step, hx] at hs
          cases hy : (e y).cl with
          | none => rw [hy] at hs; simp at hs
          | some cs =>
            rw [hy] at hs
            simp only [hg] at hs
            split at hs
            · simp only [Option.some.injEq, Prod.mk.injEq] at hs
              obtain ⟨_, rfl⟩ := hs
              rw [old_setB hne]
              exact nnL_old cs hp hn
            · simp at hs
        · rw [hF] at h; simp at h
      · rw [hF] at h; simp at h
    | _ => simp only [hF] at h; simp at h
  · exact unturned (by simpa using ht) hs hn
end Go.Proofs.Ytldmpjoddghdkaa.AI
