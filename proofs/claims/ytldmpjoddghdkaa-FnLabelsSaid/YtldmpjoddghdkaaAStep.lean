import Derived.Test.YtldmpjoddghdkaaAOps8
namespace Go.Proofs.Ytldmpjoddghdkaa.AI
set_option linter.all false
open Go.RowKit
set_option autoImplicit false
set_option linter.unusedVariables false
set_option linter.unusedSimpArgs false
set_option maxHeartbeats 1000000
variable [Tabs]
section
variable {P : Program} {RO : Bx} {tm : List (Nat × AV)} {a : Act}
theorem map1 {α β : Type} {x : Option α} {f : α → β} {y : β} (h : x.map f = some y) : ∃ z, x = some z ∧ f z = y := Option.map_eq_some_iff.1 h
theorem kindOf_eq {t : TypeId} {k : IntKind} (h : kindOf P t = some k) : P.underlying t = some (.int k) := by
  unfold kindOf at h
  split at h
  · simp only [Option.some.injEq] at h; subst h; assumption
  · simp at h
mutual
theorem nn_old : ∀ (v : AV) (hp : Hp) {n : Nat}, n < hp.length → root? (nn v hp).2 n = root? hp n ∧ hp.length ≤ (nn v hp).2.length
  | .nil k, hp, n, h => by
    simp only [nn]
    rw [root_push]
    exact ⟨upd_ne _ _ (by omega), by simp⟩
  | .agg cs, hp, n, h => by simp only [nn]; exact ⟨nnL_old cs hp h, nnL_len cs hp⟩
  | .tup cs, hp, n, h => by simp only [nn]; exact ⟨nnL_old cs hp h, nnL_len cs hp⟩
  | .dead, hp, n, h => by simp [nn]
  | .gone, hp, n, h => by simp [nn]
  | .pnil, hp, n, h => by simp [nn]
  | .inil, hp, n, h => by simp [nn]
  | .fnil, hp, n, h => by simp [nn]
  | .bool _, hp, n, h => by simp [nn]
  | .int _ _, hp, n, h => by simp [nn]
  | .str _, hp, n, h => by simp [nn]
  | .tree _ _, hp, n, h => by simp [nn]
  | .sl _ _ _ _, hp, n, h => by simp [nn]
  | .ptr _ _ _ _, hp, n, h => by simp [nn]
  | .rp _ _, hp, n, h => by simp [nn]
  | .fn _ _, hp, n, h => by simp [nn]
theorem nnL_old : ∀ (vs : List AV) (hp : Hp) {n : Nat}, n < hp.length → root? (nnL vs hp).2 n = root? hp n
  | [], hp, n, h => by simp [nnL]
  | v :: vs, hp, n, h => by
    simp only [nnL]
    obtain ⟨h1, h2⟩ := nn_old v hp h
    rw [nnL_old vs _ (by omega), h1]
theorem nnL_len : ∀ (vs : List AV) (hp : Hp), hp.length ≤ (nnL vs hp).2.length
  | [], hp => by simp [nnL]
  | v :: vs, hp => by
    simp only [nnL]
    exact Nat.le_trans (nn_len v hp) (nnL_len vs _)
theorem nn_len : ∀ (v : AV) (hp : Hp), hp.length ≤ (nn v hp).2.length
  | .nil k, hp => by simp [nn]
  | .agg cs, hp => by simp only [nn]; exact nnL_len cs hp
  | .tup cs, hp => by simp only [nn]; exact nnL_len cs hp
  | .dead, hp => by simp [nn]
  | .gone, hp => by simp [nn]
  | .pnil, hp => by simp [nn]
  | .inil, hp => by simp [nn]
  | .fnil, hp => by simp [nn]
  | .bool _, hp => by simp [nn]
  | .int _ _, hp => by simp [nn]
  | .str _, hp => by simp [nn]
  | .tree _ _, hp => by simp [nn]
  | .sl _ _ _ _, hp => by simp [nn]
  | .ptr _ _ _ _, hp => by simp [nn]
  | .rp _ _, hp => by simp [nn]
  | .fn _ _, hp => by simp [nn]
end
theorem step_sound {w : World} {hp : Hp} {L : Lf} (h : HRel RO w (root? hp) hp.length L) (he : EV RO w (root? hp) hp.length L tm a) {o : Oper} {ro : Go.Proofs.Ytldmpjoddghdkaa.AI.RO} (hres : resolveOp P o = some ro) {v : AV} {hp' : Hp} (hst : step (ev tm) hp ro = some (v, hp')) :
    Does P o a RO w (root? hp) hp.length L v (root? hp') hp'.length := by
  unfold resolveOp at hres
  split at hres
  case h_1 x ho =>   -- move
    obtain ⟨y, hy, rfl⟩ := map1 hres
    simp only [step, Option.some.injEq, Prod.mk.injEq] at hst
    obtain ⟨rfl, rfl⟩ := hst
    exact d_mv h he (.inl ho) hy
  case h_2 x ho =>   -- assign
    obtain ⟨y, hy, rfl⟩ := map1 hres
    simp only [step, Option.some.injEq, Prod.mk.injEq] at hst
    obtain ⟨rfl, rfl⟩ := hst
    exact d_mv h he (.inr ho) hy
  case h_3 c x y ho =>   -- pick
    split at hres
    · rename_i c' x' y' hc hx hy
      simp only [Option.some.injEq] at hres
      subst hres
      simp only [step] at hst
      split at hst
      · rename_i b hb
        simp only [Option.some.injEq, Prod.mk.injEq] at hst
        obtain ⟨rfl, rfl⟩ := hst
        exact d_pick h he ho hc hx hy hb
      · simp at hst
    · simp at hres
  case h_4 e ho =>   -- alloc
    split at hres
    · rename_i cs n hcs hn
      split at hres
      · simp only [Option.some.injEq] at hres
        subst hres
        simp only [step, Option.some.injEq, Prod.mk.injEq] at hst
        obtain ⟨rfl, rfl⟩ := hst
        obtain ⟨z, hz, hV⟩ := zeroV_cl (RO := RO) (w := w) (R := root? hp) (nx := hp.length) (L := L) hcs
        obtain ⟨L1, h1, h2, h3⟩ := nnL_rel cs h
        rw [root_push]
        simp only [List.length_append, List.length_cons, List.length_nil]
        exact Does.after h1 h2 (d_new (P := P) (a := a) h1 ho hz (h3 _ hV))
      · simp at hres
    · simp at hres
  case h_5 e x ho =>   -- box
    split at hres
    · rename_i x' n hx hn
      split at hres
      · simp only [Option.some.injEq] at hres
        subst hres
        simp only [step] at hst
        split at hst
        · rename_i cs hcs
          simp only [Option.some.injEq, Prod.mk.injEq] at hst
          obtain ⟨rfl, rfl⟩ := hst
          obtain ⟨L1, h1, h2, h3⟩ := nnL_rel cs h
          rw [root_push]
          simp only [List.length_append, List.length_cons, List.length_nil]
          exact Does.after h1 h2 (d_box (P := P) h1 ho (h3 _ (V_cells (rX_V he hx) hcs)))
        · simp at hst
      · simp at hres
    · simp at hres
  case h_6 t ps ho =>   -- build
    split at hres
    · rename_i fs ht
      split at hres
      · rename_i hall
        split at hres
        · rename_i z qs hz hq
          simp only [Option.some.injEq] at hres
          subst hres
          simp only [step, Option.map_eq_some_iff, Prod.mk.injEq] at hst
          obtain ⟨cs, hcs, rfl, rfl⟩ := hst
          exact d_build h he ho ht (fun f hf => by rw [Array.all_eq_true'] at hall; exact hall f hf) hz hq hcs
        · simp at hres
      · simp at hres
    · simp at hres
  case h_7 t n ps ho =>   -- buildSlice
    split at hres
    · rename_i e ht
      split at hres
      · rename_i k z qs hk hz hq
        split at hres
        · rename_i hc
          simp only [Option.some.injEq] at hres
          subst hres
          simp only [step] at hst
          split at hst
          · rename_i es hp1 cnt hf
            simp only [newB, Option.some.injEq, Prod.mk.injEq] at hst
            obtain ⟨rfl, rfl⟩ := hst
            exact d_bsl h he ho ht hk hz hc.2.1 hc.1 hc.2.2.1 hq hc.2.2.2 hf
          · simp at hst
        · simp at hres
      · simp at hres
    · simp at hres
  case h_8 t x ho =>   -- load
    split at hres
    · rename_i n g y hn hg hy
      split at hres
      · rename_i hc
        simp only [Option.some.injEq] at hres
        subst hres
        simp only [step] at hst
        split at hst
        · rename_i r k idx off hv
          split at hst
          · rename_i bx k' es hr
            split at hst
            · rename_i hcond
              obtain ⟨rfl, hi, hk⟩ := hcond
              simp only [Option.map_eq_some_iff, Prod.mk.injEq] at hst
              obtain ⟨z, hz, rfl, rfl⟩ := hst
              obtain ⟨b0, hb0⟩ := row_some (getB_row hr)
              refine d_ld h he ho hn hg hc.2 hy (.inl ⟨r, _, idx, off, bx, es, b0, hv, hr, hb0, hi, hk, ?_⟩)
              simp only [genAt, hb0] at hz
              exact hz
            · simp at hst
          · simp at hst
        · rename_i cells off hv
          split at hst
          · rename_i hk
            simp only [Option.map_eq_some_iff, Prod.mk.injEq] at hst
            obtain ⟨z, hz, rfl, rfl⟩ := hst
            exact d_ld h he ho hn hg hc.2 hy (.inr ⟨cells, off, hv, hk, hz⟩)
          · simp at hst
        · simp at hst
      · simp at hres
    · simp at hres
  case h_9 t x z ho =>   -- store
    split at hres
    · rename_i n y u hn hy hu
      split at hres
      · rename_i hn0
        simp only [Option.some.injEq] at hres
        subst hres
        simp only [step] at hst
        split at hst
        · rename_i r k idx off cs hv hcl
          split at hst
          · rename_i k' es hr
            split at hst
            · rename_i hcond
              obtain ⟨rfl, hi, hk, hl, ho1⟩ := hcond
              simp only [Option.some.injEq, Prod.mk.injEq] at hst
              obtain ⟨rfl, rfl⟩ := hst
              obtain ⟨L1, h1, h2, h3⟩ := nnL_rel cs h
              have hVp := rX0_V he hy
              rw [hv] at hVp
              have hpm := V.mono (Same.refl _ _) h2 _ _ hVp
              obtain ⟨b0, hb0⟩ := row_some (getB_row hr)
              have hr1 : getB (root? (nnL cs hp).2) r = some (true, k', es) := by rw [← hr]; exact getB_congr (nnL_old cs hp (root_lt hb0))
              have := d_st (P := P) h1 ho hn hn0 hpm (h3 _ (V_cells (rX_V he hu) hcl)) hr1 hi hk hl (.inl ⟨rfl, ho1, rfl⟩)
              have hlen : (setB (nnL cs hp).2 r 0 fun es => es.set idx (splice (es.getD idx []) off (nnL cs hp).1)).length = (nnL cs hp).2.length := by unfold setB; split <;> simp
              rw [hlen]
              exact Does.after h1 h2 this
            · simp at hst
          · rename_i k' es hr
            split at hst
            · rename_i cs' hp1 m hin
              split at hst
              · rename_i hcond
                obtain ⟨rfl, hi, hk, hl⟩ := hcond
                simp only [Option.some.injEq, Prod.mk.injEq] at hst
                obtain ⟨rfl, rfl⟩ := hst
                have hVp := rX0_V he hy
                rw [hv] at hVp
                have := d_st (P := P) h ho hn hn0 hVp (V_cells (rX_V he hu) hcl) hr hi hk hl (.inr ⟨rfl, cs', hp1, m, hin, rfl⟩)
                have hlen : (setB hp1 r m fun es => es.set idx (splice (es.getD idx []) off cs')).length = hp.length := by
                  rw [← (into_root hin).2.1]; unfold setB; split <;> simp
                rw [hlen]
                exact this
              · simp at hst
            · simp at hst
          · simp at hst
        · simp at hst
      · simp at hres
    · simp at hres
  case h_10 x ho =>   -- nilCheck
    obtain ⟨y, hy, rfl⟩ := map1 hres
    simp only [step] at hst
    split at hst
    · rename_i r k i off hv
      simp only [Option.some.injEq, Prod.mk.injEq] at hst
      obtain ⟨rfl, rfl⟩ := hst
      rw [← hv]
      exact d_nck h he ho hy (.inl ⟨_, _, _, _, hv⟩)
    · rename_i c off hv
      simp only [Option.some.injEq, Prod.mk.injEq] at hst
      obtain ⟨rfl, rfl⟩ := hst
      rw [← hv]
      exact d_nck h he ho hy (.inr (.inl ⟨_, _, hv⟩))
    · rename_i f cs hv
      simp only [Option.some.injEq, Prod.mk.injEq] at hst
      obtain ⟨rfl, rfl⟩ := hst
      rw [← hv]
      exact d_nck h he ho hy (.inr (.inr ⟨_, _, hv⟩))
    · simp at hst
  case h_11 op t x y u ho =>   -- binOp
    split at hres
    · split at hres
      · rename_i fs x' y' hf hx hy
        simp only [Option.some.injEq] at hres
        subst hres
        simp only [step] at hst
        split at hst
        · rename_i xs ys e1 e2
          simp only [Option.map_eq_some_iff, Prod.mk.injEq] at hst
          obtain ⟨b, hb, rfl, rfl⟩ := hst
          exact d_eqs h he ho hx hy (neg := false) rfl hf e1 e2 hb
        · simp at hst
      · rename_i fs x' y' hf hx hy
        simp only [Option.some.injEq] at hres
        subst hres
        simp only [step] at hst
        split at hst
        · rename_i xs ys e1 e2
          simp only [Option.map_eq_some_iff, Prod.mk.injEq] at hst
          obtain ⟨b, hb, rfl, rfl⟩ := hst
          exact d_eqs h he ho hx hy (neg := true) rfl hf e1 e2 hb
        · simp at hst
      · simp at hres
    · split at hres
      · rename_i x' y' hx hy
        simp only [Option.some.injEq] at hres
        subst hres
        simp only [step, Option.map_eq_some_iff, Prod.mk.injEq] at hst
        obtain ⟨b, hb, rfl, rfl⟩ := hst
        exact d_bin h he ho hx hy hb
      · simp at hres
    · split at hres
      · rename_i x' y' hx hy
        simp only [Option.some.injEq] at hres
        subst hres
        simp only [step, Option.map_eq_some_iff, Prod.mk.injEq] at hst
        obtain ⟨b, hb, rfl, rfl⟩ := hst
        exact d_bin h he ho hx hy hb
      · simp at hres
    · rename_i ht
      split at hres
      · rename_i x' y' hx hy
        simp only [Option.some.injEq] at hres
        subst hres
        simp only [step, Option.map_eq_some_iff, Prod.mk.injEq] at hst
        obtain ⟨b, hb, rfl, rfl⟩ := hst
        exact d_bib h he ho hx hy ht hb
      · simp at hres
    · simp at hres
  case h_12 op t x ho =>   -- unOp
    obtain ⟨y, hy, rfl⟩ := map1 hres
    simp only [step, Option.map_eq_some_iff, Prod.mk.injEq] at hst
    obtain ⟨b, hb, rfl, rfl⟩ := hst
    exact d_un h he ho hy hb
  case h_13 s d x ho =>   -- convert
    split at hres
    · rename_i k0 k hs hd
      obtain ⟨y, hy, rfl⟩ := map1 hres
      simp only [step] at hst
      split at hst
      · rename_i k1 n hv
        simp only [Option.some.injEq, Prod.mk.injEq] at hst
        obtain ⟨rfl, rfl⟩ := hst
        exact d_cvi h he ho hs hd hy hv
      · simp at hst
    · rename_i hs hd
      obtain ⟨y, hy, rfl⟩ := map1 hres
      simp only [step] at hst
      split at hst
      · rename_i z hv
        simp only [Option.some.injEq, Prod.mk.injEq] at hst
        obtain ⟨rfl, rfl⟩ := hst
        exact d_cvs h he ho hs hd hy hv
      · simp at hst
    · rename_i e hs hd
      split at hres
      · rename_i hu8
        obtain ⟨y, hy, rfl⟩ := map1 hres
        simp only [step, newB] at hst
        split at hst
        · rename_i z hv
          split at hst
          · simp only [Option.some.injEq, Prod.mk.injEq] at hst
            obtain ⟨rfl, rfl⟩ := hst
            exact d_s2b h he ho hs hd (kindOf_eq hu8) hy hv
          · simp at hst
        · simp at hst
      · simp at hres
    · rename_i e hs hd
      split at hres
      · rename_i hu8
        obtain ⟨y, hy, rfl⟩ := map1 hres
        simp only [step, Option.bind_eq_some_iff, Option.map_eq_some_iff, Prod.mk.injEq] at hst
        obtain ⟨es, hes, bs, hbs, rfl, rfl⟩ := hst
        exact d_b2s h he ho hs hd (kindOf_eq hu8) hy hes hbs
      · simp at hres
    · simp at hres
  case h_14 f fst caps ho =>   -- makeFunc
    split at hres
    · rename_i hf
      obtain ⟨ys, hys, rfl⟩ := map1 hres
      simp only [step, Option.some.injEq, Prod.mk.injEq] at hst
      obtain ⟨rfl, rfl⟩ := hst
      exact d_mkf h he ho hf hys
    · simp at hres
  case h_15 t x y ho =>   -- makeSlice
    split at hres
    · rename_i e ht
      split at hres
      · rename_i k bb z x' y' hk hb hz hx hy
        split at hres
        · rename_i hc
          simp only [Option.some.injEq] at hres
          subst hres
          simp only [step, newB] at hst
          split at hst
          · rename_i l c e1 e2
            split at hst
            · rename_i hcond
              simp only [Option.some.injEq, Prod.mk.injEq] at hst
              obtain ⟨rfl, rfl⟩ := hst
              exact d_mk h he ho ht hk hc.1 hb hz hc.2 hx hy e1 e2 hcond.1 hcond.2.1 hcond.2.2.1 hcond.2.2.2.1 hcond.2.2.2.2
            · simp at hst
          · simp at hst
        · simp at hres
      · simp at hres
    · simp at hres
  case h_16 t x lo hi ho =>   -- slice
    split at hres
    · rename_i ht
      split at hres
      · rename_i x' lo' hi' hx hlo hhi
        simp only [Option.some.injEq] at hres
        subst hres
        simp only [step] at hst
        split at hst
        · rename_i s hv
          simp only [Option.map_eq_some_iff, Prod.mk.injEq] at hst
          obtain ⟨p, hp, rfl, rfl⟩ := hst
          exact d_slcS h he ho ht hx hlo hhi hv hp
        · simp at hst
      · simp at hres
    · rename_i e ht
      split at hres
      · rename_i k x' lo' hi' hk hx hlo hhi
        split at hres
        · simp only [Option.some.injEq] at hres
          subst hres
          simp only [step] at hst
          split at hst
          · rename_i q hv
            simp only [Option.map_eq_some_iff, Prod.mk.injEq] at hst
            obtain ⟨p, hp, rfl, rfl⟩ := hst
            exact d_slc h he ho ht hk hx hlo hhi (.inl ⟨q, hv, hp, rfl⟩)
          · rename_i k' es hv
            split at hst
            · rename_i hk'
              subst hk'
              simp only [Option.map_eq_some_iff, Prod.mk.injEq] at hst
              obtain ⟨p, hp, rfl, rfl⟩ := hst
              exact d_slc h he ho ht hk hx hlo hhi (.inr (.inl ⟨es, hv, hp, rfl⟩))
            · simp at hst
          · rename_i r k' off len hv
            split at hst
            · rename_i k'' es hg
              split at hst
              · rename_i hkk
                obtain ⟨rfl, rfl⟩ := hkk
                simp only [Option.map_eq_some_iff, Prod.mk.injEq] at hst
                obtain ⟨p, hp, rfl, rfl⟩ := hst
                exact d_slc h he ho ht hk hx hlo hhi (.inr (.inr ⟨r, off, len, hv, hp, ⟨es, hg⟩, rfl⟩))
              · simp at hst
            · simp at hst
          · simp at hst
        · simp at hres
      · simp at hres
    · simp at hres
  case h_17 s x i ho =>   -- fieldAddr
    split at hres
    · rename_i fs ht
      split at hres
      · rename_i f y hf hy
        split at hres
        · rename_i hc
          simp only [Option.some.injEq] at hres
          subst hres
          obtain ⟨n, hn⟩ := Option.isSome_iff_exists.1 hc.2
          have hn0 : n ≠ 0 := by intro e; subst e; exact hc.1 hn
          simp only [step] at hst
          split at hst
          · rename_i r k i' o' hv
            simp only [Option.some.injEq, Prod.mk.injEq] at hst
            obtain ⟨rfl, rfl⟩ := hst
            exact d_fa h he ho ht hf hn hn0 hy (.inl ⟨_, _, _, _, hv, rfl⟩)
          · rename_i c o' hv
            simp only [Option.some.injEq, Prod.mk.injEq] at hst
            obtain ⟨rfl, rfl⟩ := hst
            exact d_fa h he ho ht hf hn hn0 hy (.inr ⟨_, _, hv, rfl⟩)
          · simp at hst
        · simp at hres
      · simp at hres
    · simp at hres
  case h_18 s x i ho =>   -- field
    split at hres
    · rename_i fs ht
      split at hres
      · rename_i f y hf hy
        split at hres
        · rename_i n g hn hg
          split at hres
          · rename_i hc
            simp only [Option.some.injEq] at hres
            subst hres
            simp only [step] at hst
            split at hst
            · rename_i cs hv
              split at hst
              · rename_i hl
                simp only [Option.map_eq_some_iff, Prod.mk.injEq] at hst
                obtain ⟨z, hz, rfl, rfl⟩ := hst
                exact d_fl h he ho ht hf hn hg hc.2 hy hv hl hz
              · simp at hst
            · simp at hst
          · simp at hres
        · simp at hres
      · simp at hres
    · simp at hres
  case h_19 t x i ho =>   -- indexAddr
    split at hres
    · rename_i e ht
      split at hres
      · rename_i k x' i' hk hx hi
        split at hres
        · simp only [Option.some.injEq] at hres
          subst hres
          simp only [step] at hst
          split at hst
          · rename_i r k' off len q n hv hn
            split at hst
            · rename_i k'' es hg
              split at hst
              · rename_i hc
                obtain ⟨rfl, rfl, h0, hl⟩ := hc
                simp only [Option.some.injEq, Prod.mk.injEq] at hst
                obtain ⟨rfl, rfl⟩ := hst
                exact d_ia h he ho ht hk hx hi hn h0 (.inl ⟨r, off, len, hv, hl, ⟨es, hg⟩, rfl⟩)
              · simp at hst
            · simp at hst
          · rename_i k' es q n hv hn
            split at hst
            · rename_i hc
              obtain ⟨rfl, h0, hl⟩ := hc
              simp only [Option.some.injEq, Prod.mk.injEq] at hst
              obtain ⟨rfl, rfl⟩ := hst
              exact d_ia h he ho ht hk hx hi hn h0 (.inr ⟨es, hv, hl, rfl⟩)
            · simp at hst
          · simp at hst
        · simp at hres
      · simp at hres
    · simp at hres
  case h_20 t x i ho =>   -- index
    split at hres
    · rename_i ht
      split at hres
      · rename_i x' i' hx hi
        simp only [Option.some.injEq] at hres
        subst hres
        simp only [step] at hst
        split at hst
        · rename_i s k n hv hn
          split at hst
          · rename_i hc
            simp only [Option.some.injEq, Prod.mk.injEq] at hst
            obtain ⟨rfl, rfl⟩ := hst
            exact d_ix h he ho ht hx hi hv hn hc
          · simp at hst
        · simp at hst
      · simp at hres
    · simp at hres
  case h_21 x i ho =>   -- extract
    obtain ⟨y, hy, rfl⟩ := map1 hres
    simp only [step] at hst
    split at hst
    · rename_i vs hv
      simp only [Option.map_eq_some_iff, Prod.mk.injEq] at hst
      obtain ⟨z, hz, rfl, rfl⟩ := hst
      exact d_ex h he ho hy hv hz
    · simp at hst
  case h_22 c ho =>   -- call
    split at hres
    · obtain ⟨ys, hys, rfl⟩ := map1 hres
      simp [step] at hst
    · obtain ⟨ys, hys, rfl⟩ := map1 hres
      simp [step] at hst
    · rename_i hc
      split at hres
      · rename_i t u x y hts hxs
        split at hres
        · rename_i e e' ht hu
          split at hres
          · rename_i k k' bb ks x' y' hk hk' hb hks hx hy
            split at hres
            · rename_i hcond
              simp only [Option.some.injEq] at hres
              subst hres
              exact d_app h he ho hc hts hxs ht ⟨_, hu, by simp⟩ hk hcond.1 hb hcond.2.1 hcond.2.2.2 hx hy hst
            · simp at hres
          · simp at hres
        · rename_i e ht hu
          split at hres
          · rename_i bb x' y' hk hb hx hy
            split at hres
            · rename_i hcond
              simp only [Option.some.injEq] at hres
              subst hres
              exact d_app h he ho hc hts hxs ht ⟨_, hu, by simp⟩ hk (by simp) hb hcond.1 hcond.2 hx hy hst
            · simp at hres
          · simp at hres
        · simp at hres
      · simp at hres
    · rename_i hc
      split at hres
      · rename_i t x hts hxs
        split at hres
        · rename_i ht
          obtain ⟨y, hy, rfl⟩ := map1 hres
          simp only [step] at hst
          split at hst
          · rename_i s hv
            simp only [Option.some.injEq, Prod.mk.injEq] at hst
            obtain ⟨rfl, rfl⟩ := hst
            exact d_len h he ho hc hts hxs hy (.inl ⟨s, hv, ht, rfl⟩)
          · simp at hst
        · rename_i e ht
          obtain ⟨y, hy, rfl⟩ := map1 hres
          simp only [step] at hst
          split at hst
          · rename_i k hv
            simp only [Option.some.injEq, Prod.mk.injEq] at hst
            obtain ⟨rfl, rfl⟩ := hst
            exact d_len (n := 0) h he ho hc hts hxs hy (.inr ⟨e, ht, .inl ⟨k, hv, rfl⟩⟩)
          · rename_i k es hv
            simp only [Option.some.injEq, Prod.mk.injEq] at hst
            obtain ⟨rfl, rfl⟩ := hst
            exact d_len h he ho hc hts hxs hy (.inr ⟨e, ht, .inr (.inl ⟨k, es, hv, rfl⟩)⟩)
          · rename_i r k off len hv
            simp only [Option.some.injEq, Prod.mk.injEq] at hst
            obtain ⟨rfl, rfl⟩ := hst
            exact d_len h he ho hc hts hxs hy (.inr ⟨e, ht, .inr (.inr ⟨r, k, off, len, hv, rfl⟩)⟩)
          · simp at hst
        · simp at hres
      · simp at hres
    · rename_i hc
      obtain ⟨ys, hys, rfl⟩ := map1 hres
      cases ys with
      | nil => simp [step] at hst
      | cons y ys =>
        simp only [step] at hst
        split at hst
        · rename_i k n hv
          simp only [Option.map_eq_some_iff, Prod.mk.injEq] at hst
          obtain ⟨z, hz, rfl, rfl⟩ := hst
          exact d_mx h he true ho hc hys hv hz
        · simp at hst
    · rename_i hc
      obtain ⟨ys, hys, rfl⟩ := map1 hres
      cases ys with
      | nil => simp [step] at hst
      | cons y ys =>
        simp only [step] at hst
        split at hst
        · rename_i k n hv
          simp only [Option.map_eq_some_iff, Prod.mk.injEq] at hst
          obtain ⟨z, hz, rfl, rfl⟩ := hst
          exact d_mx h he false ho hc hys hv hz
        · simp at hst
    · simp at hres
  case h_23 => simp at hres
end
end Go.Proofs.Ytldmpjoddghdkaa.AI
