import Derived.Test.YtldmpjoddghdkaaARunF
namespace Go.Proofs.Ytldmpjoddghdkaa.AI
set_option linter.all false
open Go.RowKit
set_option autoImplicit false
set_option linter.unusedVariables false
set_option linter.unusedSimpArgs false
variable [Tabs]
section
variable {P : Program} {RO RO' : Bx} {ctx : Ctx} {w : World}
theorem Rd_scal {R : Rf} {nx : Nat} {L : Lf} {c : AV} (h : scal c = true) {x : Value} (hv : V RO w R nx L c x) : Rd RO' w c x := by
  cases c <;> simp [scal] at h <;> simp only [V, Rd] at hv ⊢ <;> exact hv
theorem V_of_Rd {R : Rf} {nx : Nat} {L : Lf} {c : AV} {x : Value} (h : Rd RO w c x) : V RO w R nx L c x := by
  cases c <;> first | (simp only [V]; exact h) | (simp [Rd] at h)
theorem Rd_of_V {R : Rf} {nx : Nat} {L : Lf} {c : AV} {x : Value} (h : rdOk c = true) (hv : V RO w R nx L c x) : Rd RO w c x := by
  cases c <;> first | (simp only [V] at hv; exact hv) | (simp [rdOk] at h)
mutual
theorem V_noRef {R R' : Rf} {nx nx' : Nat} {L L' : Lf} : ∀ (v : AV) (x : Value), noRef v = true → V RO w R nx L v x → V RO w R' nx' L' v x
  | .dead, _, h, _ => by simp [noRef] at h
  | .gone, x, h, _ => by simp [noRef] at h
  | .nil k, x, _, hx => by simpa [V] using hx
  | .sl r k off len, x, h, hx => by simp [noRef] at h
  | .ptr r k idx off, x, h, hx => by simp [noRef] at h
  | .agg cs, x, h, hx => by
    simp only [noRef] at h
    simp only [V] at hx ⊢
    obtain ⟨vs, h1, h2⟩ := hx
    exact ⟨vs, h1, VL_noRef cs vs.toList h h2⟩
  | .tup cs, x, h, hx => by
    simp only [noRef] at h
    simp only [V] at hx ⊢
    obtain ⟨vs, h1, h2⟩ := hx
    exact ⟨vs, h1, VL_noRef cs vs.toList h h2⟩
  | .fn f cs, x, h, hx => by
    simp only [noRef] at h
    simp only [V] at hx ⊢
    obtain ⟨vs, h1, h2⟩ := hx
    exact ⟨vs, h1, VL_noRef cs vs.toList h h2⟩
  | .bool b, x, _, hx => by simp only [V] at hx ⊢; exact hx
  | .int k n, x, _, hx => by simp only [V] at hx ⊢; exact hx
  | .str s, x, _, hx => by simp only [V] at hx ⊢; exact hx
  | .pnil, x, _, hx => by simp only [V] at hx ⊢; exact hx
  | .inil, x, _, hx => by simp only [V] at hx ⊢; exact hx
  | .fnil, x, _, hx => by simp only [V] at hx ⊢; exact hx
  | .tree k es, x, _, hx => by simp only [V] at hx ⊢; exact hx
  | .rp c o, x, _, hx => by simp only [V] at hx ⊢; exact hx
theorem VL_noRef {R R' : Rf} {nx nx' : Nat} {L L' : Lf} : ∀ (cs : List AV) (vs : List Value), noRefL cs = true → VL RO w R nx L cs vs → VL RO w R' nx' L' cs vs
  | [], [], _, _ => by simp [VL]
  | c :: cs, v :: vs, h, hx => by
    simp only [noRefL, Bool.and_eq_true] at h
    simp only [VL] at hx ⊢
    exact ⟨V_noRef c v h.1 hx.1, VL_noRef cs vs h.2 hx.2⟩
  | [], _ :: _, _, hx => by simp [VL] at hx
  | _ :: _, [], _, hx => by simp [VL] at hx
end
theorem solid_mem : ∀ {es : List (List AV)}, solid es = true → ∀ e ∈ es, ∀ c ∈ e, scal c = true ∨ ∃ k es', c = .tree k es'
  | [], _, e, he => by simp at he
  | e0 :: es, h, e, he => by
    simp only [solid, Bool.and_eq_true, List.all_eq_true] at h
    simp only [List.mem_cons] at he
    intro c hc
    rcases he with rfl | he
    · have := h.1 c hc
      split at this
      · exact .inr ⟨_, _, rfl⟩
      · exact .inl this
    · exact solid_mem h.2 e he c hc
theorem getD_of_get {α : Type} {l : List α} {i : Nat} {x d : α} (h : l[i]? = some x) : l.getD i d = x := by simp [List.getD_eq_getElem?_getD, h]
theorem flat_RdE {R : Rf} {nx : Nat} {L : Lf} (h : HRel RO w R nx L) (hall : ∀ B, B < w.heap.size → RO'.rd B) {r : Nat} {p : Option (Nat × Nat)} {bx : Bool} {k : Nat} {es : List (List AV)} (hr : row R r p = some (false, k, es)) (hf : flat es = true) {b o T : Nat} (hL : L r p = some (b, o, T)) : RO'.rd b ∧ RdE RO' w k b o es := by
  have hrow := h.rows _ _ _ _ _ hr
  obtain ⟨h1, h2, h3, h4⟩ := hrow.yes _ _ _ hL
  refine ⟨hall _ h2.lt, RdE.mk es o fun i e he => ⟨hrow.shape e (List.mem_of_getElem? he), RdC.mk e _ fun j c hc => ?_⟩⟩
  have hi : i < es.length := (List.getElem?_eq_some_iff.1 he).1
  have hj : j < k := by rw [← hrow.shape e (List.mem_of_getElem? he)]; exact (List.getElem?_eq_some_iff.1 hc).1
  obtain ⟨v, h5, h6⟩ := h4 i j hi hj
  have hce : cellAt es i j = c := by unfold cellAt; rw [getD_of_get he, getD_of_get hc]
  have hs : scal c = true := flat_iff.1 hf e (List.mem_of_getElem? he) c (List.mem_of_getElem? hc)
  rw [hce, Cl.other (scal_not_tree hs)] at h6
  exact ⟨v, h5, Rd_scal hs h6⟩
theorem cell_Rd {R : Rf} {nx : Nat} {L : Lf} (h : HRel RO w R nx L) (hall : ∀ B, B < w.heap.size → RO'.rd B) {r : Nat} {p : Option (Nat × Nat)} {k : Nat} {es : List (List AV)} (hr : row R r p = some (false, k, es)) (hs : solid es = true) {i j : Nat} {e : List AV} {c : AV} (he : es[i]? = some e) (hc : e[j]? = some c) {v : Value} (hv : Cl RO w R nx L r false i j c v) : Rd RO' w c v := by
  have hrow := h.rows _ _ _ _ _ hr
  have hi : i < es.length := (List.getElem?_eq_some_iff.1 he).1
  have hj : j < k := by rw [← hrow.shape e (List.mem_of_getElem? he)]; exact (List.getElem?_eq_some_iff.1 hc).1
  have hce : cellAt es i j = c := by unfold cellAt; rw [getD_of_get he, getD_of_get hc]
  rcases solid_mem hs e (List.mem_of_getElem? he) c (List.mem_of_getElem? hc) with hsc | ⟨k', es', rfl⟩
  · rw [Cl.other (scal_not_tree hsc)] at hv
    exact Rd_scal hsc hv
  · have hok := hrow.cells rfl i j hi hj
    rw [hce] at hok
    obtain ⟨rfl, hfl⟩ := hok
    simp only [Cl] at hv
    obtain ⟨A, cap, h5, h6, h7⟩ := hv
    simp only [Rd]
    refine ⟨A, cap, h5, h6, ?_⟩
    rcases h7 with h7 | ⟨b', o', T', h7, h8, h9⟩
    · left
      have : es'.length = 0 := by omega
      exact List.length_eq_zero_iff.1 this
    · right
      obtain ⟨b0, hb0⟩ := row_some hr
      have hr0 := hr
      rw [row_root hb0] at hr0
      simp only [Option.some.injEq, Prod.mk.injEq] at hr0
      obtain ⟨e1, e2, e3⟩ := hr0
      have hr' : row R r (some (i, j)) = some (false, k', es') := by
        rw [row_cell_iff hb0]
        exact ⟨e1, rfl, by rw [e3]; exact hce⟩
      obtain ⟨h10, h11⟩ := flat_RdE (bx := false) h hall hr' hfl h7
      exact ⟨b', o', h8, h10, h11⟩
theorem seg_get' {es : List (List AV)} {off n i : Nat} {e : List AV} (h : (seg es off n)[i]? = some e) : es[off + i]? = some e ∧ i < n := by
  unfold seg at h
  rw [List.getElem?_take] at h
  split at h
  · rename_i hj
    rw [List.getElem?_drop] at h
    exact ⟨h, hj⟩
  · simp at h
theorem mapO_V {R R' : Rf} {nx nx' : Nat} {L L' : Lf} {f : AV → Option AV} : ∀ (vs ps : List AV) (xs : List Value), (∀ v p x, v ∈ vs → f v = some p → V RO w R nx L v x → V RO' w R' nx' L' p x) → mapO f vs = some ps → VL RO w R nx L vs xs → VL RO' w R' nx' L' ps xs
  | [], ps, xs, _, hm, hx => by
    simp only [mapO, Option.some.injEq] at hm
    subst hm
    cases xs <;> simp [VL] at hx ⊢
  | v :: vs, ps, xs, hf, hm, hx => by
    simp only [mapO] at hm
    split at hm
    · rename_i p hp
      split at hm
      · rename_i ps' hps
        simp only [Option.some.injEq] at hm
        subst hm
        match xs, hx with
        | x :: xs, hx =>
          simp only [VL] at hx ⊢
          exact ⟨hf v p x (by simp) hp hx.1, mapO_V vs ps' xs (fun v p x hv => hf v p x (by simp [hv])) hps hx.2⟩
        | [], hx => simp [VL] at hx
      · simp at hm
    · simp at hm
theorem noRef_mem : ∀ {vs : List AV}, noRefL vs = true → ∀ v ∈ vs, noRef v = true
  | [], _, v, hv => by simp at hv
  | c :: cs, h, v, hv => by
    simp only [noRefL, Bool.and_eq_true] at h
    simp only [List.mem_cons] at hv
    rcases hv with rfl | hv
    · exact h.1
    · exact noRef_mem h.2 v hv
theorem packR_V {hp : Hp} {L : Lf} (h : HRel RO w (root? hp) hp.length L) (hin : ∀ B, RO.rd B → RO'.rd B) {R' : Rf} {nx' : Nat} {L' : Lf} : ∀ (n : Nat) (v p : AV) (x : Value), (noRef v = true ∨ ∀ B, B < w.heap.size → RO'.rd B) → packR n hp v = some p → V RO w (root? hp) hp.length L v x → V RO' w R' nx' L' p x
  | 0, v, p, x, _, hp', _ => by simp [packR] at hp'
  | n + 1, v, p, x, hown, hp', hx => by
    have list : ∀ (cs ps : List AV) (xs : List Value), (noRefL cs = true ∨ ∀ B, B < w.heap.size → RO'.rd B) → mapO (packR n hp) cs = some ps → VL RO w (root? hp) hp.length L cs xs → VL RO' w R' nx' L' ps xs := by
      intro cs ps xs ho hm hxs
      refine mapO_V cs ps xs (fun v p x hv hp1 hx1 => packR_V h hin n v p x ?_ hp1 hx1) hm hxs
      rcases ho with ho | ho
      · exact .inl (noRef_mem ho v hv)
      · exact .inr ho
    unfold packR at hp'
    split at hp'
    · simp at hp'
    · simp at hp'
    · rename_i k
      simp only [Option.some.injEq] at hp'
      subst hp'
      simp only [V] at hx ⊢
      subst hx
      simp only [Rd]
      exact ⟨none, 0, rfl, Nat.le_refl _, by simp⟩
    · rename_i r k off len
      have hall : ∀ B, B < w.heap.size → RO'.rd B := by
        rcases hown with ho | ho
        · simp [noRef] at ho
        · exact ho
      split at hp'
      · rename_i es hes
        split at hp'
        · rename_i hc
          obtain ⟨hs, hlen⟩ := hc
          simp only [Option.some.injEq] at hp'
          subst hp'
          simp only [elems] at hes
          split at hes
          · rename_i k'' es0 hr
            split at hes
            · rename_i hk
              obtain ⟨_, rfl⟩ := hk
              simp only [Option.some.injEq] at hes
              simp only [V] at hx ⊢
              obtain ⟨_, _, _, h3⟩ := hx
              obtain ⟨h4, A, cap, h5, h6, h7⟩ := h3 es0 hr
              simp only [Rd]
              refine ⟨A, cap, by rw [hlen]; exact h5, by rw [hlen]; exact h6, ?_⟩
              rcases h7 with h7 | ⟨b, o, T, h7, h8, h9⟩
              · left
                exact List.length_eq_zero_iff.1 (by omega)
              · right
                have hrow0 := getB_row hr
                have hrow := h.rows _ _ _ _ _ hrow0
                obtain ⟨h10, h11, h12, h13⟩ := hrow.yes _ _ _ h7
                refine ⟨b, o + off * k'', h8, hall _ h11.lt, RdE.mk es _ fun i e he => ?_⟩
                rw [← hes] at he
                obtain ⟨he1, hi1⟩ := seg_get' he
                refine ⟨hrow.shape e (List.mem_of_getElem? he1), RdC.mk e _ fun j c hc => ?_⟩
                have hi : off + i < es0.length := (List.getElem?_eq_some_iff.1 he1).1
                have hj : j < k'' := by rw [← hrow.shape e (List.mem_of_getElem? he1)]; exact (List.getElem?_eq_some_iff.1 hc).1
                obtain ⟨v, h14, h15⟩ := h13 (off + i) j hi hj
                have hce : cellAt es0 (off + i) j = c := by unfold cellAt; rw [getD_of_get he1, getD_of_get hc]
                rw [hce] at h15
                refine ⟨v, by rw [← h14]; congr 2; rw [Nat.add_mul]; omega, ?_⟩
                have he' : es[i]? = some e := by rw [← hes]; exact he
                rcases solid_mem hs e (List.mem_of_getElem? he') c (List.mem_of_getElem? hc) with hsc | ⟨k', es', rfl⟩
                · rw [Cl.other (scal_not_tree hsc)] at h15
                  exact Rd_scal hsc h15
                · have hok := hrow.cells rfl (off + i) j hi hj
                  rw [hce] at hok
                  obtain ⟨hpn, hfl⟩ := hok
                  simp only [Cl] at h15
                  obtain ⟨A', cap', h16, h17, h18⟩ := h15
                  simp only [Rd]
                  refine ⟨A', cap', h16, h17, ?_⟩
                  rcases h18 with h18 | ⟨b', o', T', h18, h19, h20⟩
                  · left
                    exact List.length_eq_zero_iff.1 (by omega)
                  · right
                    obtain ⟨b0, hb0⟩ := row_some hrow0
                    rw [hpn, row_root hb0] at hrow0
                    simp only [Option.some.injEq, Prod.mk.injEq] at hrow0
                    obtain ⟨e1, e2, e3⟩ := hrow0
                    have hr' : row (root? hp) r.root (some (off + i, j)) = some (false, k', es') := by
                      rw [row_cell_iff hb0]
                      exact ⟨e1, rfl, by rw [e3]; exact hce⟩
                    obtain ⟨h21, h22⟩ := flat_RdE (bx := false) h hall hr' hfl h18
                    exact ⟨b', o', h19, h21, h22⟩
            · simp at hes
          · simp at hes
        · simp at hp'
      · simp at hp'
    · rename_i r k idx off
      have hall : ∀ B, B < w.heap.size → RO'.rd B := by
        rcases hown with ho | ho
        · simp [noRef] at ho
        · exact ho
      split at hp'
      · rename_i bx k' es hr
        split at hp'
        · rename_i hc
          obtain ⟨rfl, hi⟩ := hc
          split at hp'
          · rename_i cs hcs
            split at hp'
            · rename_i hrd
              simp only [Option.some.injEq] at hp'
              subst hp'
              simp only [V] at hx ⊢
              obtain ⟨_, _, _, h3⟩ := hx
              obtain ⟨b, o, T, h4, h5⟩ := h3 bx es hr hi
              have hrow0 := getB_row hr
              have hrow := h.rows _ _ _ _ _ hrow0
              obtain ⟨h10, h11, h12, h13⟩ := hrow.yes _ _ _ h4
              simp only [Rd]
              refine ⟨b, o + idx * k', h5, hall _ h11.lt, RdC.mk cs _ fun j c hc => ?_⟩
              have hle := shape_getD hrow.shape hi
              have hei : es[idx]? = some (es.getD idx []) := by simp [List.getD_eq_getElem?_getD, hi]
              cases bx with
              | false =>
                simp only [Bool.false_eq_true, if_false] at hcs
                split at hcs
                · rename_i hs
                  simp only [Option.some.injEq] at hcs
                  subst hcs
                  have hj : j < k' := by rw [← hle]; exact (List.getElem?_eq_some_iff.1 hc).1
                  obtain ⟨v, h14, h15⟩ := h13 idx j hi hj
                  have hce : cellAt es idx j = c := by unfold cellAt; rw [getD_of_get hc]
                  rw [hce] at h15
                  refine ⟨v, h14, ?_⟩
                  by_cases hpn : r.path = none
                  · rw [hpn] at hrow0
                    exact cell_Rd h hall hrow0 hs hei hc h15
                  · rcases solid_mem hs _ (List.mem_of_getElem? hei) c (List.mem_of_getElem? hc) with hsc | ⟨k2, es2, rfl⟩
                    · rw [Cl.other (scal_not_tree hsc)] at h15
                      exact Rd_scal hsc h15
                    · have hok := hrow.cells rfl idx j hi hj
                      rw [hce] at hok
                      exact absurd hok.1 hpn
                · simp at hcs
              | true =>
                simp only [if_true] at hcs
                have hget : ∀ (l ps : List AV) (j : Nat) (c : AV), mapO (packR n hp) l = some ps → ps[j]? = some c → ∃ d, l[j]? = some d ∧ packR n hp d = some c := by
                  intro l
                  induction l with
                  | nil => intro ps j c hm hg; simp only [mapO, Option.some.injEq] at hm; subst hm; simp at hg
                  | cons d l ih =>
                    intro ps j c hm hg
                    simp only [mapO] at hm
                    split at hm
                    · rename_i p hp1
                      split at hm
                      · rename_i ps' hps
                        simp only [Option.some.injEq] at hm
                        subst hm
                        cases j with
                        | zero => simp at hg; subst hg; exact ⟨d, by simp, hp1⟩
                        | succ j =>
                          obtain ⟨d', h1, h2⟩ := ih ps' j c hps (by simpa using hg)
                          exact ⟨d', by simpa using h1, h2⟩
                      · simp at hm
                    · simp at hm
                obtain ⟨d, hd, hpd⟩ := hget _ _ _ _ hcs hc
                have hj : j < k' := by rw [← hle]; exact (List.getElem?_eq_some_iff.1 hd).1
                obtain ⟨v, h14, h15⟩ := h13 idx j hi hj
                have hce : cellAt es idx j = d := by unfold cellAt; rw [getD_of_get hd]
                rw [hce, Cl.box] at h15
                refine ⟨v, h14, ?_⟩
                have hV := packR_V (R' := R') (nx' := nx') (L' := L') h hin n d c v (.inr hall) hpd h15
                exact Rd_of_V (List.all_eq_true.1 hrd c (List.mem_of_getElem? hc)) hV
            · simp at hp'
          · simp at hp'
        · simp at hp'
      · simp at hp'
    · rename_i cs
      simp only [Option.map_eq_some_iff] at hp'
      obtain ⟨ps, hps, rfl⟩ := hp'
      simp only [V] at hx ⊢
      obtain ⟨vs, e, hvs⟩ := hx
      exact ⟨vs, e, list cs ps _ (by simpa only [noRef] using hown) hps hvs⟩
    · rename_i cs
      simp only [Option.map_eq_some_iff] at hp'
      obtain ⟨ps, hps, rfl⟩ := hp'
      simp only [V] at hx ⊢
      obtain ⟨vs, e, hvs⟩ := hx
      exact ⟨vs, e, list cs ps _ (by simpa only [noRef] using hown) hps hvs⟩
    · rename_i f cs
      simp only [Option.map_eq_some_iff] at hp'
      obtain ⟨ps, hps, rfl⟩ := hp'
      simp only [V] at hx ⊢
      obtain ⟨vs, e, hvs⟩ := hx
      exact ⟨vs, e, list cs ps _ (by simpa only [noRef] using hown) hps hvs⟩
    · rename_i v h1 h2 h3 h4 h5 h6 h7 h8
      simp only [Option.some.injEq] at hp'
      subst hp'
      have hx' := V_more (RO' := RO') hin _ _ hx
      cases v <;> first | (exact absurd rfl h1) | (exact absurd rfl h2) | (exact absurd rfl (h3 _)) | (exact absurd rfl (h4 _ _ _ _)) | (exact absurd rfl (h5 _ _ _ _)) | (exact absurd rfl (h6 _)) | (exact absurd rfl (h7 _)) | (exact absurd rfl (h8 _ _)) | (exact V_noRef _ _ (by simp [noRef]) hx')
def Apart (R : Rf) (L : Lf) (Rc : Rf) (Lc : Lf) : Prop := ∀ r p x b o T r' p' x' o' T', row R r p = some x → L r p = some (b, o, T) → row Rc r' p' = some x' → Lc r' p' = some (b, o', T') → False
theorem Apart.drop {R : Rf} {L : Lf} {Rc : Rf} {Lc : Lf} (h : Apart R L Rc Lc) (q : Nat) : Apart R L (upd Rc q none) Lc := by
  intro r p x b o T r' p' x' o' T' h1 h2 h3 h4
  by_cases e : r' = q
  · subst e; rw [row_none (by simp)] at h3; simp at h3
  · rw [row_congr (upd_ne _ _ e)] at h3
    exact h r p x b o T r' p' x' o' T' h1 h2 h3 h4
theorem HRel.move (hpr : ∀ B, RO.pr B → RO'.pr B) {Rc : Rf} {nc : Nat} {Lc : Lf} (hc : HRel RO' w Rc nc Lc) {hp : Hp} {L : Lf} (h : HRel RO w (root? hp) hp.length L) (ha : Apart (root? hp) L Rc Lc) {q : Nat} {b0 : Blk} (hb : Rc q = some b0) (hbox : b0.box = false) :
    HRel RO w (upd (root? hp) hp.length (some ⟨false, 0, b0.k, b0.es⟩)) (hp.length + 1) (fun r p => if r = hp.length then Lc q p else L r p) ∧
    Pres (root? hp) hp.length L (upd (root? hp) hp.length (some ⟨false, 0, b0.k, b0.es⟩)) (hp.length + 1) (fun r p => if r = hp.length then Lc q p else L r p) ∧
    Apart (upd (root? hp) hp.length (some ⟨false, 0, b0.k, b0.es⟩)) (fun r p => if r = hp.length then Lc q p else L r p) (upd Rc q none) Lc := by
  have hrow : ∀ p, row (upd (root? hp) hp.length (some ⟨false, 0, b0.k, b0.es⟩)) hp.length p = row Rc q p := by
    intro p
    unfold row
    simp only [upd_same, hb, hbox]
  have hj := h.join (n := hp.length) (nx' := hp.length + 1) (Nat.le_refl _) (Nat.lt_succ_self _) ⟨false, 0, b0.k, b0.es⟩ (fun p => Lc q p) (fun p bx k es hr => ?_) (fun p x p' x' b o T o' T' h1 h2 h3 h4 => ?_) (fun p x b o T h1 h2 r p1 x1 o1 T1 h3 h4 => ?_)
  · refine ⟨hj.1, hj.2, ?_⟩
    intro r p x b o T r' p' x' o' T' h1 h2 h3 h4
    have hne : r' ≠ q := by
      intro e; subst e; rw [row_none (by simp)] at h3; simp at h3
    rw [row_congr (upd_ne _ _ hne)] at h3
    by_cases e : r = hp.length
    · subst e
      simp only [if_true] at h2
      rw [hrow] at h1
      exact hne (hc.inj _ _ _ _ _ _ _ _ _ _ _ h3 h1 h4 h2).1
    · rw [row_congr (upd_ne _ _ e)] at h1
      simp only [e, if_false] at h2
      exact ha r p x b o T r' p' x' o' T' h1 h2 h3 h4
  · rw [hrow] at hr
    have h0 := hc.rows _ _ _ _ _ hr
    have hbx : bx = false := by
      cases p with
      | none => rw [row_root hb] at hr; simp only [Option.some.injEq, Prod.mk.injEq] at hr; rw [← hr.1]; exact hbox
      | some ij => rw [row_cell_iff hb] at hr; exact hr.2.1
    subst hbx
    refine ⟨h0.shape, h0.cells, by simpa using h0.no, fun b o T hL => ?_⟩
    simp only [if_true] at hL
    obtain ⟨h1, h2, h3, h4⟩ := h0.yes b o T hL
    refine ⟨fun e => h1 (hpr _ e), h2, h3, fun i j hi hj => ?_⟩
    obtain ⟨v, h5, h6⟩ := h4 i j hi hj
    refine ⟨v, h5, ?_⟩
    have hok := h0.cells rfl i j hi hj
    generalize cellAt es i j = c at h6 hok
    by_cases ht : ∃ k es', c = .tree k es'
    · obtain ⟨k', es', rfl⟩ := ht
      simp only [Cl, if_true] at h6 ⊢
      exact h6
    · have hno : ∀ k es', c ≠ .tree k es' := fun k es' e => ht ⟨k, es', e⟩
      rw [Cl.other hno] at h6 ⊢
      by_cases hd : c = .dead
      · subst hd; simp [V]
      · have hs : scal c = true := by cases c <;> simp_all [cellOk]
        exact V_of_Rd (Rd_scal hs h6)
  · rw [hrow] at h1 h2
    exact (hc.inj _ _ _ _ _ _ _ _ _ _ _ h1 h2 h3 h4).2
  · rw [hrow] at h1
    exact ha r p1 x1 b o1 T1 q p x o T h3 h4 h1 h2
theorem flat_seg {es : List (List AV)} (h : flat es = true) (off n : Nat) : flat (seg es off n) = true := by
  rw [flat_iff] at h ⊢
  intro e he
  unfold seg at he
  exact h e (List.mem_of_mem_drop (List.mem_of_mem_take he))
theorem HRel.moveS (hpr : ∀ B, RO.pr B → RO'.pr B) {Rc : Rf} {nc : Nat} {Lc : Lf} (hc : HRel RO' w Rc nc Lc) {hp : Hp} {L : Lf} (h : HRel RO w (root? hp) hp.length L) (ha : Apart (root? hp) L Rc Lc) {q : Nat} {b0 : Blk} (hb : Rc q = some b0) (hbox : b0.box = false) (hf : flat b0.es = true) {off len : Nat} (hlen : off + len ≤ b0.es.length) :
    HRel RO w (upd (root? hp) hp.length (some ⟨false, 0, b0.k, seg b0.es off len⟩)) (hp.length + 1) (fun r p => if r = hp.length then (if p = none then (Lc q none).map fun y => (y.1, y.2.1 + off * b0.k, y.2.2 - off * b0.k) else none) else L r p) ∧
    Pres (root? hp) hp.length L (upd (root? hp) hp.length (some ⟨false, 0, b0.k, seg b0.es off len⟩)) (hp.length + 1) (fun r p => if r = hp.length then (if p = none then (Lc q none).map fun y => (y.1, y.2.1 + off * b0.k, y.2.2 - off * b0.k) else none) else L r p) ∧
    Apart (upd (root? hp) hp.length (some ⟨false, 0, b0.k, seg b0.es off len⟩)) (fun r p => if r = hp.length then (if p = none then (Lc q none).map fun y => (y.1, y.2.1 + off * b0.k, y.2.2 - off * b0.k) else none) else L r p) (upd Rc q none) Lc := by
  have hrow0 : row Rc q none = some (false, b0.k, b0.es) := by rw [row_root hb, hbox]
  have h0 := hc.rows _ _ _ _ _ hrow0
  have hself : upd (root? hp) hp.length (some ⟨false, 0, b0.k, seg b0.es off len⟩) hp.length = some ⟨false, 0, b0.k, seg b0.es off len⟩ := by simp
  have hmem : ∀ e ∈ seg b0.es off len, e ∈ b0.es := fun e he => List.mem_of_mem_drop (List.mem_of_mem_take he)
  have hsh : ∀ e ∈ seg b0.es off len, e.length = b0.k := fun e he => h0.shape e (hmem e he)
  have hnone : ∀ p x, row (upd (root? hp) hp.length (some ⟨false, 0, b0.k, seg b0.es off len⟩)) hp.length p = some x → p = none := by
    intro p x hx
    cases p with
    | none => rfl
    | some ij =>
      obtain ⟨i, j⟩ := ij
      obtain ⟨bx, k, es⟩ := x
      rw [row_cell_iff hself] at hx
      have h1 := hx.2.2
      simp only at h1
      exfalso
      by_cases hi : i < (seg b0.es off len).length
      · by_cases hj : j < b0.k
        · exact scal_not_tree (flat_cellAt (flat_seg hf off len) hsh hi hj) _ _ h1
        · unfold cellAt at h1
          rw [getD_out (l := (seg b0.es off len).getD i []) (by rw [shape_getD hsh hi]; exact hj)] at h1
          cases h1
      · unfold cellAt at h1
        rw [getD_out (l := seg b0.es off len) hi] at h1
        simp at h1
  have hj := h.join (n := hp.length) (nx' := hp.length + 1) (Nat.le_refl _) (Nat.lt_succ_self _) ⟨false, 0, b0.k, seg b0.es off len⟩ (fun p => if p = none then (Lc q none).map fun y => (y.1, y.2.1 + off * b0.k, y.2.2 - off * b0.k) else none) (fun p bx k es hr => ?_) (fun p x p' x' b o T o' T' h1 h2 h3 h4 => (hnone _ _ h1).trans (hnone _ _ h2).symm) (fun p x b o T h1 h2 r p1 x1 o1 T1 h3 h4 => ?_)
  · refine ⟨hj.1, hj.2, ?_⟩
    intro r p x b o T r' p' x' o' T' h1 h2 h3 h4
    have hne : r' ≠ q := by
      intro e; subst e; rw [row_none (by simp)] at h3; simp at h3
    rw [row_congr (upd_ne _ _ hne)] at h3
    by_cases e : r = hp.length
    · subst e
      have hp0 := hnone _ _ h1
      subst hp0
      simp only [if_true, Option.map_eq_some_iff, Prod.mk.injEq] at h2
      obtain ⟨y, hy, rfl, _, _⟩ := h2
      exact hne (hc.inj _ _ _ _ _ _ _ _ _ _ _ h3 hrow0 h4 hy).1
    · rw [row_congr (upd_ne _ _ e)] at h1
      simp only [e, if_false] at h2
      exact ha r p x b o T r' p' x' o' T' h1 h2 h3 h4
  · have hp0 := hnone _ _ hr
    subst hp0
    rw [row_root hself] at hr
    simp only [Option.some.injEq, Prod.mk.injEq] at hr
    obtain ⟨rfl, rfl, rfl⟩ := hr
    refine ⟨hsh, fun _ i j hi hj => ?_, fun hL => ?_, fun b o T hL => ?_⟩
    · have := flat_cellAt (flat_seg hf off len) hsh hi hj
      revert this
      cases cellAt (seg b0.es off len) i j <;> simp [scal, cellOk]
    · simp only [if_true, Option.map_eq_none_iff] at hL
      rw [h0.no hL]; simp [seg]
    · simp only [if_true, Option.map_eq_some_iff, Prod.mk.injEq] at hL
      obtain ⟨⟨b1, o1, T1⟩, hy, rfl, rfl, rfl⟩ := hL
      simp only at hy ⊢
      obtain ⟨h1, h2, h3, h4⟩ := h0.yes _ _ _ hy
      have hmul : off * b0.k + len * b0.k ≤ T1 := by
        rw [← Nat.add_mul]
        exact Nat.le_trans (Nat.mul_le_mul_right _ hlen) h3
      refine ⟨fun e => h1 (hpr _ e), ⟨h2.lt, fun i hi => ?_, fun i hi => ?_⟩, ?_, fun i j hi hj => ?_⟩
      · have := h2.cell (off * b0.k + i) (by omega)
        rw [← Nat.add_assoc] at this; exact this
      · have := h2.free (off * b0.k + i) (by omega)
        rw [← Nat.add_assoc] at this; exact this
      · rw [seg_length hlen]; omega
      · rw [seg_length hlen] at hi
        obtain ⟨v, h5, h6⟩ := h4 (off + i) j (by omega) hj
        refine ⟨v, ?_, ?_⟩
        · rw [← h5, Nat.add_mul]; congr 2; omega
        · rw [cellAt_seg hi]
          have hs := flat_cellAt hf h0.shape (i := off + i) (j := j) (by omega) hj
          have hno : ∀ k es', cellAt b0.es (off + i) j ≠ .tree k es' := fun k es' => scal_not_tree hs k es'
          rw [Cl.other hno] at h6 ⊢
          exact V_of_Rd (Rd_scal hs h6)
  · have hp0 := hnone _ _ h1
    subst hp0
    simp only [if_true, Option.map_eq_some_iff, Prod.mk.injEq] at h2
    obtain ⟨y, hy, rfl, _, _⟩ := h2
    exact ha r p1 x1 y.1 o1 T1 q none _ y.2.1 y.2.2 h3 h4 hrow0 hy
structure Hands (RO RO' : Bx) (w : World) (hp : Hp) (L : Lf) (hp' : Hp) (L' : Lf) (hc : Hp) (Lc : Lf) (hc' : Hp) : Prop where
  rel : HRel RO w (root? hp') hp'.length L'
  pres : Pres (root? hp) hp.length L (root? hp') hp'.length L'
  relc : HRel RO' w (root? hc') hc'.length Lc
  presc : Pres (root? hc) hc.length Lc (root? hc') hc'.length Lc
  len : hc'.length = hc.length
  ap : Apart (root? hp') L' (root? hc') Lc
mutual
theorem hand_ok (hpr : ∀ B, RO.pr B → RO'.pr B) : ∀ (v : AV) {hc hc' hp : Hp} {L Lc : Lf} {v' : AV} {x : Value}, HRel RO' w (root? hc) hc.length Lc → HRel RO w (root? hp) hp.length L → Apart (root? hp) L (root? hc) Lc →
    V RO' w (root? hc) hc.length Lc v x → hand v hc = some (v', hc') → ∃ L', Hands RO RO' w hp L (unown v' hp).2 L' hc Lc hc' ∧ V RO w (root? (unown v' hp).2) (unown v' hp).2.length L' (unown v' hp).1 x
  | .sl r k off len, hc, hc', hp, L, Lc, v', x, hrc, hr, ha, hx, hh => by
    simp only [hand] at hh
    split at hh
    · rename_i b0 hpath hb
      split at hh
      · rename_i hcond
      
        obtain ⟨hbox, rfl, rfl, rfl, hs⟩ := hcond
        simp only [Option.some.injEq, Prod.mk.injEq] at hh
        obtain ⟨rfl, rfl⟩ := hh
        obtain ⟨h1, h2, h3⟩ := HRel.move hpr hrc hr ha hb hbox
        obtain ⟨h4, h5⟩ := hrc.drop r.root
        simp only [unown]
        refine ⟨_, ⟨by rw [root_push, List.length_append]; exact h1, by rw [root_push, List.length_append]; exact h2, by rw [root_set _ _ _ (root_lt hb), List.length_set]; exact h4, by rw [root_set _ _ _ (root_lt hb), List.length_set]; exact h5, by simp, by rw [root_push, root_set _ _ _ (root_lt hb)]; exact h3⟩, ?_⟩
        simp only [V] at hx ⊢
        obtain ⟨_, _, h6, h7⟩ := hx
        have hg : getB (root? hc) r = some (false, b0.k, b0.es) := by unfold getB; rw [hb, hpath]; simp [hbox]
        obtain ⟨h8, A, cap, h9, h10, h11⟩ := h7 _ hg
        refine ⟨by simp, fun b _ hp => absurd rfl hp, h6, fun es he => ?_⟩
        rw [root_push] at he
        simp only [getB, upd_same, Option.some.injEq, Prod.mk.injEq, true_and] at he
        subst he
        refine ⟨by simp, A, cap, h9, h10, ?_⟩
        simp only [if_true]
        rw [hpath] at h11
        exact h11
      · split at hh
        · rename_i hcond
          obtain ⟨hbox, rfl, hle, hfl⟩ := hcond
          simp only [Option.some.injEq, Prod.mk.injEq] at hh
          obtain ⟨rfl, rfl⟩ := hh
          obtain ⟨h1, h2, h3⟩ := HRel.moveS hpr hrc hr ha hb hbox hfl hle
          obtain ⟨h4, h5⟩ := hrc.drop r.root
          simp only [unown]
          refine ⟨_, ⟨by rw [root_push, List.length_append]; exact h1, by rw [root_push, List.length_append]; exact h2, by rw [root_set _ _ _ (root_lt hb), List.length_set]; exact h4, by rw [root_set _ _ _ (root_lt hb), List.length_set]; exact h5, by simp, by rw [root_push, root_set _ _ _ (root_lt hb)]; exact h3⟩, ?_⟩
          simp only [V] at hx ⊢
          obtain ⟨_, _, h6, h7⟩ := hx
          have hg : getB (root? hc) r = some (false, b0.k, b0.es) := by unfold getB; rw [hb, hpath]; simp [hbox]
          obtain ⟨h8, A, cap, h9, h10, h11⟩ := h7 _ hg
          rw [seg_length hle]
          refine ⟨by simp, fun b _ hp => absurd rfl hp, h6, fun es he => ?_⟩
          rw [root_push] at he
          simp only [getB, upd_same, Option.some.injEq, Prod.mk.injEq, true_and] at he
          subst he
          rw [seg_length hle]
          refine ⟨by omega, A, cap, h9, h10, ?_⟩
          simp only [if_true]
          rw [hpath] at h11
          rcases h11 with h11 | ⟨b1, o1, T1, h11, h12, h13⟩
          · exact .inl h11
          · refine .inr ⟨b1, o1 + off * b0.k, T1 - off * b0.k, by rw [h11]; rfl, by rw [h12]; simp, ?_⟩
            rw [Nat.add_mul] at h13
            rw [Nat.zero_add]; omega
        · simp at hh
    · simp at hh
  | .nil k, hc, hc', hp, L, Lc, v', x, hrc, hr, ha, hx, hh => by
    simp only [hand, Option.some.injEq, Prod.mk.injEq] at hh
    obtain ⟨rfl, rfl⟩ := hh
    simp only [V] at hx
    subst hx
    have hj := hr.join (n := hp.length) (nx' := hp.length + 1) (Nat.le_refl _) (Nat.lt_succ_self _) ⟨false, 0, k, []⟩ (fun p => none) (fun p bx k' es hrow => ?_) (fun p x p' x' b o T o' T' h1 h2 h3 h4 => by simp at h3) (fun p x b o T h1 h2 r p1 x1 o1 T1 h3 h4 => by simp at h2)
    · refine ⟨fun r p => if r = hp.length then none else L r p, ⟨by simp only [unown]; rw [root_push, List.length_append]; exact hj.1, by simp only [unown]; rw [root_push, List.length_append]; exact hj.2, hrc, Pres.refl _ _ _, rfl, ?_⟩, ?_⟩
      · simp only [unown]
        rw [root_push]
        intro r p x b o T r' p' x' o' T' h1 h2 h3 h4
        by_cases e : r = hp.length
        · subst e; simp at h2
        · rw [row_congr (upd_ne _ _ e)] at h1
          simp only [e, if_false] at h2
          exact ha r p x b o T r' p' x' o' T' h1 h2 h3 h4
      · simp only [unown, V]
        refine ⟨by simp, fun b _ hp => absurd rfl hp, ⟨none, 0, rfl⟩, fun es he => ?_⟩
        rw [root_push] at he
        simp only [getB, upd_same, Option.some.injEq, Prod.mk.injEq, true_and] at he
        subst he
        exact ⟨by simp, none, 0, rfl, Nat.le_refl _, .inl rfl⟩
    · have : es = [] := by
        cases p with
        | none => rw [row_root (upd_same _ _ _)] at hrow; simp only [Option.some.injEq, Prod.mk.injEq] at hrow; exact hrow.2.2.symm
        | some ij =>
          rw [row_cell_iff (upd_same _ _ _)] at hrow
          have := hrow.2.2
          simp [cellAt] at this
      subst this
      refine ⟨by simp, fun _ i j hi => by simp at hi, fun _ => rfl, fun b o T hL => by simp at hL⟩
  | .agg cs, hc, hc', hp, L, Lc, v', x, hrc, hr, ha, hx, hh => by
    simp only [hand] at hh
    split at hh
    · rename_i y hy
      simp only [Option.some.injEq, Prod.mk.injEq] at hh
      obtain ⟨rfl, rfl⟩ := hh
      simp only [V] at hx
      obtain ⟨vs, rfl, hvs⟩ := hx
      obtain ⟨L', h1, h2⟩ := handL_ok hpr cs hrc hr ha hvs (cs' := y.1) (hc' := y.2) hy
      simp only [unown]
      refine ⟨L', h1, ?_⟩
      simp only [V]
      exact ⟨vs, rfl, h2⟩
    · simp at hh
  | .tup cs, hc, hc', hp, L, Lc, v', x, hrc, hr, ha, hx, hh => by
    simp only [hand] at hh
    split at hh
    · rename_i y hy
      simp only [Option.some.injEq, Prod.mk.injEq] at hh
      obtain ⟨rfl, rfl⟩ := hh
      simp only [V] at hx
      obtain ⟨vs, rfl, hvs⟩ := hx
      obtain ⟨L', h1, h2⟩ := handL_ok hpr cs hrc hr ha hvs (cs' := y.1) (hc' := y.2) hy
      simp only [unown]
      refine ⟨L', h1, ?_⟩
      simp only [V]
      exact ⟨vs, rfl, h2⟩
    · simp at hh
  | .bool b, hc, hc', hp, L, Lc, v', x, hrc, hr, ha, hx, hh => by
    simp only [hand, Option.some.injEq, Prod.mk.injEq] at hh
    obtain ⟨rfl, rfl⟩ := hh
    exact ⟨L, ⟨hr, Pres.refl _ _ _, hrc, Pres.refl _ _ _, rfl, ha⟩, V_of_Rd (Rd_scal rfl hx)⟩
  | .int k n, hc, hc', hp, L, Lc, v', x, hrc, hr, ha, hx, hh => by
    simp only [hand, Option.some.injEq, Prod.mk.injEq] at hh
    obtain ⟨rfl, rfl⟩ := hh
    exact ⟨L, ⟨hr, Pres.refl _ _ _, hrc, Pres.refl _ _ _, rfl, ha⟩, V_of_Rd (Rd_scal rfl hx)⟩
  | .str s, hc, hc', hp, L, Lc, v', x, hrc, hr, ha, hx, hh => by
    simp only [hand, Option.some.injEq, Prod.mk.injEq] at hh
    obtain ⟨rfl, rfl⟩ := hh
    exact ⟨L, ⟨hr, Pres.refl _ _ _, hrc, Pres.refl _ _ _, rfl, ha⟩, V_of_Rd (Rd_scal rfl hx)⟩
  | .dead, _, _, _, _, _, _, _, _, _, _, _, hh => by simp [hand] at hh
  | .gone, _, _, _, _, _, _, _, _, _, _, _, hh => by simp [hand] at hh
  | .pnil, _, _, _, _, _, _, _, _, _, _, _, hh => by simp [hand] at hh
  | .inil, _, _, _, _, _, _, _, _, _, _, _, hh => by simp [hand] at hh
  | .fnil, _, _, _, _, _, _, _, _, _, _, _, hh => by simp [hand] at hh
  | .tree _ _, _, _, _, _, _, _, _, _, _, _, _, hh => by simp [hand] at hh
  | .ptr _ _ _ _, _, _, _, _, _, _, _, _, _, _, _, hh => by simp [hand] at hh
  | .rp _ _, _, _, _, _, _, _, _, _, _, _, _, hh => by simp [hand] at hh
  | .fn _ _, _, _, _, _, _, _, _, _, _, _, _, hh => by simp [hand] at hh
theorem handL_ok (hpr : ∀ B, RO.pr B → RO'.pr B) : ∀ (cs : List AV) {hc hc' hp : Hp} {L Lc : Lf} {cs' : List AV} {xs : List Value}, HRel RO' w (root? hc) hc.length Lc → HRel RO w (root? hp) hp.length L → Apart (root? hp) L (root? hc) Lc →
    VL RO' w (root? hc) hc.length Lc cs xs → handL cs hc = some (cs', hc') → ∃ L', Hands RO RO' w hp L (unownL cs' hp).2 L' hc Lc hc' ∧ VL RO w (root? (unownL cs' hp).2) (unownL cs' hp).2.length L' (unownL cs' hp).1 xs
  | [], hc, hc', hp, L, Lc, cs', xs, hrc, hr, ha, hx, hh => by
    simp only [handL, Option.some.injEq, Prod.mk.injEq] at hh
    obtain ⟨rfl, rfl⟩ := hh
    refine ⟨L, ⟨hr, Pres.refl _ _ _, hrc, Pres.refl _ _ _, rfl, ha⟩, ?_⟩
    cases xs <;> simp [VL, unownL] at hx ⊢
  | c :: cs, hc, hc', hp, L, Lc, cs', xs, hrc, hr, ha, hx, hh => by
    simp only [handL] at hh
    split at hh
    · rename_i y hy
      split at hh
      · rename_i z hz
        simp only [Option.some.injEq, Prod.mk.injEq] at hh
        obtain ⟨rfl, rfl⟩ := hh
        match xs, hx with
        | x :: xs, hx =>
          simp only [VL] at hx
          obtain ⟨L1, h1, h2⟩ := hand_ok hpr c hrc hr ha hx.1 (v' := y.1) (hc' := y.2) hy
          obtain ⟨L2, h3, h4⟩ := handL_ok hpr cs h1.relc h1.rel h1.ap (VL.mono (Same.refl _ _) h1.presc _ _ hx.2) (cs' := z.1) (hc' := z.2) hz
          simp only [unownL]
          refine ⟨L2, ⟨h3.rel, h1.pres.trans h3.pres, h3.relc, h1.presc.trans h3.presc, h3.len.trans h1.len, h3.ap⟩, ?_⟩
          simp only [VL]
          exact ⟨V.mono (Same.refl _ _) h3.pres _ _ h2, h4⟩
        | [], hx => simp [VL] at hx
      · simp at hh
    · simp at hh
end
theorem HRel.void (hro : ∀ B, RO.pr B → B < w.heap.size) (htb : ∀ B, Tabs.at_ B → RO.pr B ∧ ∃ x, w.heap[B]? = some x ∧ Tabs.ok B x) : HRel RO w (root? []) ([] : Hp).length (fun _ _ => none) where
  dom := fun r b h => by simp [root?] at h
  rows := fun r p bx k es h => by rw [row_none (by simp [root?])] at h; simp at h
  inj := fun r p x r' p' x' b o T o' T' h => by rw [row_none (by simp [root?])] at h; simp at h
  ro := hro
  tb := htb
theorem byv_none (hctx : CtxOk P ctx) {f : FuncId} {fn : Func} {F : RF} {ks : Keeps} (hf : P.funcs[f]? = some fn) (hr : resolveF P fn ks = some F)
    {G : ByV} (hmt : G.mt = none) (hsem : ∀ args r, G.sem args = some r → semF ctx F none G.ro args = some r) : InlOk P f (callS (.byv G)) := by
  refine ⟨enters_of hf hr, ?_⟩
  intro RO w hp L avs args v hp' h hV hcall
  simp only [callS, hmt] at hcall
  split at hcall
  · simp at hcall
  · rename_i ps hps
    split at hcall
    · simp at hcall
    · rename_i v1 l1 hs1
      have hs2 := hsem _ _ hs1
      unfold semF at hs2
      split at hs2
      · simp at hs2
      · rename_i hn
        have hn' : ps.length = F.nargs := by omega
        have frame : ∀ (rd : Nat → Prop) (hsub : ∀ B, rd B → B < w.heap.size) (w' : World), Same ⟨rd, (· < w.heap.size), hsub⟩ w w' → w.heap.size ≤ w'.heap.size → HRel RO w' (root? hp) hp.length L ∧ Same RO w w' := by
          intro rd hsub w' hsame hsz
          have hs : Same RO w w' := fun B hB => hsame B (h.ro B hB)
          refine ⟨h.world hs hsz ?_, hs⟩
          intro r p x b o T hrow hL i hi
          obtain ⟨bx, k, es⟩ := x
          have hm := ((h.rows _ _ _ _ _ hrow).yes _ _ _ hL).2.1
          exact ⟨cell_of (hsame b hm.lt), frozen_of (hsame b hm.lt)⟩
        have key : ∀ e s, (e = .nrm ∨ e = .ret) → run ctx 0 F.body ⟨params 0 ps, []⟩ = some (e, s) → (match result F s with
            | some v => if G.ro then (if noRef v = true then (packR 5 [] v).map fun v => (v, []) else none) else (hand v s.hp).map fun x => (x.1, [])
            | none => none) = some (v1, l1) → Calls P f args w (fun e w' => ∃ x L', e = .returned x ∧ Adv RO w (root? hp) hp.length L w' (root? hp') hp'.length L' ∧ V RO w' (root? hp') hp'.length L' v x) := by
          intro e s he hrun hres
          split at hres
          · rename_i v0 hv0
            by_cases hro : G.ro = true
            · simp only [hro, if_true] at hres hcall
              split at hcall
              · rename_i hnr
                simp only [Option.some.injEq, Prod.mk.injEq] at hcall
                obtain ⟨rfl, rfl⟩ := hcall
                split at hres
                · rename_i hnr0
                  simp only [Option.map_eq_some_iff, Prod.mk.injEq] at hres
                  obtain ⟨v2, hpk, rfl, _⟩ := hres
                  let RO' : Bx := ⟨RO.rd, (· < w.heap.size), fun B hB => h.ro B (RO.sub B hB)⟩
                  have hVps : VL RO' w (root? []) ([] : Hp).length (fun _ _ => none) ps args.toList :=
                    mapO_V avs ps _ (fun v p x hv hp1 hx1 => packR_V (RO' := RO') h (fun B (hB : RO.rd B) => (hB : RO'.rd B)) 5 v p x (.inl (noRef_mem hnr v hv)) hp1 hx1) hps hV
                  refine Calls.mono (body_ok hctx hf hr (HRel.void (RO := RO') (fun B hB => hB) (fun B hB => ⟨h.ro B (h.tb B hB).1, (h.tb B hB).2⟩)) hVps hn' he hrun hv0) ?_
                  rintro e w' ⟨x, L', N, a, rfl, hi, hVx⟩
                  obtain ⟨h1, h2⟩ := frame RO.rd (fun B hB => h.ro B (RO.sub B hB)) w' hi.same hi.size
                  have h3 : V RO' w' (root? []) ([] : Hp).length (fun _ _ => none) v0 x := V_noRef v0 x hnr0 hVx
                  have hempty : HRel RO' w' (root? []) ([] : Hp).length (fun _ _ => none) := HRel.void (fun B hB => Nat.lt_of_lt_of_le hB hi.size) hi.rel.tb
                  have h4 : V RO w' (root? hp) hp.length L v2 x := packR_V (RO' := RO) hempty (fun B (hB : RO'.rd B) => (hB : RO.rd B)) 5 v0 v2 x (.inl hnr0) hpk h3
                  exact ⟨x, L, rfl, ⟨h1, Pres.refl _ _ _, h2, hi.size, hi.os, hi.tape, hi.output⟩, h4⟩
                · simp at hres
              · simp at hcall
            · simp only [hro, Bool.false_eq_true, if_false] at hres hcall
              simp only [Option.some.injEq, Prod.ext_iff] at hcall
              obtain ⟨rfl, rfl⟩ := hcall
              simp only [Option.map_eq_some_iff, Prod.mk.injEq] at hres
              obtain ⟨⟨v2, hc'⟩, hh, rfl, _⟩ := hres
              let RO' : Bx := ⟨(· < w.heap.size), (· < w.heap.size), fun B hB => hB⟩
              have hVps : VL RO' w (root? []) ([] : Hp).length (fun _ _ => none) ps args.toList :=
                mapO_V avs ps _ (fun v p x hv hp1 hx1 => packR_V h (fun B hB => h.ro B (RO.sub B hB)) 5 v p x (.inr fun B hB => hB) hp1 hx1) hps hV
              refine Calls.mono (body_ok hctx hf hr (HRel.void (RO := RO') (fun B hB => hB) (fun B hB => ⟨h.ro B (h.tb B hB).1, (h.tb B hB).2⟩)) hVps hn' he hrun hv0) ?_
              rintro e w' ⟨x, L', N, a, rfl, hi, hVx⟩
              obtain ⟨h1, h2⟩ := frame _ (fun B hB => hB) w' hi.same hi.size
              have hap : Apart (root? hp) L (root? s.hp) L' := by
                intro r p x b o T r' p' x' o' T' h3 h4 h5 h6
                obtain ⟨bx, k, es⟩ := x
                obtain ⟨bx', k', es'⟩ := x'
                have hm := ((h.rows _ _ _ _ _ h3).yes _ _ _ h4).2.1
                have hm' := ((hi.rel.rows _ _ _ _ _ h5).yes _ _ _ h6).1
                exact hm' hm.lt
              obtain ⟨L2, h3, h4⟩ := hand_ok (RO := RO) (RO' := RO') (fun B hB => h.ro B hB) v0 hi.rel h1 hap hVx hh
              exact ⟨x, L2, rfl, ⟨h3.rel, h3.pres, h2, hi.size, hi.os, hi.tape, hi.output⟩, h4⟩
          · simp at hres
        simp only at hs2
        split at hs2
        · rename_i s hrun
          exact key _ s (.inl rfl) hrun hs2
        · rename_i s hrun
          exact key _ s (.inr rfl) hrun hs2
        · simp at hs2
end
end Go.Proofs.Ytldmpjoddghdkaa.AI
