import Derived.Test.YtldmpjoddghdkaaAStep
namespace Go.Proofs.Ytldmpjoddghdkaa.AI
set_option linter.all false
open Go.RowKit
set_option autoImplicit false
set_option linter.unusedVariables false
set_option linter.unusedSimpArgs false
variable [Tabs]
theorem has_iff : ∀ {l : List Nat} {n : Nat}, has l n = true ↔ n ∈ l
  | [], n => by simp [has]
  | x :: xs, n => by
    simp only [has]
    split
    · rename_i h; simp [h]
    · rename_i h; rw [has_iff]; simp [Ne.symm h]
theorem pos_some : ∀ {l : List Nat} {n i : Nat}, pos l n = some i → l[i]? = some n
  | [], n, i, h => by simp [pos] at h
  | x :: xs, n, i, h => by
    simp only [pos] at h
    split at h
    · rename_i e; simp at h; subst h; simp [e]
    · simp only [Option.map_eq_some_iff] at h
      obtain ⟨j, hj, rfl⟩ := h
      simpa using pos_some hj
structure Found (hp : Hp) (base : Nat) (fd : List Nat) : Prop where
  nodup : fd.Nodup
  ge : ∀ r ∈ fd, base ≤ r
  live : ∀ r ∈ fd, ∃ b, root? hp r = some b
theorem disc_found (hp : Hp) (base : Nat) : ∀ (n : Nat) (w fd : List Nat), Found hp base fd → Found hp base (disc hp base n w fd)
  | 0, w, fd, h => by simpa only [disc] using h
  | n + 1, [], fd, h => by simpa only [disc] using h
  | n + 1, r :: w, fd, h => by
    simp only [disc]
    split
    · exact disc_found hp base n w fd h
    · rename_i hb
      split
      · exact disc_found hp base n w fd h
      · rename_i hh
        split
        · rename_i b hb2
          refine disc_found hp base n _ _ ⟨?_, ?_, ?_⟩
          · rw [List.nodup_append]
            refine ⟨h.nodup, by simp, fun a ha c hc => ?_⟩
            simp at hc
            subst hc
            intro e
            subst e
            exact hh (has_iff.2 ha)
          · intro x hx
            rcases List.mem_append.1 hx with hx | hx
            · exact h.ge x hx
            · simp at hx; omega
          · intro x hx
            rcases List.mem_append.1 hx with hx | hx
            · exact h.live x hx
            · simp at hx; subst hx; exact ⟨b, hb2⟩
        · exact disc_found hp base n w fd h
def newHp (hp : Hp) (base : Nat) (fd : List Nat) : Hp := (hp.take base).map (renB hp base fd) ++ fd.map fun r => gen0 (renB hp base fd (root? hp r))
def newLf (L : Lf) (base : Nat) (fd : List Nat) : Lf := fun n p => if n < base then L n p else match fd[n - base]? with | some r => L r p | none => none
section
variable {hp : Hp} {base : Nat} {fd : List Nat} (hb : base ≤ hp.length) (hf : Found hp base fd)
include hb
theorem newHp_lo {n : Nat} (h : n < base) : root? (newHp hp base fd) n = renB hp base fd (root? hp n) := by
  unfold newHp root?
  rw [List.getElem?_append_left (by simp; omega)]
  rw [List.getElem?_map, List.getElem?_take_of_lt h]
  cases e : hp[n]? with
  | none => rw [List.getElem?_eq_none_iff] at e; omega
  | some x => simp
theorem newHp_hi {n : Nat} (h : base ≤ n) : root? (newHp hp base fd) n = match fd[n - base]? with | some r => gen0 (renB hp base fd (root? hp r)) | none => none := by
  unfold newHp root?
  have hl : ((hp.take base).map (renB hp base fd)).length = base := by simp; omega
  rw [List.getElem?_append_right (by omega), hl, List.getElem?_map]
  cases e : fd[n - base]? with
  | none => simp
  | some r => simp [root?]
theorem newHp_length : (newHp hp base fd).length = base + fd.length := by
  unfold newHp
  simp; omega
end
def oldOf (base : Nat) (fd : List Nat) (n : Nat) : Option Nat := if n < base then some n else fd[n - base]?
theorem newHp_old {hp : Hp} {base : Nat} {fd : List Nat} (hb : base ≤ hp.length) {n : Nat} {b' : Blk} (h : root? (newHp hp base fd) n = some b') :
    ∃ r b, oldOf base fd n = some r ∧ root? hp r = some b ∧ b'.box = b.box ∧ b'.k = b.k ∧ b'.es = (if b.box then b.es.map (renL hp base fd) else b.es) ∧ b'.gen = (if n < base then b.gen else 0) := by
  have key : ∀ (b0 : Option Blk) (b1 : Blk), renB hp base fd b0 = some b1 → ∃ b, b0 = some b ∧ b1.box = b.box ∧ b1.k = b.k ∧ b1.gen = b.gen ∧ b1.es = (if b.box then b.es.map (renL hp base fd) else b.es) := by
    intro b0 b1 h
    cases b0 with
    | none => simp [renB] at h
    | some b =>
      obtain ⟨bx, g, k, es⟩ := b
      cases bx <;> simp [renB] at h <;> subst h <;> exact ⟨_, rfl, rfl, rfl, rfl, by simp⟩
  by_cases hn : n < base
  · rw [newHp_lo hb hn] at h
    obtain ⟨b, h1, h2, h3, h4, h5⟩ := key _ _ h
    exact ⟨n, b, by simp [oldOf, hn], h1, h2, h3, h5, by simp [hn, h4]⟩
  · rw [newHp_hi hb (by omega)] at h
    split at h
    · rename_i r hr
      cases e : renB hp base fd (root? hp r) with
      | none => rw [e] at h; simp [gen0] at h
      | some b1 =>
        rw [e] at h
        obtain ⟨b, h1, h2, h3, h4, h5⟩ := key _ _ e
        obtain ⟨bx, g, k, es⟩ := b1
        simp only [gen0, Option.some.injEq] at h
        subst h
        exact ⟨r, b, by simp [oldOf, hn, hr], h1, h2, h3, h5, by simp [hn]⟩
    · simp at h
theorem newLf_old {L : Lf} {base : Nat} {fd : List Nat} {n r : Nat} (h : oldOf base fd n = some r) (p : Option (Nat × Nat)) : newLf L base fd n p = L r p := by
  unfold oldOf at h
  unfold newLf
  split at h
  · rename_i hn; simp at h; subst h; simp [hn]
  · rename_i hn; simp [hn, h]
theorem oldOf_inj {hp : Hp} {base : Nat} {fd : List Nat} (hf : Found hp base fd) {n m r : Nat} (h1 : oldOf base fd n = some r) (h2 : oldOf base fd m = some r) : n = m := by
  unfold oldOf at h1 h2
  split at h1 <;> split at h2
  · simp at h1 h2; omega
  · simp at h1; subst h1
    have := hf.ge _ (List.mem_of_getElem? h2)
    omega
  · simp at h2; subst h2
    have := hf.ge _ (List.mem_of_getElem? h1)
    omega
  · obtain ⟨g1, g2⟩ := List.getElem?_eq_some_iff.1 h1
    obtain ⟨g3, g4⟩ := List.getElem?_eq_some_iff.1 h2
    have := (List.getElem_inj hf.nodup).1 (g2.trans g4.symm)
    omega
theorem ren_cell {hp : Hp} {base : Nat} {fd : List Nat} : ∀ (cs : List AV) (j : Nat), (renL hp base fd cs).getD j .dead = ren hp base fd (cs.getD j .dead)
  | [], j => by simp [renL, ren]
  | c :: cs, 0 => by simp [renL]
  | c :: cs, j + 1 => by
    have := ren_cell (hp := hp) (base := base) (fd := fd) cs j
    simp only [renL, List.getD_cons_succ]
    exact this
theorem renL_length {hp : Hp} {base : Nat} {fd : List Nat} : ∀ (cs : List AV), (renL hp base fd cs).length = cs.length
  | [] => rfl
  | c :: cs => by simp [renL, renL_length cs]
theorem cellAt_ren {hp : Hp} {base : Nat} {fd : List Nat} (es : List (List AV)) (i j : Nat) : cellAt (es.map (renL hp base fd)) i j = ren hp base fd (cellAt es i j) := by
  unfold cellAt
  by_cases hi : i < es.length
  · have : (es.map (renL hp base fd)).getD i [] = renL hp base fd (es.getD i []) := by
      simp [List.getD_eq_getElem?_getD, hi]
    rw [this, ren_cell]
  · rw [getD_out (l := es.map (renL hp base fd)) (by rw [List.length_map]; exact hi), getD_out hi]
    simp [ren]
theorem row_new {hp : Hp} {base : Nat} {fd : List Nat} (hb : base ≤ hp.length) {n : Nat} {p : Option (Nat × Nat)} {bx : Bool} {k : Nat} {es' : List (List AV)} (h : row (root? (newHp hp base fd)) n p = some (bx, k, es')) :
    ∃ r es, oldOf base fd n = some r ∧ row (root? hp) r p = some (bx, k, es) ∧ es' = (if bx then es.map (renL hp base fd) else es) := by
  obtain ⟨b', hb'⟩ := row_some h
  obtain ⟨r, b, h1, h2, h3, h4, h5, h6⟩ := newHp_old hb hb'
  cases p with
  | none =>
    rw [row_root hb'] at h
    simp only [Option.some.injEq, Prod.mk.injEq] at h
    obtain ⟨rfl, rfl, rfl⟩ := h
    exact ⟨r, b.es, h1, by rw [row_root h2, h3, h4], by rw [h5, h3]⟩
  | some q =>
    obtain ⟨i, j⟩ := q
    rw [row_cell_iff hb'] at h
    obtain ⟨e1, rfl, e2⟩ := h
    rw [h3] at e1
    rw [h5, e1] at e2
    exact ⟨r, es', h1, (row_cell_iff h2).2 ⟨e1, rfl, by simpa using e2⟩, by simp⟩
theorem renR_spec {hp : Hp} {base : Nat} {fd : List Nat} (hb : base ≤ hp.length) {r r' : BRef} (h : renR hp base fd r = some r') : oldOf base fd r'.root = some r.root ∧ r'.path = r.path ∧ (∃ x, getB (root? hp) r = some x) ∧ r'.root < base + fd.length ∧ (r.root < base → r' = r) ∧ (¬ r.root < base → r'.gen = 0) := by
  unfold renR at h
  split at h
  · simp at h
  · rename_i x hx
    split at h
    · rename_i hr
      simp only [Option.some.injEq] at h
      subst h
      exact ⟨by simp [oldOf, hr], rfl, ⟨x, hx⟩, by omega, fun _ => rfl, fun h => absurd hr h⟩
    · rename_i hr
      simp only [Option.map_eq_some_iff] at h
      obtain ⟨i, hi, rfl⟩ := h
      have h1 := pos_some hi
      have h2 := (List.getElem?_eq_some_iff.1 h1).1
      refine ⟨?_, rfl, ⟨x, hx⟩, by simp only; omega, fun h => absurd h hr, fun _ => rfl⟩
      simp only [oldOf]
      rw [if_neg (by omega), show base + i - base = i by omega]
      exact h1
section
variable {RO : Bx} {w : World}
mutual
theorem V_ren {hp : Hp} {base : Nat} {fd : List Nat} {L : Lf} (hb : base ≤ hp.length) : ∀ (v : AV) (x : Value), V RO w (root? hp) hp.length L v x → V RO w (root? (newHp hp base fd)) (base + fd.length) (newLf L base fd) (ren hp base fd v) x
  | .sl r k o l, x, h => by
    simp only [ren]
    simp only [V] at h
    obtain ⟨h1, h2, ⟨A, c, h3⟩, h4⟩ := h
    split
    · rename_i r' hr
      obtain ⟨g1, g2, ⟨y, g3⟩, g4, g5, g6⟩ := renR_spec hb hr
      simp only [V]
      refine ⟨g4, fun b' hb' hpath => ?_, ⟨A, c, h3⟩, fun es he => ?_⟩
      · obtain ⟨r0, b, e1, e2, _, _, _, e6⟩ := newHp_old hb hb'
        rw [g1] at e1
        simp only [Option.some.injEq] at e1
        subst e1
        rw [e6]
        by_cases hlt : r.root < base
        · have e := g5 hlt
          rw [e] at hpath ⊢
          rw [if_pos hlt]
          exact h2 b e2 hpath
        · rw [g6 hlt]; omega
      · obtain ⟨r0, es0, e1, e2, e3⟩ := row_new hb (getB_row he)
        rw [g1] at e1
        simp only [Option.some.injEq] at e1
        subst e1
        simp only [Bool.false_eq_true, if_false] at e3
        subst e3
        rw [g2] at e2
        have e4 := getB_row g3
        rw [e2] at e4
        simp only [Option.some.injEq] at e4
        subst e4
        obtain ⟨f1, A', cap, f2, f3, f4⟩ := h4 _ g3
        refine ⟨f1, A', cap, f2, f3, ?_⟩
        rcases f4 with f4 | ⟨b, oo, T, f4, f5⟩
        · exact .inl f4
        · exact .inr ⟨b, oo, T, by rw [newLf_old g1, g2]; exact f4, f5⟩
    · simp only [V]; subst h3; rfl
  | .ptr r k i o, x, h => by
    simp only [ren]
    simp only [V] at h
    obtain ⟨h1, h2, ⟨A, c, h3⟩, h4⟩ := h
    split
    · rename_i r' hr
      obtain ⟨g1, g2, ⟨y, g3⟩, g4, g5, g6⟩ := renR_spec hb hr
      simp only [V]
      refine ⟨g4, fun b' hb' hpath => ?_, ⟨A, c, h3⟩, fun bx es he hi => ?_⟩
      · obtain ⟨r0, b, e1, e2, _, _, _, e6⟩ := newHp_old hb hb'
        rw [g1] at e1
        simp only [Option.some.injEq] at e1
        subst e1
        rw [e6]
        by_cases hlt : r.root < base
        · have e := g5 hlt
          rw [e] at hpath ⊢
          rw [if_pos hlt]
          exact h2 b e2 hpath
        · rw [g6 hlt]; omega
      · obtain ⟨r0, es0, e1, e2, e3⟩ := row_new hb (getB_row he)
        rw [g1] at e1
        simp only [Option.some.injEq] at e1
        subst e1
        rw [g2] at e2
        have e4 := getB_row g3
        rw [e2] at e4
        simp only [Option.some.injEq] at e4
        subst e4
        obtain ⟨b, oo, T, f4, f5⟩ := h4 _ _ g3 (by rw [e3] at hi; split at hi <;> simpa using hi)
        exact ⟨b, oo, T, by rw [newLf_old g1, g2]; exact f4, f5⟩
    · simp only [V]; subst h3; rfl
  | .agg cs, x, h => by
    simp only [ren, V] at h ⊢
    obtain ⟨vs, e, hv⟩ := h
    exact ⟨vs, e, VL_ren hb cs vs.toList hv⟩
  | .tup cs, x, h => by
    simp only [ren, V] at h ⊢
    obtain ⟨vs, e, hv⟩ := h
    exact ⟨vs, e, VL_ren hb cs vs.toList hv⟩
  | .fn f cs, x, h => by
    simp only [ren, V] at h ⊢
    obtain ⟨vs, e, hv⟩ := h
    exact ⟨vs, e, VL_ren hb cs vs.toList hv⟩
  | .dead, x, h => by simp [ren, V]
  | .gone, x, h => by simpa only [ren, V] using h
  | .nil k, x, h => by simpa only [ren, V] using h
  | .pnil, x, h => by simpa only [ren, V] using h
  | .inil, x, h => by simpa only [ren, V] using h
  | .fnil, x, h => by simpa only [ren, V] using h
  | .bool _, x, h => by simpa only [ren, V] using h
  | .int _ _, x, h => by simpa only [ren, V] using h
  | .str _, x, h => by simpa only [ren, V] using h
  | .tree _ _, x, h => by simpa only [ren, V] using h
  | .rp _ _, x, h => by simpa only [ren, V] using h
theorem VL_ren {hp : Hp} {base : Nat} {fd : List Nat} {L : Lf} (hb : base ≤ hp.length) : ∀ (cs : List AV) (vs : List Value), VL RO w (root? hp) hp.length L cs vs → VL RO w (root? (newHp hp base fd)) (base + fd.length) (newLf L base fd) (renL hp base fd cs) vs
  | [], [], _ => by simp [renL, VL]
  | c :: cs, v :: vs, h => by
    simp only [renL, VL] at h ⊢
    exact ⟨V_ren hb c v h.1, VL_ren hb cs vs h.2⟩
  | [], _ :: _, h => by simp [VL] at h
  | _ :: _, [], h => by simp [VL] at h
end
theorem HRel.rename {hp : Hp} {base : Nat} {fd : List Nat} {L : Lf} (h : HRel RO w (root? hp) hp.length L) (hb : base ≤ hp.length) (hf : Found hp base fd) : HRel RO w (root? (newHp hp base fd)) (base + fd.length) (newLf L base fd) where
  dom := fun n b hn => by have := root_lt hn; rw [newHp_length hb] at this; exact this
  ro := h.ro
  tb := h.tb
  inj := fun n p x n' p' x' b o T o' T' h1 h2 h3 h4 => by
    obtain ⟨bx, k, es⟩ := x
    obtain ⟨bx', k', es'⟩ := x'
    obtain ⟨r, es0, e1, e2, _⟩ := row_new hb h1
    obtain ⟨r', es0', e1', e2', _⟩ := row_new hb h2
    rw [newLf_old e1] at h3
    rw [newLf_old e1'] at h4
    obtain ⟨e5, e6⟩ := h.inj _ _ _ _ _ _ _ _ _ _ _ e2 e2' h3 h4
    subst e5
    exact ⟨oldOf_inj hf e1 e1', e6⟩
  rows := fun n p bx k es' hr => by
    obtain ⟨r, es, e1, e2, e3⟩ := row_new hb hr
    have h0 := h.rows _ _ _ _ _ e2
    refine ⟨?_, ?_, fun hn => ?_, fun b o T hL => ?_⟩
    · intro e he
      rw [e3] at he
      split at he
      · obtain ⟨e0, h1, rfl⟩ := List.mem_map.1 he
        rw [renL_length]; exact h0.shape e0 h1
      · exact h0.shape e he
    · intro hbx i j hi hj
      rw [hbx] at e3
      simp only [Bool.false_eq_true, if_false] at e3
      subst e3
      exact h0.cells hbx i j hi hj
    · rw [newLf_old e1] at hn
      rw [e3, h0.no hn]; simp
    · rw [newLf_old e1] at hL
      obtain ⟨f1, f2, f3, f4⟩ := h0.yes _ _ _ hL
      have hlen : es'.length = es.length := by rw [e3]; split <;> simp
      refine ⟨f1, f2, by rw [hlen]; exact f3, fun i j hi hj => ?_⟩
      obtain ⟨v, hv, hC⟩ := f4 i j (by rw [← hlen]; exact hi) hj
      refine ⟨v, hv, ?_⟩
      cases bx with
      | true =>
        simp only [if_true] at e3
        rw [e3, cellAt_ren, Cl.box]
        rw [Cl.box] at hC
        exact V_ren hb _ _ hC
      | false =>
        simp only [Bool.false_eq_true, if_false] at e3
        subst e3
        have hok := h0.cells rfl i j (by rw [← hlen]; exact hi) hj
        by_cases ht : ∃ k1 e1, cellAt es' i j = .tree k1 e1
        · obtain ⟨k1, e5, ht⟩ := ht
          rw [ht] at hC ⊢
          simp only [Cl] at hC ⊢
          rw [newLf_old e1]
          exact hC
        · have hno : ∀ k1 e1, cellAt es' i j ≠ .tree k1 e1 := fun k1 e1 e => ht ⟨k1, e1, e⟩
          rw [Cl.other hno] at hC ⊢
          cases hcc : cellAt es' i j <;> rw [hcc] at hok hC <;> first | (exact V_scal rfl hC) | (simp only [V]; done) | (exact absurd hcc (hno _ _)) | (simp [cellOk, scal] at hok)
theorem Pres.rename {hp : Hp} {base : Nat} {fd : List Nat} {L : Lf} (hb : base ≤ hp.length) {R0 : Rf} {L0 : Lf} (h : Pres R0 base L0 (root? hp) hp.length L) : Pres R0 base L0 (root? (newHp hp base fd)) (base + fd.length) (newLf L base fd) := by
  refine ⟨by omega, fun r b' hr hb' => ?_, fun r hr hg bx k es' he => ?_⟩
  · obtain ⟨r0, b, e1, e2, _, _, _, e6⟩ := newHp_old hb hb'
    simp only [oldOf, hr, if_true, Option.some.injEq] at e1
    subst e1
    obtain ⟨b0, h1, h2⟩ := h.old r b hr e2
    exact ⟨b0, h1, by rw [e6, if_pos hr]; exact h2⟩
  · have e0 : oldOf base fd r.root = some r.root := by simp [oldOf, hr]
    obtain ⟨r0, es, e1, e2, e3⟩ := row_new hb (getB_row he)
    rw [e0] at e1
    simp only [Option.some.injEq] at e1
    subst e1
    have hgen : ∀ b, root? hp r.root = some b → r.path = none ∨ r.gen = b.gen := by
      intro b hb2
      rcases getB_gen he with h1 | ⟨b', h1, h2⟩
      · exact .inl h1
      · obtain ⟨r1, b1, f1, f2, _, _, _, f6⟩ := newHp_old hb h1
        rw [e0] at f1
        simp only [Option.some.injEq] at f1
        subst f1
        rw [hb2] at f2
        simp only [Option.some.injEq] at f2
        subst f2
        exact .inr (by rw [h2, f6, if_pos hr])
    have hget : getB (root? hp) r = some (bx, k, es) := by
      obtain ⟨b, hb2⟩ := row_some e2
      rcases hgen b hb2 with h1 | h1
      · obtain ⟨rr, rp, rg⟩ := r
        simp only at h1
        subst h1
        rw [row_root hb2] at e2
        simp only [getB, hb2]
        exact e2
      · obtain ⟨rr, rp, rg⟩ := r
        exact getB_of_row e2 (fun b1 hb1 => by simp only at hb2 h1; rw [hb2] at hb1; simp only [Option.some.injEq] at hb1; rw [h1, hb1])
    obtain ⟨es0, f1, f2, f3⟩ := h.keep r hr hg bx k es hget
    exact ⟨es0, f1, by rw [f2, e3]; split <;> simp, by rw [newLf_old e0]; exact f3⟩
theorem gcV_rel {hp : Hp} {base : Nat} {L : Lf} (h : HRel RO w (root? hp) hp.length L) (hb : base ≤ hp.length) {R0 : Rf} {L0 : Lf} (hp0 : Pres R0 base L0 (root? hp) hp.length L) (vs : List AV) : ∃ L', HRel RO w (root? (gcV base vs hp).2) (gcV base vs hp).2.length L' ∧ Pres R0 base L0 (root? (gcV base vs hp).2) (gcV base vs hp).2.length L' ∧
    ∀ xs, VL RO w (root? hp) hp.length L vs xs → VL RO w (root? (gcV base vs hp).2) (gcV base vs hp).2.length L' (gcV base vs hp).1 xs := by
  obtain ⟨L1, h1, h2, h3⟩ := nnL_rel vs h
  have hb1 : base ≤ (nnL vs hp).2.length := Nat.le_trans hb (nnL_len vs hp)
  have hf : Found (nnL vs hp).2 base (disc (nnL vs hp).2 base 200 (rootsL (nnL vs hp).1 ++ (((nnL vs hp).2.take base).map rootsB).flatten) []) := disc_found _ _ _ _ _ ⟨by simp, by simp, by simp⟩
  have hpres : Pres R0 base L0 (root? (nnL vs hp).2) (nnL vs hp).2.length L1 := by
    refine ⟨hb1, fun r b' hr hbb => ?_, fun r hr hg bx k es' he => ?_⟩
    · obtain ⟨b, e1, e2⟩ := h2.old r b' (by omega) hbb
      obtain ⟨b0, e3, e4⟩ := hp0.old r b hr e1
      exact ⟨b0, e3, Nat.le_trans e4 e2⟩
    · obtain ⟨es, e1, e2, e3⟩ := h2.keep r (by omega) (hp0.genOk hr hg) bx k es' he
      obtain ⟨es0, e4, e5, e6⟩ := hp0.keep r hr hg bx k es e1
      exact ⟨es0, e4, e5.trans e2, e3.trans e6⟩
  have e2 : (gcV base vs hp).2 = newHp (nnL vs hp).2 base (disc (nnL vs hp).2 base 200 (rootsL (nnL vs hp).1 ++ (((nnL vs hp).2.take base).map rootsB).flatten) []) := rfl
  refine ⟨newLf L1 base (disc (nnL vs hp).2 base 200 (rootsL (nnL vs hp).1 ++ (((nnL vs hp).2.take base).map rootsB).flatten) []), ?_, ?_, fun xs hx => ?_⟩
  · rw [e2, newHp_length hb1]
    exact h1.rename hb1 hf
  · rw [e2, newHp_length hb1]
    exact hpres.rename hb1
  · rw [e2, newHp_length hb1]
    exact VL_ren hb1 _ _ (h3 xs hx)
end
end Go.Proofs.Ytldmpjoddghdkaa.AI
