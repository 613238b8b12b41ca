import Derived.Test.YtldmpjoddghdkaaAByVal
namespace Go.Proofs.Ytldmpjoddghdkaa.AI
set_option linter.all false
open Go.RowKit
set_option autoImplicit false
set_option linter.unusedVariables false
set_option linter.unusedSimpArgs false
variable [Tabs]
section
variable {P : Program} {ctx : Ctx} {RO : Bx} {w : World}
theorem cell_dead {es : List (List AV)} {i j : Nat} (h : ¬ i < es.length) : cellAt es i j = .dead := by
  unfold cellAt
  rw [getD_out h]
  simp
theorem cell_dead' {es : List (List AV)} {k i j : Nat} (hs : ∀ e ∈ es, e.length = k) (h : ¬ j < k) : cellAt es i j = .dead := by
  by_cases hi : i < es.length
  · unfold cellAt
    rw [getD_out]
    rw [shape_getD hs hi]; exact h
  · exact cell_dead hi
theorem flat_no_tree {es : List (List AV)} {k : Nat} (h : flat es = true) (hs : ∀ e ∈ es, e.length = k) {i j k' : Nat} {es' : List (List AV)} : cellAt es i j ≠ .tree k' es' := by
  intro e
  by_cases hi : i < es.length
  · by_cases hj : j < k
    · exact scal_not_tree (flat_cellAt h hs hi hj) _ _ e
    · rw [cell_dead' hs hj] at e; cases e
  · rw [cell_dead hi] at e; cases e
def Lone (L : Lf) (q : Nat) (p0 : Option (Nat × Nat)) : Lf := fun q' p =>
  if q' = 0 then (match p with | none => L q p0 | some ij => if p0 = none then L q (some ij) else none) else none
def Mine (R : Rf) (L : Lf) (q : Nat) (p0 : Option (Nat × Nat)) (B : Nat) : Prop := ∃ p x o T, (p0 = none ∨ p = p0) ∧ row R q p = some x ∧ L q p = some (B, o, T)
def BxM (RO : Bx) (w : World) (R : Rf) (L : Lf) (q : Nat) (p0 : Option (Nat × Nat)) (h : ∀ B, RO.rd B → B < w.heap.size ∧ ¬ Mine R L q p0 B) : Bx := ⟨RO.rd, fun B => B < w.heap.size ∧ ¬ Mine R L q p0 B, h⟩
theorem not_mine {R : Rf} {nx : Nat} {L : Lf} (h : HRel RO w R nx L) (q : Nat) (p0 : Option (Nat × Nat)) {B : Nat} (hB : RO.pr B) : B < w.heap.size ∧ ¬ Mine R L q p0 B := by
  refine ⟨h.ro B hB, ?_⟩
  rintro ⟨p, ⟨bx, k, es⟩, o, T, _, hr, hL⟩
  exact ((h.rows _ _ _ _ _ hr).yes _ _ _ hL).1 hB
def R1 (k : Nat) (es : List (List AV)) : Rf := root? [some ⟨false, 0, k, es⟩]
theorem R1_zero {k : Nat} {es : List (List AV)} : R1 k es 0 = some ⟨false, 0, k, es⟩ := rfl
theorem R1_other {k : Nat} {es : List (List AV)} {r : Nat} (h : r ≠ 0) : R1 k es r = none := by
  cases r with
  | zero => exact absurd rfl h
  | succ r => simp [R1, root?]
theorem Cl_scal {RO RO' : Bx} {w' : World} {R R' : Rf} {nx nx' : Nat} {L L' : Lf} {r r' : Nat} {bx bx' : Bool} {i j i' j' : Nat} {c : AV} {v : Value} (hc : scal c = true ∨ c = .dead) (h : Cl RO w R nx L r bx i j c v) : Cl RO' w' R' nx' L' r' bx' i' j' c v := by
  have hn : ∀ k es, c ≠ .tree k es := by
    rcases hc with hc | rfl
    · exact scal_not_tree hc
    · intro _ _ e; cases e
  rw [Cl.other hn] at h ⊢
  rcases hc with hc | rfl
  · cases c <;> simp [scal] at hc <;> simp only [V, Rd] at h ⊢ <;> exact h
  · simp [V]
theorem lone_rel {R : Rf} {nx : Nat} {L : Lf} (h : HRel RO w R nx L) {q k : Nat} {p0 : Option (Nat × Nat)} {es : List (List AV)} (hr : row R q p0 = some (false, k, es)) (hf : (if p0.isSome then flat es else solid es) = true) :
    HRel (BxM RO w R L q p0 (fun B hB => not_mine h q p0 (RO.sub B hB))) w (R1 k es) 1 (Lone L q p0) := by
  have h0 := h.rows _ _ _ _ _ hr
  have hflat : ∀ ij, p0 = some ij → flat es = true := by rintro ij rfl; simpa using hf
  refine ⟨fun r b hb => ?_, fun r p bx k' es' hrow => ?_, ?_, fun B hB => hB.1, fun B hB => ⟨not_mine h q p0 (h.tb B hB).1, (h.tb B hB).2⟩⟩
  · rcases Nat.lt_or_ge r 1 with h1 | h1
    · exact h1
    · rw [R1_other (by omega)] at hb; simp at hb
  · have hr0 : r = 0 := by
      rcases Nat.eq_zero_or_pos r with h1 | h1
      · exact h1
      · rw [row_none (R1_other (by omega))] at hrow; simp at hrow
    subst hr0
    cases p with
    | none =>
      rw [row_root R1_zero] at hrow
      simp only [Option.some.injEq, Prod.mk.injEq] at hrow
      obtain ⟨rfl, rfl, rfl⟩ := hrow
      refine ⟨h0.shape, fun hbx i j hi hj => ?_, h0.no, fun b o T hL => ?_⟩
      · have hc := h0.cells rfl i j hi hj
        cases p0 with
        | none => exact hc
        | some ij =>
          have hs := flat_cellAt (hflat ij rfl) h0.shape hi hj
          revert hs
          cases cellAt es i j <;> simp [scal, cellOk]
      · have hL' : L q p0 = some (b, o, T) := by simpa [Lone] using hL
        obtain ⟨h1, h2, h3, h4⟩ := h0.yes b o T hL'
        refine ⟨fun hp => hp.2 ⟨p0, _, o, T, .inr rfl, hr, hL'⟩, h2, h3, fun i j hi hj => ?_⟩
        obtain ⟨v, hv, hC⟩ := h4 i j hi hj
        refine ⟨v, hv, ?_⟩
        have hc := h0.cells rfl i j hi hj
        cases hcell : cellAt es i j with
        | tree k1 es1 =>
          rw [hcell] at hC hc
          cases p0 with
          | none =>
            simp only [Cl] at hC ⊢
            simpa [Lone] using hC
          | some ij => exact absurd hcell (flat_no_tree (hflat ij rfl) h0.shape)
        | dead => exact Cl_scal (.inr rfl) (hcell ▸ hC)
        | _ => rw [hcell] at hc hC; first | exact Cl_scal (.inl hc) hC | exact Cl_scal (.inl (by simpa [cellOk] using hc)) hC
    | some ij =>
      obtain ⟨i, j⟩ := ij
      rw [row_cell_iff R1_zero] at hrow
      obtain ⟨_, rfl, hcell⟩ := hrow
      simp only at hcell
      cases p0 with
      | some ij => exact absurd hcell (flat_no_tree (hflat ij rfl) h0.shape)
      | none =>
        obtain ⟨b, hb⟩ := row_some hr
        have hbe := hr
        rw [row_root hb] at hbe
        simp only [Option.some.injEq, Prod.mk.injEq] at hbe
        obtain ⟨e1, e2, e3⟩ := hbe
        have hrow' : row R q (some (i, j)) = some (false, k', es') := (row_cell_iff hb).2 ⟨e1, rfl, by rw [e3]; exact hcell⟩
        have h1 := h.rows _ _ _ _ _ hrow'
        refine ⟨h1.shape, h1.cells, fun hL => h1.no (by simpa [Lone] using hL), fun b o T hL => ?_⟩
        have hL' : L q (some (i, j)) = some (b, o, T) := by simpa [Lone] using hL
        obtain ⟨g1, g2, g3, g4⟩ := h1.yes b o T hL'
        refine ⟨fun hp => hp.2 ⟨some (i, j), _, o, T, .inl rfl, hrow', hL'⟩, g2, g3, fun i1 j1 hi hj => ?_⟩
        obtain ⟨v, hv, hC⟩ := g4 i1 j1 hi hj
        refine ⟨v, hv, Cl_scal ?_ hC⟩
        have hc := h1.cells rfl i1 j1 hi hj
        cases hcell : cellAt es' i1 j1 <;> rw [hcell] at hc <;> simp_all [cellOk, scal]
  · intro r p x r' p' x' b o T o' T' g1 g2 g3 g4
    have z : ∀ {r : Nat} {p : Option (Nat × Nat)} {y : Nat × Nat × Nat}, Lone L q p0 r p = some y → r = 0 := by
      intro r p y hy
      unfold Lone at hy
      split at hy
      · assumption
      · simp at hy
    obtain rfl := z g3
    obtain rfl := z g4
    refine ⟨rfl, ?_⟩
    have conv : ∀ {p : Option (Nat × Nat)} {x : Bool × Nat × List (List AV)} {y : Nat × Nat × Nat}, row (R1 k es) 0 p = some x → Lone L q p0 0 p = some y → ∃ x', row R q (if p = none then p0 else p) = some x' ∧ L q (if p = none then p0 else p) = some y ∧ (p ≠ none → p0 = none) := by
      intro p x y hx hy
      cases p with
      | none => exact ⟨_, by simpa using hr, by simpa [Lone] using hy, by simp⟩
      | some ij =>
        obtain ⟨i, j⟩ := ij
        obtain ⟨bx1, k1, es1⟩ := x
        rw [row_cell_iff R1_zero] at hx
        cases p0 with
        | some ij0 => exact absurd hx.2.2 (flat_no_tree (hflat ij0 rfl) h0.shape)
        | none =>
          obtain ⟨b, hb⟩ := row_some hr
          have hbe := hr
          rw [row_root hb] at hbe
          simp only [Option.some.injEq, Prod.mk.injEq] at hbe
          obtain ⟨e1, e2, e3⟩ := hbe
          refine ⟨(false, k1, es1), ?_, by simpa [Lone] using hy, fun _ => rfl⟩
          simpa using (row_cell_iff hb).2 ⟨e1, rfl, by rw [e3]; exact hx.2.2⟩
    obtain ⟨y1, c1, c2, c3⟩ := conv g1 g3
    obtain ⟨y2, c4, c5, c6⟩ := conv g2 g4
    have := (h.inj _ _ _ _ _ _ _ _ _ _ _ c1 c4 c2 c5).2
    cases p <;> cases p' <;> simp_all
def Back (L : Lf) (q : Nat) (p0 : Option (Nat × Nat)) (L' : Lf) : Lf := fun q' p => if q' = q ∧ (p0 = none ∨ p = p0) then L' 0 (if p = p0 then none else p) else L q' p
theorem row_back {R Rs : Rf} {q k g : Nat} {b b' : Blk} {p0 : Option (Nat × Nat)} {es : List (List AV)} (hb : R q = some b) (hr : row R q p0 = some (false, k, es)) (hs : Rs 0 = some b') (hb1 : b'.box = false) (hb2 : b'.k = k) (hlen : b'.es.length = es.length)
    (hf' : (if p0.isSome then flat b'.es else solid b'.es) = true) (hsh : ∀ e ∈ b'.es, e.length = k)
    {r1 : Nat} {p1 : Option (Nat × Nat)} {bx1 : Bool} {k1 : Nat} {es1 : List (List AV)} (h1 : row (upd R q (some { b with gen := g, es := setP b.es p0 fun _ => b'.es })) r1 p1 = some (bx1, k1, es1)) :
    ((r1 = q ∧ (p0 = none ∨ p1 = p0)) ∧ bx1 = false ∧ row Rs 0 (if p1 = p0 then none else p1) = some (false, k1, es1)) ∨
    (¬ (r1 = q ∧ (p0 = none ∨ p1 = p0)) ∧ ∃ es0, row R r1 p1 = some (bx1, k1, es0) ∧ es1.length = es0.length ∧ ((∀ e ∈ es0, e.length = k1) → ∀ e ∈ es1, e.length = k1) ∧
      ∀ i1 j1, cellAt es1 i1 j1 = cellAt es0 i1 j1 ∨ (r1 = q ∧ p1 = none ∧ p0 = some (i1, j1) ∧ cellAt es0 i1 j1 = .tree k es ∧ cellAt es1 i1 j1 = .tree k b'.es)) := by
  by_cases hr1 : r1 = q
  · subst hr1
    have hb' : upd R r1 (some { b with gen := g, es := setP b.es p0 fun _ => b'.es }) r1 = some { b with gen := g, es := setP b.es p0 fun _ => b'.es } := by simp
    cases p0 with
    | none =>
      rw [row_root hb] at hr
      simp only [Option.some.injEq, Prod.mk.injEq] at hr
      obtain ⟨e1, rfl, rfl⟩ := hr
      refine .inl ⟨⟨rfl, .inl rfl⟩, ?_⟩
      cases p1 with
      | none =>
        rw [row_root hb'] at h1
        simp only [Option.some.injEq, Prod.mk.injEq, setP] at h1
        obtain ⟨h2, h3, h4⟩ := h1
        refine ⟨by rw [← h2]; exact e1, ?_⟩
        rw [if_pos rfl, row_root hs, hb1, hb2, h3, h4]
      | some ij =>
        obtain ⟨i, j⟩ := ij
        rw [row_cell_iff hb'] at h1
        obtain ⟨_, h3, h4⟩ := h1
        simp only [setP] at h4
        refine ⟨h3, ?_⟩
        rw [if_neg (by simp)]
        exact (row_cell_iff hs).2 ⟨hb1, rfl, h4⟩
    | some ij0 =>
      obtain ⟨i0, j0⟩ := ij0
      rw [row_cell_iff hb] at hr
      obtain ⟨h2, _, h3⟩ := hr
      have hset : (setP b.es (some (i0, j0)) fun _ => b'.es) = setAt b.es i0 j0 (.tree k b'.es) := by simp [setP, h3]
      have hin : i0 < b.es.length ∧ j0 < (b.es.getD i0 []).length := by
        have h3' := h3
        unfold cellAt at h3'
        have h5 : j0 < (b.es.getD i0 []).length := by
          rcases Nat.lt_or_ge j0 (b.es.getD i0 []).length with h | h
          · exact h
          · rw [getD_out (Nat.not_lt.2 h)] at h3'; cases h3'
        refine ⟨?_, h5⟩
        rcases Nat.lt_or_ge i0 b.es.length with h | h
        · exact h
        · rw [getD_out (Nat.not_lt.2 h)] at h5; simp at h5
      cases p1 with
      | none =>
        rw [row_root hb'] at h1
        simp only [Option.some.injEq, Prod.mk.injEq] at h1
        obtain ⟨h4, h5, h6⟩ := h1
        rw [hset] at h6
        refine .inr ⟨by simp, b.es, by rw [row_root hb, h4, h5], by rw [← h6]; simp, fun hs => by rw [← h6]; exact shape_setAt hs _ _ _, fun i1 j1 => ?_⟩
        rw [← h6, cellAt_setAt]
        split
        · rename_i h7
          exact .inr ⟨rfl, rfl, by rw [h7.1, h7.2.1], by rw [h7.1, h7.2.1]; exact h3, rfl⟩
        · exact .inl rfl
      | some q1 =>
        obtain ⟨i1, j1⟩ := q1
        rw [row_cell_iff hb'] at h1
        obtain ⟨h4, h5, h6⟩ := h1
        simp only at h6
        rw [hset, cellAt_setAt] at h6
        split at h6
        · rename_i h7
          simp only [AV.tree.injEq] at h6
          refine .inl ⟨⟨rfl, .inr (by rw [h7.1, h7.2.1])⟩, h5, ?_⟩
          rw [if_pos (by rw [h7.1, h7.2.1]), row_root hs, hb1, hb2, h6.1, h6.2]
        · rename_i h7
          refine .inr ⟨?_, es1, (row_cell_iff hb).2 ⟨h4, h5, h6⟩, rfl, id, fun _ _ => .inl rfl⟩
          rintro ⟨_, h8⟩
          simp only [Option.some.injEq, Prod.mk.injEq, reduceCtorEq, false_or] at h8
          exact h7 ⟨h8.1, h8.2, hin⟩
  · rw [row_congr (upd_ne _ _ hr1)] at h1
    exact .inr ⟨fun h => hr1 h.1, es1, h1, rfl, id, fun _ _ => .inl rfl⟩
theorem pres_back {R Rs : Rf} {q k nx : Nat} {b b' : Blk} {p0 : Option (Nat × Nat)} {es : List (List AV)} {L L' : Lf} (hb : R q = some b) (hr : row R q p0 = some (false, k, es)) (hs : Rs 0 = some b') (hb1 : b'.box = false) (hb2 : b'.k = k) (hlen : b'.es.length = es.length)
    (hf' : (if p0.isSome then flat b'.es else solid b'.es) = true) (hsh : ∀ e ∈ b'.es, e.length = k) (hL : L' 0 none = L q p0) :
    Pres R nx L (upd R q (some { b with gen := b.gen + (if p0.isSome then 0 else 1), es := setP b.es p0 fun _ => b'.es })) nx (Back L q p0 L') := by
  refine ⟨Nat.le_refl _, fun r1 b1 hr1 hb1' => ?_, fun rf hq hgo bx1 k1 es1 he => ?_⟩
  · by_cases e : r1 = q
    · subst e
      simp only [upd_same, Option.some.injEq] at hb1'
      subst hb1'
      exact ⟨b, hb, Nat.le_add_right _ _⟩
    · rw [upd_ne _ _ e] at hb1'
      exact ⟨b1, hb1', Nat.le_refl _⟩
  · by_cases e : rf.root = q
    · have hrow := getB_row he
      have hget : ∀ x, row R rf.root rf.path = some x → (p0.isSome = true ∨ rf.path = none) → getB R rf = some x := by
        intro x hx hor
        obtain ⟨rr, rp, rg⟩ := rf
        simp only at e hx hor he
        subst e
        cases rp with
        | none => rw [row_root hb] at hx; unfold getB; simp only [hb]; exact hx
        | some ij =>
          have h2 : p0.isSome = true := by simpa using hor
          unfold getB at he
          simp only [upd_same, h2, if_true, Nat.add_zero] at he
          split at he
          · rename_i hc
            refine getB_of_row hx fun b2 hb2' => ?_
            rw [hb] at hb2'
            simp only [Option.some.injEq] at hb2'
            subst hb2'
            exact hc.2
          · simp at he
      rcases row_back hb hr hs hb1 hb2 hlen hf' hsh hrow with ⟨⟨h1, h2⟩, h3, h4⟩ | ⟨h1, es0, h2, h3, _, _⟩
      · by_cases hp : rf.path = p0
        · rw [if_pos hp, row_root hs, hb1, hb2] at h4
          simp only [Option.some.injEq, Prod.mk.injEq, true_and] at h4
          obtain ⟨rfl, rfl⟩ := h4
          subst h3
          refine ⟨es, ?_, hlen.symm, ?_⟩
          · refine hget _ (by rw [e, hp]; exact hr) ?_
            rw [hp]
            cases p0 <;> simp
          · unfold Back
            rw [if_pos ⟨h1, h2⟩, if_pos hp, hL, e, hp]
        · have hp0 : p0 = none := by
            rcases h2 with h2 | h2
            · exact h2
            · exact absurd h2 hp
          subst hp0
          exfalso
          -- a hung row was named before
          unfold getB at he
          rw [e] at he
          simp only [upd_same] at he
          obtain ⟨rr, rp, rg⟩ := rf
          simp only at e hp he
          cases rp with
          | none => exact hp rfl
          | some ij =>
            simp only [Option.isSome_none, Bool.false_eq_true, if_false] at he
            split at he
            · rename_i hc
              have h5 := hgo b (by simp only; rw [e]; exact hb) (by simp)
              have h6 := hc.2
              simp only at h5
              omega
            · simp at he
      · have hp : p0.isSome = true := by
          cases p0 with
          | none => exact absurd ⟨e, .inl rfl⟩ h1
          | some _ => rfl
        refine ⟨es0, hget _ h2 (.inl hp), h3.symm, ?_⟩
        unfold Back
        rw [if_neg h1]
    · have h1 : getB R rf = some (bx1, k1, es1) := by rw [← he]; exact (getB_congr (upd_ne _ _ e)).symm
      refine ⟨es1, h1, rfl, ?_⟩
      unfold Back
      rw [if_neg (fun h => e h.1)]
theorem Cl_back {RO' : Bx} {w' : World} {R R' : Rf} {nx nx' : Nat} {L L' : Lf} {q i j : Nat} {c : AV} {v : Value} (hc : cellOk none c) (hl : ∀ k es, c = .tree k es → L' q (some (i, j)) = L 0 (some (i, j))) (h : Cl RO' w' R nx L 0 false i j c v) : Cl RO w' R' nx' L' q false i j c v := by
  cases c with
  | tree k es =>
    simp only [Cl] at h ⊢
    rw [hl k es rfl]
    exact h
  | dead => exact Cl_scal (.inr rfl) h
  | _ => first | exact Cl_scal (.inl hc) h | exact Cl_scal (.inl (by simpa [cellOk] using hc)) h
theorem rel_back {R Rs : Rf} {q k nx ns : Nat} {b b' : Blk} {p0 : Option (Nat × Nat)} {es : List (List AV)} {L L' : Lf} {w' : World} (h : HRel RO w R nx L) (hb : R q = some b) (hr : row R q p0 = some (false, k, es)) (hs : Rs 0 = some b') (hb1 : b'.box = false) (hb2 : b'.k = k) (hlen : b'.es.length = es.length)
    (hf' : (if p0.isSome then flat b'.es else solid b'.es) = true) (hL : L' 0 none = L q p0)
    (hrel : HRel (BxM RO w R L q p0 (fun B hB => not_mine h q p0 (RO.sub B hB))) w' Rs ns L') (hsame : Same (BxM RO w R L q p0 (fun B hB => not_mine h q p0 (RO.sub B hB))) w w') (hsz : w.heap.size ≤ w'.heap.size) :
    HRel RO w' (upd R q (some { b with gen := b.gen + (if p0.isSome then 0 else 1), es := setP b.es p0 fun _ => b'.es })) nx (Back L q p0 L') ∧ Same RO w w' := by
  have hsR : Same RO w w' := fun B hB => hsame B (not_mine h q p0 hB)
  have hrs : row Rs 0 none = some (false, k, b'.es) := by rw [row_root hs, hb1, hb2]
  have h0 := hrel.rows _ _ _ _ _ hrs
  have hsh := h0.shape
  have hpres := pres_back (nx := nx) hb hr hs hb1 hb2 hlen hf' hsh hL
  have hsome : ∀ {r1 p1 x}, row (upd R q (some { b with gen := b.gen + (if p0.isSome then 0 else 1), es := setP b.es p0 fun _ => b'.es })) r1 p1 = some x → row (upd R q (some { b with gen := b.gen + (if p0.isSome then 0 else 1), es := setP b.es p0 fun _ => b'.es })) r1 p1 = some (x.1, x.2.1, x.2.2) := fun h => h
  -- a block that was there and is none of these
  have aside : ∀ r1 p1 x B o T, ¬ (r1 = q ∧ (p0 = none ∨ p1 = p0)) → row R r1 p1 = some x → L r1 p1 = some (B, o, T) → B < w.heap.size ∧ ¬ Mine R L q p0 B := by
    intro r1 p1 x B o T hn hrow hLL
    obtain ⟨bx, k1, es1⟩ := x
    refine ⟨((h.rows _ _ _ _ _ hrow).yes _ _ _ hLL).2.1.lt, ?_⟩
    rintro ⟨p, y, o', T', hp, hrow', hL'⟩
    obtain ⟨e1, e2⟩ := h.inj _ _ _ _ _ _ _ _ _ _ _ hrow hrow' hLL hL'
    exact hn ⟨e1, by rw [e2]; exact hp⟩
  refine ⟨⟨fun r b1 hb1' => ?_, fun r1 p1 bx1 k1 es1 hrow => ?_, ?_, fun B hB => Nat.lt_of_lt_of_le (h.ro B hB) hsz, h.tbs hsR⟩, hsR⟩
  · by_cases e : r = q
    · rw [e]; exact h.dom q b hb
    · rw [upd_ne _ _ e] at hb1'; exact h.dom r b1 hb1'
  · rcases row_back hb hr hs hb1 hb2 hlen hf' hsh hrow with ⟨h1, rfl, h4⟩ | ⟨h1, es0, h2, h3, h4, h5⟩
    · have g0 := hrel.rows _ _ _ _ _ h4
      have hBack : ∀ p, (p0 = none ∨ p = p0) → Back L q p0 L' q p = L' 0 (if p = p0 then none else p) := fun p hp => by unfold Back; rw [if_pos ⟨rfl, hp⟩]
      obtain ⟨rfl, h1⟩ := h1
      have flatC : ∀ i j, i < es1.length → j < k1 → p0.isSome = true → scal (cellAt es1 i j) = true := by
        intro i j hi hj hp
        have : p1 = p0 := by
          rcases h1 with h1 | h1
          · rw [h1] at hp; simp at hp
          · exact h1
        rw [if_pos this, row_root hs] at h4
        simp only [Option.some.injEq, Prod.mk.injEq] at h4
        obtain ⟨_, h6, h7⟩ := h4
        rw [if_pos hp] at hf'
        rw [← h7]
        exact flat_cellAt hf' hsh (by rw [h7]; exact hi) (by rw [← hb2, h6]; exact hj)
      refine ⟨g0.shape, fun _ i j hi hj => ?_, fun hL0 => g0.no (by rw [← hBack p1 h1]; exact hL0), fun B o T hLB => ?_⟩
      · have hc := g0.cells rfl i j hi hj
        by_cases hp : p0.isSome = true
        · have := flatC i j hi hj hp
          revert this
          cases cellAt es1 i j <;> simp [scal, cellOk]
        · have : p0 = none := by cases p0 <;> simp_all
          subst this
          by_cases hp1 : p1 = none
          · subst hp1; rw [if_pos rfl] at hc; exact hc
          · rw [if_neg hp1] at hc; exact hc
      · rw [hBack p1 h1] at hLB
        obtain ⟨g1, g2, g3, g4⟩ := g0.yes B o T hLB
        refine ⟨fun hp => g1 (not_mine h r1 p0 hp), g2, g3, fun i j hi hj => ?_⟩
        obtain ⟨v, hv, hC⟩ := g4 i j hi hj
        refine ⟨v, hv, ?_⟩
        have hc := g0.cells rfl i j hi hj
        by_cases hp : p0.isSome = true
        · exact Cl_scal (.inl (flatC i j hi hj hp)) hC
        · have : p0 = none := by cases p0 <;> simp_all
          subst this
          by_cases hp1 : p1 = none
          · subst hp1
            rw [if_pos rfl] at hc
            exact Cl_back hc (fun _ _ _ => by rw [hBack _ (.inl rfl)]; simp) hC
          · rw [if_neg hp1] at hc
            have : scal (cellAt es1 i j) = true ∨ cellAt es1 i j = .dead := by
              cases p1 with
              | none => exact absurd rfl hp1
              | some ij => revert hc; cases cellAt es1 i j <;> simp [cellOk, scal]
            exact Cl_scal this hC
    · have g0 := h.rows _ _ _ _ _ h2
      have hBack : Back L q p0 L' r1 p1 = L r1 p1 := by unfold Back; rw [if_neg h1]
      refine ⟨h4 g0.shape, fun hbx i j hi hj => ?_, fun hL0 => ?_, fun B o T hLB => ?_⟩
      · have hc := g0.cells hbx i j (by omega) hj
        rcases h5 i j with h6 | ⟨_, h7, h8, _, h9⟩
        · rw [h6]; exact hc
        · rw [h9]
          refine ⟨h7, ?_⟩
          rw [h8] at hf'
          simpa using hf'
      · rw [hBack] at hL0
        have := g0.no hL0
        rw [this] at h3
        exact List.length_eq_zero_iff.1 h3
      · rw [hBack] at hLB
        obtain ⟨g1, g2, g3, g4⟩ := g0.yes B o T hLB
        obtain ⟨a1, a2⟩ := aside _ _ _ _ _ _ h1 h2 hLB
        have hcell : ∀ o', w'.cell? ⟨B, o', none⟩ = w.cell? ⟨B, o', none⟩ := fun o' => cell_of (hsame B ⟨a1, a2⟩)
        refine ⟨g1, ⟨Nat.lt_of_lt_of_le g2.lt hsz, fun i hi => ?_, fun i hi => ?_⟩, by rw [h3]; exact g3, fun i j hi hj => ?_⟩
        · obtain ⟨v, hv⟩ := g2.cell i hi
          exact ⟨v, (hcell _).trans hv⟩
        · exact (frozen_of (hsame B ⟨a1, a2⟩)).trans (g2.free i hi)
        · obtain ⟨v, hv, hC⟩ := g4 i j (by omega) hj
          refine ⟨v, (hcell _).trans hv, ?_⟩
          rcases h5 i j with h6 | ⟨e1, e2, e3, e4, e5⟩
          · rw [h6]
            by_cases hown : bx1 = false ∧ (∃ k es, cellAt es0 i j = .tree k es) ∧ r1 = q ∧ some (i, j) = p0
            · obtain ⟨rfl, ⟨k2, es2, e1⟩, rfl, e3⟩ := hown
              rw [e1] at hC ⊢
              simp only [Cl] at hC ⊢
              have : Back L r1 p0 L' r1 (some (i, j)) = L r1 (some (i, j)) := by
                unfold Back; rw [if_pos ⟨rfl, .inr e3⟩, if_pos e3, hL, e3]
              rw [this]; exact hC
            · refine Cl.mono hsR hpres (fun k2 es2 e1 e2 => ?_) hC
              unfold Back
              rw [if_neg]
              rintro ⟨e3, e4⟩
              rcases e4 with e4 | e4
              · exact h1 ⟨e3, .inl e4⟩
              · exact hown ⟨e2, ⟨k2, es2, e1⟩, e3, e4⟩
          · rw [e5]
            rw [e4] at hC
            have hbx : bx1 = false := by
              rw [e1, e2] at h2
              rw [e3] at hr
              rw [row_cell_iff hb] at hr
              rw [row_root hb] at h2
              simp only [Option.some.injEq, Prod.mk.injEq] at h2
              rw [← h2.1]; exact hr.1
            subst hbx
            simp only [Cl] at hC ⊢
            have : Back L q p0 L' r1 (some (i, j)) = L r1 (some (i, j)) := by
              unfold Back; rw [if_pos ⟨e1, .inr e3.symm⟩, if_pos e3.symm, hL, e3, e1]
            rw [this, hlen]; exact hC
  · intro r p x r' p' x' B o T o' T' g1 g2 g3 g4
    obtain ⟨bx, kx, ex⟩ := x
    obtain ⟨bx', kx', ex'⟩ := x'
    rcases row_back hb hr hs hb1 hb2 hlen hf' hsh g1 with ⟨h1, _, h2⟩ | ⟨h1, es0, h2, _, _, _⟩ <;> rcases row_back hb hr hs hb1 hb2 hlen hf' hsh g2 with ⟨k1, _, k2⟩ | ⟨k1, es0', k2, _, _, _⟩
    · unfold Back at g3 g4
      rw [if_pos h1] at g3
      rw [if_pos k1] at g4
      have := (hrel.inj _ _ _ _ _ _ _ _ _ _ _ h2 k2 g3 g4).2
      refine ⟨h1.1.trans k1.1.symm, ?_⟩
      by_cases e1 : p = p0 <;> by_cases e2 : p' = p0
      · rw [e1, e2]
      · rw [if_pos e1, if_neg e2] at this
        rcases k1.2 with e3 | e3
        · rw [e1, e3, this]
        · exact absurd e3 e2
      · rw [if_neg e1, if_pos e2] at this
        rcases h1.2 with e3 | e3
        · rw [e2, e3, this]
        · exact absurd e3 e1
      · rw [if_neg e1, if_neg e2] at this; exact this
    · exfalso
      unfold Back at g3 g4
      rw [if_pos h1] at g3
      rw [if_neg k1] at g4
      exact ((hrel.rows _ _ _ _ _ h2).yes _ _ _ g3).1 (aside _ _ _ _ _ _ k1 k2 g4)
    · exfalso
      unfold Back at g3 g4
      rw [if_neg h1] at g3
      rw [if_pos k1] at g4
      exact ((hrel.rows _ _ _ _ _ k2).yes _ _ _ g4).1 (aside _ _ _ _ _ _ h1 h2 g3)
    · unfold Back at g3 g4
      rw [if_neg h1] at g3
      rw [if_neg k1] at g4
      exact h.inj _ _ _ _ _ _ _ _ _ _ _ h2 k2 g3 g4
theorem scal_V {RO' : Bx} {w' : World} {R R' : Rf} {nx nx' : Nat} {L L' : Lf} {c : AV} (h2 : scal c = true) {v : Value} (h1 : V RO w R nx L c v) : V RO' w' R' nx' L' c v := by
  cases c <;> simp [scal] at h2 <;> simp only [V, Rd] at h1 ⊢ <;> exact h1
theorem scals_V {RO' : Bx} {w' : World} {R R' : Rf} {nx nx' : Nat} {L L' : Lf} : ∀ {cs : List AV} {vs : List Value}, scals cs = true → VL RO w R nx L cs vs → VL RO' w' R' nx' L' cs vs
  | [], [], _, _ => by simp [VL]
  | c :: cs, v :: vs, hs, h => by
    simp only [scals, Bool.and_eq_true] at hs
    simp only [VL] at h ⊢
    exact ⟨scal_V hs.1 h.1, scals_V hs.2 h.2⟩
  | [], _ :: _, _, h => by simp [VL] at h
  | _ :: _, [], _, h => by simp [VL] at h
theorem byv_mark (hctx : CtxOk P ctx) {f : FuncId} {fn : Func} {F : RF} {ks : Keeps} (hf : P.funcs[f]? = some fn) (hr : resolveF P fn ks = some F)
    {G : ByV} {i0 : Nat} (hmt : G.mt = some i0) {ro : Bool} (hsem : ∀ args r, G.sem args = some r → semF ctx F (some i0) ro args = some r) : InlOk P f (callS (.byv G)) := by
  refine ⟨enters_of hf hr, ?_⟩
  intro RO w hp L avs args v hp' h hV hcall
  simp only [callS, hmt] at hcall
  split at hcall
  · rename_i r k off len rest
    split at hcall
    · rename_i k' es hget
      by_cases hcond : (k' = k ∧ off = 0 ∧ len = es.length ∧ scals rest = true ∧ (if r.path.isSome = true then flat es else solid es) = true)
      · rw [if_pos hcond] at hcall
        obtain ⟨rfl, rfl, rfl, hrest, hfl⟩ := hcond
        split at hcall
        · rename_i v1 es' hs1
          by_cases hcond2 : (scal v1 = true ∧ (if r.path.isSome = true then flat es' else solid es') = true)
          · rw [if_pos hcond2] at hcall
            obtain ⟨hsc, hfl'⟩ := hcond2
            simp only [Option.some.injEq, Prod.mk.injEq] at hcall
            obtain ⟨rfl, rfl⟩ := hcall
            have hs2 := hsem _ _ hs1
            unfold semF at hs2
            split at hs2
            · simp at hs2
            · rename_i hn
              simp only at hs2
              have hrow := getB_row hget
              obtain ⟨b, hb⟩ := row_some hrow
              obtain ⟨rq, rp, rg⟩ := r
              simp only at hrow hb hfl hfl' hget ⊢
              have hrel1 := lone_rel h hrow hfl
              have hn' : (AV.sl ⟨0, none, 0⟩ k' 0 es.length :: rest).length = F.nargs := by simpa using hn
              have hVps : VL (BxM RO w (root? hp) L rq rp (fun B hB => not_mine h rq rp (RO.sub B hB))) w (R1 k' es) 1 (Lone L rq rp) (.sl ⟨0, none, 0⟩ k' 0 es.length :: rest) args.toList := by
                match hargs : args.toList, hV with
                | x :: xs, hV =>
                  simp only [VL] at hV ⊢
                  refine ⟨?_, scals_V hrest hV.2⟩
                  have hx := hV.1
                  simp only [V] at hx ⊢
                  obtain ⟨_, _, h3, h4⟩ := hx
                  obtain ⟨h5, A, cap, h6, h7, h8⟩ := h4 es hget
                  refine ⟨by omega, fun _ _ hp => absurd rfl hp, h3, fun es1 he => ?_⟩
                  simp only [getB, R1_zero, Option.some.injEq, Prod.mk.injEq, true_and] at he
                  subst he
                  refine ⟨by omega, A, cap, h6, h7, ?_⟩
                  rcases h8 with h8 | ⟨b1, o1, T1, h8, h9⟩
                  · exact .inl h8
                  · exact .inr ⟨b1, o1, T1, by simpa [Lone] using h8, h9⟩
                | [], hV => simp [VL] at hV
              have key : ∀ e s, (e = .nrm ∨ e = .ret) → run ctx 1 F.body ⟨params 0 (.sl ⟨0, none, 0⟩ k' 0 es.length :: rest), [some ⟨false, 0, k', es⟩]⟩ = some (e, s) → (match result F s with
                  | some v => (match root? s.hp 0 with | some b => some (v, b.es) | none => none)
                  | none => none) = some (v1, es') → Calls P f args w (fun e w' => ∃ x L', e = .returned x ∧ Adv RO w (root? hp) hp.length L w' (root? (setB hp ⟨rq, rp, rg⟩ (if rp.isSome then 0 else 1) fun _ => es')) (setB hp ⟨rq, rp, rg⟩ (if rp.isSome then 0 else 1) fun _ => es').length L' ∧ V RO w' (root? (setB hp ⟨rq, rp, rg⟩ (if rp.isSome then 0 else 1) fun _ => es')) (setB hp ⟨rq, rp, rg⟩ (if rp.isSome then 0 else 1) fun _ => es').length L' v1 x) := by
                intro e s he hrun hres
                split at hres
                · rename_i v0 hv0
                  split at hres
                  · rename_i b' hb'
                    simp only [Option.some.injEq, Prod.mk.injEq] at hres
                    obtain ⟨rfl, rfl⟩ := hres
                    refine Calls.mono (body_ok (hp := [some ⟨false, 0, k', es⟩]) hctx hf hr hrel1 hVps hn' he hrun hv0) ?_
                    rintro e w' ⟨x, L', N, a, rfl, hi, hVx⟩
                    have hgetS : getB (root? s.hp) ⟨0, none, 0⟩ = some (b'.box, b'.k, b'.es) := by simp [getB, hb']
                    obtain ⟨es0, e1, e2, e3⟩ := hi.pres.keep ⟨0, none, 0⟩ (by simp) (fun _ _ hp => absurd rfl hp) _ _ _ hgetS
                    have e1' : getB (R1 k' es) ⟨0, none, 0⟩ = some (b'.box, b'.k, es0) := e1
                    simp only [getB, R1_zero, Option.some.injEq, Prod.mk.injEq] at e1'
                    obtain ⟨b1, b2, rfl⟩ := e1'
                    have e3' : L' 0 none = L rq rp := by
                      have : L' 0 none = Lone L rq rp 0 none := e3
                      rw [this]; simp [Lone]
                    have hlen := (hi.rel.rows 0 none false k' b'.es (by rw [row_root hb', ← b1, ← b2])).shape
                    obtain ⟨hr2, hs2'⟩ := rel_back h hb hrow hb' b1.symm b2.symm e2.symm hfl' e3' hi.rel hi.same hi.size
                    have hp2 := pres_back (nx := hp.length) hb hrow hb' b1.symm b2.symm e2.symm hfl' hlen e3'
                    have hlen2 : (setB hp ⟨rq, rp, rg⟩ (if rp.isSome then 0 else 1) fun _ => b'.es).length = hp.length := by simp only [setB, hb]; simp
                    have hroot := root_setB (r := ⟨rq, rp, rg⟩) (n := if rp.isSome then 0 else 1) (f := fun _ => b'.es) hb
                    rw [hlen2, hroot]
                    exact ⟨x, _, rfl, ⟨hr2, hp2, hs2', hi.size, hi.os, hi.tape, hi.output⟩, scal_V hsc hVx⟩
                  · simp at hres
                · simp at hres
              split at hs2
              · rename_i s hrun
                exact key _ s (.inl rfl) hrun hs2
              · rename_i s hrun
                exact key _ s (.inr rfl) hrun hs2
              · simp at hs2
          · rw [if_neg hcond2] at hcall; simp at hcall
        · simp at hcall
      · rw [if_neg hcond] at hcall; simp at hcall
    · simp at hcall
  · simp at hcall
end
def byvM (G : ByV) (args : List AV) (hp : Hp) : Option (AV × Hp) :=
  match args with
  | .sl r k off len :: rest =>
    match getB (root? hp) r with
    | some (false, k', es) =>
      if k' = k ∧ off = 0 ∧ len = es.length ∧ scals rest = true ∧ (if r.path.isSome then flat es else solid es) = true then
        match G.sem (.tree k es :: rest) with
        | some (v, es') => if scal v = true ∧ (if r.path.isSome then flat es' else solid es') = true then some (v, setB hp r (if r.path.isSome then 0 else 1) fun _ => es') else none
        | none => none
      else none
    | _ => none
  | _ => none
theorem callS_byvM {G : ByV} {i : Nat} (h1 : G.mt = some i) (args : List AV) (hp : Hp) : callS (.byv G) args hp = byvM G args hp := by
  simp only [callS, byvM, h1]
  rfl
end Go.Proofs.Ytldmpjoddghdkaa.AI
