import Derived.Test.YtldmpjoddghdkaaAOps5
namespace Go.Proofs.Ytldmpjoddghdkaa.AI
set_option linter.all false
open Go.RowKit
set_option autoImplicit false
set_option linter.unusedVariables false
set_option linter.unusedSimpArgs false
variable [Tabs]
section
variable {P : Program} {RO : Bx} {nx : Nat} {tm : List (Nat × AV)} {a : Act}
def Piece (RO : Bx) (w : World) (R : Rf) (nx : Nat) (L : Lf) (s : Option (Nat × Nat × Nat)) (c : AV) (v : Value) : Prop :=
  match c with
  | .tree k es => ∃ A cap, v = .slice A es.length cap ∧ es.length ≤ cap ∧ (cap = 0 ∨ ∃ q i j b o T, s = some (q, i, j) ∧ L q (some (i, j)) = some (b, o, T) ∧ A = some ⟨b, o, none⟩ ∧ cap * k ≤ T)
  | .dead => True
  | c => scal c = true ∧ V RO w R nx L c v
def srcL (L : Lf) (l0 : Option (Nat × Nat × Nat)) (src : Nat → Nat → Option (Nat × Nat × Nat)) : Option (Nat × Nat) → Option (Nat × Nat × Nat)
  | none => l0
  | some (i, j) => match src i j with | some (q, i', j') => L q (some (i', j')) | none => none
theorem HRel.combine {w w' : World} {R R1 : Rf} {L : Lf} (h : HRel RO w R nx L) (h1 : HRel RO w' R1 nx L) (hsub : ∀ r p x, Go.Proofs.Ytldmpjoddghdkaa.AI.row R1 r p = some x → ∃ x0, Go.Proofs.Ytldmpjoddghdkaa.AI.row R r p = some x0) (blk : Blk) (hbox : blk.box = false) (hsh : ∀ e ∈ blk.es, e.length = blk.k)
    (b' o' T' : Nat) (hsame : Same RO w w') (src : Nat → Nat → Option (Nat × Nat × Nat))
    (hsrc : ∀ i j k es, cellAt blk.es i j = .tree k es → flat es = true ∧ (es = [] ∨ ∃ q i' j', src i j = some (q, i', j')) ∧ ∀ q i' j', src i j = some (q, i', j') → row R1 q (some (i', j')) = none ∧ row R q (some (i', j')) = some (false, k, es) ∧ ∀ b o T, L q (some (i', j')) = some (b, o, T) → Mem w' b o T ∧ ∀ x, x < T → w'.cell? ⟨b, o + x, none⟩ = w.cell? ⟨b, o + x, none⟩)
    (hinj : ∀ i j i2 j2 x k es k2 es2, cellAt blk.es i j = .tree k es → cellAt blk.es i2 j2 = .tree k2 es2 → src i j = some x → src i2 j2 = some x → i = i2 ∧ j = j2)
    (hRO : ¬ RO.pr b') (hmem : Mem w' b' o' T') (hT : blk.es.length * blk.k ≤ T')
    (hb : w.heap.size ≤ b' ∨ ∃ q p x o T, row R1 q p = none ∧ row R q p = some x ∧ L q p = some (b', o, T) ∧ ∀ i j k es i' j', cellAt blk.es i j = .tree k es → src i j = some (q, i', j') → p ≠ some (i', j'))
    (hcell : ∀ i j, i < blk.es.length → j < blk.k → ∃ v, w'.cell? ⟨b', o' + i * blk.k + j, none⟩ = some v ∧ Piece RO w R nx L (src i j) (cellAt blk.es i j) v) :
    HRel RO w' (upd R1 nx (some blk)) (nx + 1) (fun r p => if r = nx then srcL L (some (b', o', T')) src p else L r p) ∧ Pres R1 nx L (upd R1 nx (some blk)) (nx + 1) (fun r p => if r = nx then srcL L (some (b', o', T')) src p else L r p) := by
  have hself : upd R1 nx (some blk) nx = some blk := by simp
  have inRow : ∀ i j k es, cellAt blk.es i j = .tree k es → row (upd R1 nx (some blk)) nx (some (i, j)) = some (false, k, es) := fun i j k es hc => (row_cell_iff hself).2 ⟨hbox, rfl, hc⟩
  refine h1.join (Nat.le_refl _) (by omega) blk (srcL L (some (b', o', T')) src) (fun p bx k es hr => ?_) (fun p x p2 x2 b o T o2 T2 hr hr2 hl hl2 => ?_) (fun p x b o T hr hl r p1 x1 o1 T1 hr1 hL1 => ?_)
  · cases p with
    | none =>
      rw [row_root hself] at hr
      simp only [Option.some.injEq, Prod.mk.injEq] at hr
      obtain ⟨rfl, rfl, rfl⟩ := hr
      refine ⟨hsh, fun _ i j hi hj => ?_, fun hn => by simp [srcL] at hn, fun b o T hL => ?_⟩
      · obtain ⟨v, _, hp⟩ := hcell i j hi hj
        cases hc : cellAt blk.es i j with
        | tree k es => exact ⟨rfl, (hsrc i j k es hc).1⟩
        | dead => trivial
        | _ => rw [hc] at hp; simp only [Piece, scal] at hp; first | (simp [cellOk, scal]; done) | (simp at hp)
      · simp only [if_true, srcL, Option.some.injEq, Prod.mk.injEq] at hL
        obtain ⟨rfl, rfl, rfl⟩ := hL
        refine ⟨hRO, hmem, hT, fun i j hi hj => ?_⟩
        obtain ⟨v, hv, hp⟩ := hcell i j hi hj
        refine ⟨v, hv, ?_⟩
        rw [hbox]
        cases hc : cellAt blk.es i j with
        | tree k es =>
          rw [hc] at hp
          simp only [Piece] at hp
          simp only [Cl]
          obtain ⟨A, cap, e1, e2, e3⟩ := hp
          refine ⟨A, cap, e1, e2, ?_⟩
          rcases e3 with e3 | ⟨q, i', j', b, o, T, e3, e4, e5, e6⟩
          · exact .inl e3
          · exact .inr ⟨b, o, T, by simp [srcL, e3, e4], e5, e6⟩
        | dead => simp only [Cl, V]
        | _ => rw [hc] at hp; simp only [Piece, scal] at hp; first | (obtain ⟨_, hp⟩ := hp; simp only [Cl]; exact V_scal rfl hp) | (simp at hp)
    | some q =>
      obtain ⟨i, j⟩ := q
      rw [row_cell_iff hself] at hr
      obtain ⟨_, rfl, hc⟩ := hr
      obtain ⟨hf, hs, hq⟩ := hsrc i j k es hc
      cases hsr : src i j with
      | none =>
        have hes : es = [] := by
          rcases hs with hs | ⟨q, i', j', hs⟩
          · exact hs
          · rw [hsr] at hs; simp at hs
        subst hes
        exact ⟨by simp, fun _ i j hi => by simp at hi, fun _ => rfl, fun b o T hL => by simp [srcL, hsr] at hL⟩
      | some x =>
        obtain ⟨q, i', j'⟩ := x
        obtain ⟨hq1, hq2, hq3⟩ := hq q i' j' hsr
        have h0 := h.rows _ _ _ _ _ hq2
        refine ⟨h0.shape, fun _ i1 j1 hi1 hj1 => ?_, fun hn => h0.no (by simpa [srcL, hsr] using hn), fun b o T hL => ?_⟩
        · have := flat_cellAt hf h0.shape hi1 hj1
          cases hcc : cellAt es i1 j1 <;> rw [hcc] at this <;> simp [scal] at this <;> simp [cellOk, scal]
        · simp only [if_true, srcL, hsr] at hL
          obtain ⟨e1, e2, e3, e4⟩ := h0.yes _ _ _ hL
          obtain ⟨e5, e6⟩ := hq3 _ _ _ hL
          refine ⟨e1, e5, e3, fun i1 j1 hi1 hj1 => ?_⟩
          obtain ⟨v, hv, hC⟩ := e4 i1 j1 hi1 hj1
          have hsc := flat_cellAt hf h0.shape hi1 hj1
          refine ⟨v, ?_, ?_⟩
          · rw [Nat.add_assoc, e6 _ (idx_lt hi1 hj1 e3), ← Nat.add_assoc]; exact hv
          · rw [Cl.other (scal_not_tree hsc)] at hC ⊢
            exact V_scal hsc hC
  · -- within the new root
    have two : ∀ i j x2 b o T o2 T2, row (upd R1 nx (some blk)) nx (some (i, j)) = some x2 → srcL L (some (b', o', T')) src (some (i, j)) = some (b, o2, T2) → srcL L (some (b', o', T')) src none = some (b, o, T) → False := by
      intro i j x2 b o T o2 T2 hr2 hl2 hl
      simp only [srcL, Option.some.injEq, Prod.mk.injEq] at hl
      obtain ⟨rfl, rfl, rfl⟩ := hl
      obtain ⟨bx, k, es⟩ := x2
      rw [row_cell_iff hself] at hr2
      obtain ⟨_, rfl, hc⟩ := hr2
      simp only [srcL] at hl2
      split at hl2
      · rename_i q i' j' hsr
        obtain ⟨hq1, hq2, hq3⟩ := (hsrc i j k es hc).2.2 q i' j' hsr
        rcases hb with hb | ⟨q2, p2, x2, oo, TT, e1, e2, e3, e4⟩
        · have := ((h.rows _ _ _ _ _ hq2).yes _ _ _ hl2).2.1.lt
          omega
        · obtain ⟨e5, e6⟩ := h.inj _ _ _ _ _ _ _ _ _ _ _ e2 hq2 e3 hl2
          subst e5
          exact e4 i j k es i' j' hc hsr e6
      · simp at hl2
    cases p with
    | none =>
      cases p2 with
      | none => rfl
      | some q => exact (two _ _ _ _ _ _ _ _ hr2 hl2 hl).elim
    | some q =>
      cases p2 with
      | none => exact (two _ _ _ _ _ _ _ _ hr hl hl2).elim
      | some q2 =>
        obtain ⟨i, j⟩ := q
        obtain ⟨i2, j2⟩ := q2
        obtain ⟨bx, k, es⟩ := x
        obtain ⟨bx2, k2, es2⟩ := x2
        rw [row_cell_iff hself] at hr hr2
        simp only [srcL] at hl hl2
        split at hl
        · rename_i q i' j' hsr
          split at hl2
          · rename_i q2 i2' j2' hsr2
            have f1 := ((hsrc i j k es hr.2.2).2.2 q i' j' hsr).2.1
            have f2 := ((hsrc i2 j2 k2 es2 hr2.2.2).2.2 q2 i2' j2' hsr2).2.1
            obtain ⟨e5, e6⟩ := h.inj _ _ _ _ _ _ _ _ _ _ _ f1 f2 hl hl2
            simp only [Option.some.injEq, Prod.mk.injEq] at e6
            subst e5
            obtain ⟨e7, e8⟩ := e6
            subst e7; subst e8
            obtain ⟨e9, e10⟩ := hinj i j i2 j2 _ _ _ _ _ hr.2.2 hr2.2.2 hsr hsr2
            rw [e9, e10]
          · simp at hl2
        · simp at hl
  · -- against the others
    obtain ⟨x0, hr1'⟩ := hsub _ _ _ hr1
    cases p with
    | none =>
      simp only [srcL, Option.some.injEq, Prod.mk.injEq] at hl
      obtain ⟨rfl, rfl, rfl⟩ := hl
      rcases hb with hb | ⟨q2, p2, x2, oo, TT, e1, e2, e3, e4⟩
      · obtain ⟨bx1, k1, es1⟩ := x0
        have := ((h.rows _ _ _ _ _ hr1').yes _ _ _ hL1).2.1.lt
        omega
      · obtain ⟨e5, e6⟩ := h.inj _ _ _ _ _ _ _ _ _ _ _ hr1' e2 hL1 e3
        subst e5; subst e6
        rw [hr1] at e1
        simp at e1
    | some q =>
      obtain ⟨i, j⟩ := q
      obtain ⟨bx, k, es⟩ := x
      rw [row_cell_iff hself] at hr
      simp only [srcL] at hl
      split at hl
      · rename_i q i' j' hsr
        obtain ⟨f0, f1, _⟩ := (hsrc i j k es hr.2.2).2.2 q i' j' hsr
        obtain ⟨e5, e6⟩ := h.inj _ _ _ _ _ _ _ _ _ _ _ hr1' f1 hL1 hl
        subst e5; subst e6
        rw [hr1] at f0
        simp at f0
      · simp at hl
theorem storeCells_run {b o : Nat} : ∀ (vs : List Value) (j : Nat) (w : World), (∀ i v, vs[i]? = some v → (∃ u, w.cell? ⟨b, o + j + i, none⟩ = some u) ∧ w.frozen? ⟨b, o + j + i, none⟩ = false ∧ v.oneCell' = true) →
    ∃ w', (storeCells ⟨b, o, none⟩ vs j).run P w = .ok () w' ∧ (∀ i v, vs[i]? = some v → w'.cell? ⟨b, o + j + i, none⟩ = some v) ∧ (∀ B off, (B ≠ b ∨ off < o + j ∨ o + j + vs.length ≤ off) → w'.cell? ⟨B, off, none⟩ = w.cell? ⟨B, off, none⟩) ∧
      (∀ B off, w'.frozen? ⟨B, off, none⟩ = w.frozen? ⟨B, off, none⟩) ∧ (∀ B, B ≠ b → w'.heap[B]? = w.heap[B]?) ∧ w'.heap.size = w.heap.size ∧ w'.os = w.os ∧ w'.tape = w.tape ∧ w'.output = w.output ∧
      (∀ off, (∃ u, w.cell? ⟨b, off, none⟩ = some u) → ∃ u, w'.cell? ⟨b, off, none⟩ = some u)
  | [], j, w, _ => ⟨w, rfl, by simp, fun _ _ _ => rfl, fun _ _ => rfl, fun _ _ => rfl, rfl, rfl, rfl, rfl, fun _ h => h⟩
  | v :: vs, j, w, h => by
    obtain ⟨⟨u, hu⟩, hf, hv⟩ := h 0 v (by simp)
    simp only [Nat.add_zero] at hu hf
    obtain ⟨w', h1, h2, h3, h4, h5, h6, h7, h8, h9, h10⟩ := storeCells_run vs (j + 1) (w.setCell ⟨b, o + j, none⟩ v) (fun i x hx => by
      obtain ⟨⟨u', hu'⟩, hf', hv'⟩ := h (i + 1) x (by simpa using hx)
      refine ⟨⟨u', ?_⟩, ?_, hv'⟩
      · rw [setCell_other (B := b) (off := o + (j + 1) + i) (b := b) (o := o + j) (.inr (by omega)), ← hu']; congr 2; omega
      · rw [World.frozen?_setCell, ← hf']; congr 2; omega)
    refine ⟨w', ?_, fun i x hx => ?_, fun B off hne => ?_, fun B off => ?_, fun B hB => ?_, by rw [h6]; simp, by rw [h7]; rfl, by rw [h8]; rfl, by rw [h9]; rfl, fun off hu1 => ?_⟩
    · simp only [storeCells, Sem.run_bind, addr_add, run_store1 hu hf hv, Result.andThen_ok]
      exact h1
    · cases i with
      | zero =>
        simp at hx
        subst hx
        rw [Nat.add_zero, h3 b (o + j) (.inr (.inl (by omega)))]
        exact setCell_cell hu
      | succ i =>
        have := h2 i x (by simpa using hx)
        rw [← this]; congr 2; omega
    · simp only [List.length_cons] at hne
      rw [h3 B off (by omega), setCell_other (B := B) (off := off) (b := b) (o := o + j) (by omega)]
    · rw [h4]; simp
    · rw [h5 B hB]
      exact Below.heap_setCell w _ _ _ hB
    · refine h10 off ?_
      by_cases e : off = o + j
      · subst e; exact ⟨v, setCell_cell hu⟩
      · obtain ⟨u1, hu1⟩ := hu1
        exact ⟨u1, by rw [setCell_other (.inr e)]; exact hu1⟩
theorem growBy_le (need : Nat) : ∀ (n c : Nat), 256 ≤ c → c ≤ 2 * need → Builtin.growBy need n c ≤ 2 * need
  | 0, c, _, h => by simp only [Builtin.growBy]; omega
  | n + 1, c, h0, h => by
    simp only [Builtin.growBy]
    split
    · omega
    · exact growBy_le need n _ (by omega) (by omega)
theorem nextcap_le {need old : Nat} (h : old < need) : Builtin.nextslicecap need old ≤ 2 * need := by
  unfold Builtin.nextslicecap
  split
  · omega
  · split
    · omega
    · exact growBy_le need 4 old (by omega) (by omega)
structure Whence (R Rk : Rf) (es : List (List AV)) (src : Nat → Nat → Option (Nat × Nat × Nat)) : Prop where
  tree : ∀ i j k es', cellAt es i j = .tree k es' → flat es' = true ∧ (es' = [] ∨ ∃ q i' j', src i j = some (q, i', j')) ∧ ∀ q i' j', src i j = some (q, i', j') → row Rk q (some (i', j')) = none ∧ row R q (some (i', j')) = some (false, k, es')
  inj : ∀ i j i2 j2 x k ek k2 ek2, cellAt es i j = .tree k ek → cellAt es i2 j2 = .tree k2 ek2 → src i j = some x → src i2 j2 = some x → i = i2 ∧ j = j2
theorem cellAt_append (xs ys : List (List AV)) (i j : Nat) : cellAt (xs ++ ys) i j = if i < xs.length then cellAt xs i j else cellAt ys (i - xs.length) j := by
  unfold cellAt
  simp only [List.getD_eq_getElem?_getD]
  split
  · rename_i h; rw [List.getElem?_append_left h]
  · rename_i h; rw [List.getElem?_append_right (by omega)]
theorem Mem.of {w w' : World} {b o T : Nat} (h : Mem w b o T) (hs : w.heap.size ≤ w'.heap.size) (hc : ∀ i, i < T → w'.cell? ⟨b, o + i, none⟩ = w.cell? ⟨b, o + i, none⟩) (hf : ∀ i, i < T → w'.frozen? ⟨b, o + i, none⟩ = w.frozen? ⟨b, o + i, none⟩) : Mem w' b o T :=
  ⟨Nat.lt_of_lt_of_le h.lt hs, fun i hi => by obtain ⟨v, hv⟩ := h.cell i hi; exact ⟨v, (hc i hi).trans hv⟩, fun i hi => (hf i hi).trans (h.free i hi)⟩
theorem app_core {w : World} {R Rk : Rf} {L : Lf} (h : HRel RO w R nx L) (hk : HRel RO w Rk nx L) (hsub : ∀ r p x, row Rk r p = some x → ∃ x0, row R r p = some x0) {e : TypeId} {k bb : Nat} (hks : size? P e = some k) (hk0 : k ≠ 0) (hbb : bytes? P e = some bb) (hbb0 : bb ≠ 0)
    {zv : Value} (hz : (P.info? e).bind (·.zero) = some zv) (hzl : zv.cells.size = k)
    {esO esY : List (List AV)} {srcO srcY : Nat → Nat → Option (Nat × Nat × Nat)} (hO : Whence R Rk esO srcO) (hY : Whence R Rk esY srcY) (hOs : ∀ e ∈ esO, e.length = k) (hYs : ∀ e ∈ esY, e.length = k)
    (hdis : ∀ i j i2 j2 x y, srcO i j = some x → srcY i2 j2 = some y → x ≠ y)
    (hsz : (esO.length + esY.length) * bb ≤ 70368744177664)
    -- what is added
    {yv : Value} {arr : List Value} (hyl : (Builtin.lenOf yv) = pure esY.length) (harr : arr.length = esY.length * k) (hyr : ∀ w1 : World, (∀ B off, w1.cell? ⟨B, off, none⟩ = w.cell? ⟨B, off, none⟩) → (Builtin.firstCells k esY.length yv).run P w1 = .ok arr.toArray w1)
    (hyc : ∀ i j, i < esY.length → j < k → ∃ v, arr[i * k + j]? = some v ∧ v.oneCell' = true ∧ Piece RO w R nx L (srcY i j) (cellAt esY i j) v)
    -- what it is added to
    {A : Option Addr} {cap : Nat} (hcap : esO.length ≤ cap)
    (hbase : (cap = 0 ∧ A = A) ∨ ∃ b o T q p x o1 T1, A = some ⟨b, o, none⟩ ∧ cap * k ≤ T ∧ Mem w b o T ∧ ¬ RO.pr b ∧ row Rk q p = none ∧ row R q p = some x ∧ L q p = some (b, o1, T1) ∧
      (∀ i j q' i' j', (srcO i j = some (q', i', j') ∨ srcY i j = some (q', i', j')) → ¬ (q' = q ∧ some (i', j') = p)) ∧
      ∀ i j, i < esO.length → j < k → ∃ v, w.cell? ⟨b, o + i * k + j, none⟩ = some v ∧ Piece RO w R nx L (srcO i j) (cellAt esO i j) v)
    {t u : TypeId} (ht : P.underlying t = some (.slice e)) (hu : ∃ d, P.underlying u = some d ∧ (∀ q, d ≠ .int q)) (ot : TypeId) :
    ∃ x w' L', (Builtin.append_ #[t, u] ot #[.slice A esO.length cap, yv]).run P w = .ok x w' ∧ Adv RO w Rk nx L w' (upd Rk nx (some ⟨false, 0, k, esO ++ esY⟩)) (nx + 1) L' ∧
      V RO w' (upd Rk nx (some ⟨false, 0, k, esO ++ esY⟩)) (nx + 1) L' (.sl ⟨nx, none, 0⟩ k 0 (esO.length + esY.length)) x := by
  obtain ⟨ud, hud, hui⟩ := hu
  have hsh : ∀ e ∈ esO ++ esY, e.length = k := by
    intro e he
    rcases List.mem_append.1 he with he | he
    · exact hOs e he
    · exact hYs e he
  -- the sources
  have hsrc0 : ∀ i j k' es', cellAt (esO ++ esY) i j = .tree k' es' → flat es' = true ∧ (es' = [] ∨ ∃ q i' j', (if i < esO.length then srcO i j else srcY (i - esO.length) j) = some (q, i', j')) ∧
      ∀ q i' j', (if i < esO.length then srcO i j else srcY (i - esO.length) j) = some (q, i', j') → row Rk q (some (i', j')) = none ∧ row R q (some (i', j')) = some (false, k', es') := by
    intro i j k' es' hc
    rw [cellAt_append] at hc
    split at hc
    · rename_i hi
      simp only [hi, if_true]
      exact hO.tree i j k' es' hc
    · rename_i hi
      simp only [hi, if_false]
      exact hY.tree _ j k' es' hc
  have hinj0 : ∀ i j i2 j2 x k es k2 es2, cellAt (esO ++ esY) i j = .tree k es → cellAt (esO ++ esY) i2 j2 = .tree k2 es2 → (if i < esO.length then srcO i j else srcY (i - esO.length) j) = some x →
      (if i2 < esO.length then srcO i2 j2 else srcY (i2 - esO.length) j2) = some x → i = i2 ∧ j = j2 := by
    intro i j i2 j2 x k es k2 es2 h1 h2 h3 h4
    rw [cellAt_append] at h1 h2
    by_cases hi : i < esO.length <;> by_cases hi2 : i2 < esO.length <;> simp only [hi, hi2, if_true, if_false] at h1 h2 h3 h4
    · exact hO.inj _ _ _ _ _ _ _ _ _ h1 h2 h3 h4
    · exact ((hdis _ _ _ _ _ _ h3 h4) rfl).elim
    · exact ((hdis _ _ _ _ _ _ h4 h3) rfl).elim
    · have := hY.inj _ _ _ _ _ _ _ _ _ h1 h2 h3 h4
      exact ⟨by omega, this.2⟩
  -- the beginning of the run
  have hz0 : (match ud with | .int _ => true | _ => false) = false := by
    cases ud <;> first | rfl | exact absurd rfl (hui _)
  have hcells : ∀ (w' : World) (o' b' : Nat), (∀ i j, i < esO.length → j < k → ∃ v, w'.cell? ⟨b', o' + i * k + j, none⟩ = some v ∧ Piece RO w R nx L (srcO i j) (cellAt esO i j) v) → (∀ i v, arr[i]? = some v → w'.cell? ⟨b', o' + esO.length * k + i, none⟩ = some v) →
      ∀ i j, i < (esO ++ esY).length → j < k → ∃ v, w'.cell? ⟨b', o' + i * k + j, none⟩ = some v ∧ Piece RO w R nx L (if i < esO.length then srcO i j else srcY (i - esO.length) j) (cellAt (esO ++ esY) i j) v := by
    intro w' o' b' h1 h2 i j hi hj
    rw [cellAt_append]
    by_cases hio : i < esO.length
    · simp only [hio, if_true]
      exact h1 i j hio hj
    · simp only [hio, if_false]
      rw [List.length_append] at hi
      obtain ⟨v, hv, _, hp⟩ := hyc (i - esO.length) j (by omega) hj
      refine ⟨v, ?_, hp⟩
      have := h2 _ v hv
      rw [← this]
      congr 2
      rw [Nat.sub_mul]
      have : esO.length * k ≤ i * k := Nat.mul_le_mul_right _ (by omega)
      omega
  -- an old row's cells stay: block b is that of the row that is gone
  have apart : ∀ {b q : Nat} {p : Option (Nat × Nat)} {x : Bool × Nat × List (List AV)} {o1 T1 : Nat}, row Rk q p = none → row R q p = some x → L q p = some (b, o1, T1) → ∀ r2 p2 x2 b2 o2 T2, row Rk r2 p2 = some x2 → L r2 p2 = some (b2, o2, T2) → b2 ≠ b := by
    intro b q p x o1 T1 h1 h2 h3 r2 p2 x2 b2 o2 T2 h4 h5 e
    subst e
    obtain ⟨x0, h6⟩ := hsub _ _ _ h4
    obtain ⟨e1, e2⟩ := h.inj _ _ _ _ _ _ _ _ _ _ _ h6 h2 h5 h3
    subst e1; subst e2
    rw [h1] at h4
    simp at h4
  have hneed : ((esO.length + esY.length : Nat) : Int) = (esO.length : Int) + esY.length := by simp
  by_cases hfit : esO.length + esY.length ≤ cap
  · -- in place
    rcases hbase with ⟨hc0, _⟩ | ⟨b, o, T, q, p, x, o1, T1, hA, hcT, hm, hRO, hr1, hr2, hL, hne, hold⟩
    · -- nothing there, nothing added
      have e1 : esO = [] := List.eq_nil_of_length_eq_zero (by omega)
      have e2 : esY = [] := List.eq_nil_of_length_eq_zero (by omega)
      subst e1; subst e2
      have ha : arr = [] := List.eq_nil_of_length_eq_zero (by simpa using harr)
      subst ha
      refine ⟨.slice A 0 cap, w, newL L nx none, ?_, ?_, ?_⟩
      · have hy0 := hyr w (fun _ _ => rfl)
        simp only [List.length_nil] at hy0 hyl
        cases A with
        | none => simp [Builtin.append_, run_under ht, run_under hud, run_sizeOf hks, hz0, hyl, hy0, hc0]
        | some A => simp [Builtin.append_, run_under ht, run_under hud, run_sizeOf hks, hz0, hyl, hy0, hc0, storeCells]
      · have hj := hk.join (n := nx) (nx' := nx + 1) (Nat.le_refl _) (by omega) ⟨false, 0, k, [] ++ []⟩ (fun p => none) (fun p bx k' es hr => ?_) (fun _ _ _ _ _ _ _ _ _ _ _ h => by simp at h) (fun _ _ _ _ _ _ h => by simp at h)
        · have e3 : (fun r p => if r = nx then (none : Option (Nat × Nat × Nat)) else L r p) = newL L nx none := by
            funext r p; unfold newL; split <;> cases p <;> rfl
          rw [e3] at hj
          exact ⟨hj.1, hj.2, Same.refl _ _, Nat.le_refl _, rfl, rfl, rfl⟩
        · have hes : es = [] := by
            cases p with
            | none => simp [row] at hr; exact hr.2.2
            | some q => obtain ⟨i, j⟩ := q; simp [row, cellAt] at hr
          subst hes
          exact ⟨by simp, fun _ i j hi => by simp at hi, fun _ => rfl, fun b o T hL => by simp at hL⟩
      · simp only [V]
        refine ⟨by omega, fun _ _ h => absurd rfl h, ⟨_, _, rfl⟩, fun es' he' => ?_⟩
        exact ⟨by simp, A, cap, rfl, by omega, .inl hc0⟩
    · subst hA
      have hne' : ∀ i j q' i' j', (if i < esO.length then srcO i j else srcY (i - esO.length) j) = some (q', i', j') → ¬ (q' = q ∧ some (i', j') = p) := by
        intro i j q' i' j' hh
        split at hh
        · exact hne i j q' i' j' (.inl hh)
        · exact hne _ j q' i' j' (.inr hh)
      have hal : arr.length = esY.length * k := harr
      have hin : esO.length * k + esY.length * k ≤ T := by
        rw [← Nat.add_mul]; exact Nat.le_trans (Nat.mul_le_mul_right k hfit) hcT
      have harr1 : ∀ (i : Nat) v, arr[i]? = some v → v.oneCell' = true := by
        intro i v hv
        have hi : i < esY.length * k := by rw [← hal]; exact (List.getElem?_eq_some_iff.1 hv).1
        have hkp : 0 < k := Nat.pos_of_ne_zero hk0
        obtain ⟨v', hv', h1, _⟩ := hyc (i / k) (i % k) (by rw [Nat.div_lt_iff_lt_mul hkp]; exact hi) (Nat.mod_lt _ hkp)
        rw [Nat.div_add_mod' i k, hv] at hv'
        simp only [Option.some.injEq] at hv'
        rw [hv']; exact h1
      obtain ⟨w', hst, hnew, hother, hfz, hheap, hsize, hos, htape, hout, hall⟩ := storeCells_run (P := P) (b := b) (o := o + esO.length * k) arr 0 w (fun i v hv => by
        have hi : i < esY.length * k := by rw [← hal]; exact (List.getElem?_eq_some_iff.1 hv).1
        obtain ⟨u1, hu1⟩ := hm.cell (esO.length * k + i) (by omega)
        refine ⟨⟨u1, by rw [← hu1]; congr 2; omega⟩, ?_, harr1 i v hv⟩
        rw [← hm.free (esO.length * k + i) (by omega)]; congr 2; omega)
      have hs : Same RO w w' := fun B hB => hheap B (fun e => hRO (by rw [← e]; exact hB))
      have hkw : HRel RO w' Rk nx L := hk.world hs (by omega) (fun r2 p2 x2 b2 o2 T2 hr hl i hi => ⟨hother _ _ (.inl (apart hr1 hr2 hL _ _ _ _ _ _ hr hl)), hfz _ _⟩)
      have hmw : Mem w' b o T := ⟨by rw [hsize]; exact hm.lt, fun i hi => hall _ (hm.cell i hi), fun i hi => by rw [hfz]; exact hm.free i hi⟩
      have hc := h.combine hkw hsub ⟨false, 0, k, esO ++ esY⟩ rfl hsh b o T hs (fun i j => if i < esO.length then srcO i j else srcY (i - esO.length) j)
        (fun i j k' es' hc' => by
          obtain ⟨f1, f2, f3⟩ := hsrc0 i j k' es' hc'
          refine ⟨f1, f2, fun q' i' j' hq' => ?_⟩
          obtain ⟨f4, f5⟩ := f3 q' i' j' hq'
          refine ⟨f4, f5, fun (b2 o2 T2 : Nat) hl2 => ?_⟩
          have hb2 : b2 ≠ b := by
            intro e; subst e
            obtain ⟨e1, e2⟩ := h.inj _ _ _ _ _ _ _ _ _ _ _ f5 hr2 hl2 hL
            exact hne' i j q' i' j' hq' ⟨e1, e2⟩
          have hmem2 : Mem w b2 o2 T2 := ((h.rows _ _ _ _ _ f5).yes _ _ _ hl2).2.1
          exact ⟨hmem2.of (by omega) (fun i hi => hother _ _ (.inl hb2)) (fun i hi => hfz _ _), fun x hx => hother _ _ (.inl hb2)⟩)
        hinj0 hRO hmw (by simp only [List.length_append, Nat.add_mul]; omega)
        (.inr ⟨q, p, x, o1, T1, hr1, hr2, hL, fun i j k' es' i' j' hc' hs' e => hne' i j q i' j' hs' ⟨rfl, e.symm⟩⟩)
        (hcells w' o b (fun i j hi hj => by
          obtain ⟨v, hv, hp⟩ := hold i j hi hj
          refine ⟨v, ?_, hp⟩
          rw [hother _ _ (.inr (.inl ?_))]
          · exact hv
          · have := idx_lt hi hj (Nat.le_refl (esO.length * k))
            omega) (fun i v hv => by have := hnew i v hv; rw [Nat.add_zero] at this; exact this))
      refine ⟨.slice (some ⟨b, o, none⟩) (esO.length + esY.length) cap, w', _, ?_, ⟨hc.1, hc.2, hs, by omega, hos, htape, hout⟩, ?_⟩
      · have hy0 := hyr w (fun _ _ => rfl)
        simp [Builtin.append_, run_under ht, run_under hud, run_sizeOf hks, hz0, hyl, hy0, hfit, addr_add, hst]
      · simp only [V]
        refine ⟨by omega, fun _ _ h => absurd rfl h, ⟨_, _, rfl⟩, fun es' he' => ?_⟩
        simp only [getB, upd_same, Option.some.injEq, Prod.mk.injEq, true_and] at he'
        subst he'
        refine ⟨by simp, _, _, rfl, hfit, .inr ⟨b, o, T, by simp [srcL], by simp, by simpa using hcT⟩⟩
  · -- moved
    have hlt : cap < esO.length + esY.length := by omega
    have hnc := nextcap_le hlt
    have hsz2 : Builtin.nextslicecap (esO.length + esY.length) cap * bb ≤ 2 ^ 48 := by
      have h1 : Builtin.nextslicecap (esO.length + esY.length) cap * bb ≤ 2 * (esO.length + esY.length) * bb := Nat.mul_le_mul_right _ hnc
      rw [Nat.mul_assoc] at h1
      omega
    -- the old cells
    obtain ⟨olds, holdl, holdr, holdc⟩ : ∃ olds : List Value, olds.length = esO.length * k ∧ (∀ w1 : World, (∀ B off, w1.cell? ⟨B, off, none⟩ = w.cell? ⟨B, off, none⟩) → (Builtin.firstCells k esO.length (.slice A esO.length cap)).run P w1 = .ok olds.toArray w1) ∧
        (∀ i j, i < esO.length → j < k → ∃ v, olds[i * k + j]? = some v ∧ Piece RO w R nx L (srcO i j) (cellAt esO i j) v) := by
      rcases hbase with ⟨hc0, _⟩ | ⟨b, o, T, q, p, x, o1, T1, hA, hcT, hm, hRO, hr1, hr2, hL, hne, hold⟩
      · have e1 : esO = [] := List.eq_nil_of_length_eq_zero (by omega)
        subst e1
        refine ⟨[], by simp, fun w1 _ => ?_, fun i j hi => by simp at hi⟩
        cases A with
        | none => rfl
        | some A => simp [Builtin.firstCells, loadCells, loadCellsFrom]
      · subst hA
        have hcol : ∀ n, n ≤ esO.length * k → ∃ vs : List Value, vs.length = n ∧ ∀ i v, vs[i]? = some v → w.cell? ⟨b, o + i, none⟩ = some v := by
          intro n hn
          induction n with
          | zero => exact ⟨[], rfl, by simp⟩
          | succ n ih =>
            obtain ⟨vs, h1, h2⟩ := ih (by omega)
            have : esO.length * k ≤ cap * k := Nat.mul_le_mul_right _ hcap
            obtain ⟨u, hu⟩ := hm.cell n (by omega)
            refine ⟨vs ++ [u], by simp [h1], fun i v hv => ?_⟩
            by_cases hi : i < vs.length
            · rw [List.getElem?_append_left hi] at hv; exact h2 i v hv
            · rw [List.getElem?_append_right (by omega)] at hv
              have hi2 : i < vs.length + 1 := by
                rcases Nat.lt_or_ge i (vs.length + 1) with h | h
                · exact h
                · rw [List.getElem?_eq_none (by simp; omega)] at hv; simp at hv
              have : i = n := by omega
              subst this
              rw [← h1] at hv
              simp at hv
              rw [← hv]; exact hu
        obtain ⟨vs, h1, h2⟩ := hcol _ (Nat.le_refl _)
        refine ⟨vs, h1, fun w1 hw1 => ?_, fun i j hi hj => ?_⟩
        · simp only [Builtin.firstCells]
          exact loadCells_run h1 (fun j v hv => by rw [hw1]; exact h2 j v hv)
        · obtain ⟨v, hv, hp⟩ := hold i j hi hj
          have hlt2 := idx_lt hi hj (Nat.le_refl (esO.length * k))
          refine ⟨v, ?_, hp⟩
          have := h2 (i * k + j) (vs[i * k + j]'(by omega)) (by simp [h1, hlt2])
          rw [← Nat.add_assoc, hv] at this
          simp only [Option.some.injEq] at this
          rw [this]
          simp [h1, hlt2]
    -- the new block
    obtain ⟨newCap, hnewCap, hch⟩ : ∃ newCap, esO.length + esY.length ≤ newCap ∧ (choose (.appendCap (esO.length + esY.length) cap e)).run P w = .ok newCap w.drew := by
      refine ⟨_, ?_, by rw [run_choose]; simp only [Question.forced, Bool.false_eq_true, if_false]; rfl⟩
      simp only [Question.cut]
      omega
    have hrest : (Builtin.zeroCells zv.cells (newCap - (esO.length + esY.length))).size = (newCap - (esO.length + esY.length)) * k := by
      simp [Builtin.zeroCells, hzl]
    have hcellw : ∀ B off, w.drew.cell? ⟨B, off, none⟩ = w.cell? ⟨B, off, none⟩ := fun _ _ => rfl
    have hrun : (Builtin.append_ #[t, u] ot #[.slice A esO.length cap, yv]).run P w = .ok (.slice (some ⟨w.heap.size, 0, none⟩) (esO.length + esY.length) newCap) (w.drew.alloc (.cells (olds.toArray ++ arr.toArray ++ Builtin.zeroCells zv.cells (newCap - (esO.length + esY.length))) e)) := by
      have hbb' : ∃ i, P.info? e = some i ∧ i.bytes = bb := by
        simp only [bytes?, Option.map_eq_some_iff] at hbb; exact hbb
      obtain ⟨inf, hinf, hib⟩ := hbb'
      have hzz : inf.zero = some zv := by rw [hinf] at hz; simpa using hz
      have hneedM : esO.length + esY.length ≤ 70368744177664 := by
        have : (esO.length + esY.length) * 1 ≤ (esO.length + esY.length) * bb := Nat.mul_le_mul_left _ (by omega)
        omega
      have g2 : ¬ (((esO.length + esY.length : Nat) : Int) > IntKind.i64.max ∧ (false = true ∨ inf.bytes = 0)) := by
        rintro ⟨_, h | h⟩
        · simp at h
        · omega
      have g3 : ¬ (Builtin.nextslicecap (esO.length + esY.length) cap * inf.bytes > 2 ^ 48) := by rw [hib]; omega
      have hti : ∀ w : World, (typeInfo e).run P w = .ok inf w := fun w => by simp [typeInfo, hinf]
      have hzr : ∀ w : World, (zeroValue e).run P w = .ok zv w := fun w => run_zero hz w
      have ho := holdr w.drew hcellw
      have hy0 := hyr w.drew hcellw
      unfold Builtin.append_
      simp only [List.getElem?_toArray, List.getElem?_cons_zero, List.getElem?_cons_succ, Sem.run_bind, run_under ht, run_under hud, Result.andThen_ok, run_sizeOf hks, Sem.run_pure, hz0, hyl]
      have g2' : ¬ (((esO.length + esY.length : Nat) : Int) > IntKind.i64.max ∧ (False ∨ inf.bytes = 0)) := by simpa using g2
      simp only [Bool.false_eq_true, if_false, pure_bind, hfit, Sem.run_bind, hti, Result.andThen_ok, g2', g3, hch, run_askRoom, ho, Bool.not_false, if_true, hy0, hzr, Sem.run_pure, newRow, run_newObj, World.alloc_eq]
      rfl
    obtain ⟨w1, hw1⟩ : ∃ w1, w1 = w.drew.alloc (.cells (olds.toArray ++ arr.toArray ++ Builtin.zeroCells zv.cells (newCap - (esO.length + esY.length))) e) := ⟨_, rfl⟩
    have hcn : ∀ i, w1.cell? ⟨w.heap.size, i, none⟩ = (olds.toArray ++ arr.toArray ++ Builtin.zeroCells zv.cells (newCap - (esO.length + esY.length)))[i]? := by
      intro i; rw [hw1]; exact World.cell?_alloc_new w.drew _ _ _
    have hsize1 : (olds.toArray ++ arr.toArray ++ Builtin.zeroCells zv.cells (newCap - (esO.length + esY.length))).size = newCap * k := by
      simp only [Array.size_append, List.size_toArray, holdl, harr, hrest]
      rw [← Nat.add_mul, ← Nat.add_mul]
      congr 1; omega
    have hco : ∀ B off, B < w.heap.size → w1.cell? ⟨B, off, none⟩ = w.cell? ⟨B, off, none⟩ := fun B off hB => by rw [hw1]; exact World.cell?_alloc_lt w.drew _ ⟨B, off, none⟩ hB
    have hfo : ∀ B off, B < w.heap.size → w1.frozen? ⟨B, off, none⟩ = w.frozen? ⟨B, off, none⟩ := fun B off hB => by rw [hw1]; exact World.frozen?_alloc_old w.drew _ ⟨B, off, none⟩ (Nat.ne_of_lt hB)
    have hs : Same RO w w1 := fun B hB => by rw [hw1]; exact Below.heap_alloc w.drew _ B (h.ro B hB)
    have hkw : HRel RO w1 Rk nx L := by rw [hw1]; exact hk.drew.grow _
    have hsz1 : w1.heap.size = w.heap.size + 1 := by rw [hw1]; simp
    have hc := h.combine hkw hsub ⟨false, 0, k, esO ++ esY⟩ rfl hsh w.heap.size 0 (newCap * k) hs (fun i j => if i < esO.length then srcO i j else srcY (i - esO.length) j)
      (fun i j k' es' hc' => by
        obtain ⟨f1, f2, f3⟩ := hsrc0 i j k' es' hc'
        refine ⟨f1, f2, fun q' i' j' hq' => ?_⟩
        obtain ⟨f4, f5⟩ := f3 q' i' j' hq'
        refine ⟨f4, f5, fun (b2 o2 T2 : Nat) hl2 => ?_⟩
        have hmem2 : Mem w b2 o2 T2 := ((h.rows _ _ _ _ _ f5).yes _ _ _ hl2).2.1
        exact ⟨hmem2.of (by omega) (fun i hi => hco _ _ hmem2.lt) (fun i hi => hfo _ _ hmem2.lt), fun x hx => hco _ _ hmem2.lt⟩)
      hinj0 (fun e => by have := h.ro _ e; omega)
      ⟨by omega, fun i hi => ⟨_, by rw [hcn]; exact Array.getElem?_eq_getElem (by rw [hsize1]; omega)⟩, fun i hi => by rw [hw1]; exact World.frozen?_alloc_new w.drew _ _ _⟩
      (by simp only [List.length_append]; exact Nat.mul_le_mul_right _ hnewCap) (.inl (Nat.le_refl _))
      (hcells w1 0 w.heap.size (fun i j hi hj => by
        obtain ⟨v, hv, hp⟩ := holdc i j hi hj
        have hlt2 := idx_lt hi hj (Nat.le_refl (esO.length * k))
        refine ⟨v, ?_, hp⟩
        rw [hcn, Array.append_assoc, Array.getElem?_append_left (by simp [holdl]; omega)]
        simpa using hv) (fun i v hv => by
        have hi : i < esY.length * k := by rw [← harr]; exact (List.getElem?_eq_some_iff.1 hv).1
        rw [hcn, Array.getElem?_append_left (by simp [holdl, harr]; omega), Array.getElem?_append_right (by simp [holdl])]
        simp only [List.size_toArray, holdl]
        rw [show 0 + esO.length * k + i - esO.length * k = i by omega]
        simpa using hv))
    refine ⟨_, w1, _, by rw [hw1]; exact hrun, ⟨hc.1, hc.2, hs, by omega, by rw [hw1]; rfl, by rw [hw1]; rfl, by rw [hw1]; rfl⟩, ?_⟩
    simp only [V]
    refine ⟨by omega, fun _ _ h => absurd rfl h, ⟨_, _, rfl⟩, fun es' he' => ?_⟩
    simp only [getB, upd_same, Option.some.injEq, Prod.mk.injEq, true_and] at he'
    subst he'
    exact ⟨by simp, _, _, rfl, hnewCap, .inr ⟨w.heap.size, 0, newCap * k, by simp [srcL], by simp, by simp⟩⟩
end
end Go.Proofs.Ytldmpjoddghdkaa.AI
