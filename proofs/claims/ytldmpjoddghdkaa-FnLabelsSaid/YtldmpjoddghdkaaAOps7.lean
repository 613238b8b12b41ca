import Derived.Test.YtldmpjoddghdkaaAOps6
namespace Go.Proofs.Ytldmpjoddghdkaa.AI
set_option linter.all false
open Go.RowKit
set_option autoImplicit false
set_option linter.unusedVariables false
set_option linter.unusedSimpArgs false
variable [Tabs]
section
variable {P : Program} {RO : Bx} {nx : Nat} {tm : List (Nat × AV)} {a : Act}
theorem cells_list {w : World} {b o : Nat} : ∀ (n : Nat), (∀ i, i < n → ∃ u, w.cell? ⟨b, o + i, none⟩ = some u) → ∃ vs : List Value, vs.length = n ∧ ∀ (i : Nat) v, vs[i]? = some v → w.cell? ⟨b, o + i, none⟩ = some v
  | 0, _ => ⟨[], rfl, by simp⟩
  | n + 1, h => by
    obtain ⟨vs, h1, h2⟩ := cells_list n (fun i hi => h i (by omega))
    obtain ⟨u, hu⟩ := h n (by omega)
    refine ⟨vs ++ [u], by simp [h1], fun i v hv => ?_⟩
    by_cases hi : i < vs.length
    · rw [List.getElem?_append_left hi] at hv; exact h2 i v hv
    · rw [List.getElem?_append_right (by omega)] at hv
      have hi2 : i < vs.length + 1 := by
        rcases Nat.lt_or_ge i (vs.length + 1) with h | h
        · exact h
        · rw [List.getElem?_eq_none (by simp; omega)] at hv; simp at hv
      have e : i = n := by omega
      subst e
      rw [← h1] at hv
      simp at hv
      rw [← hv]; exact hu
theorem elems_mem {w : World} {hp : Hp} {L : Lf} (h : HRel RO w (root? hp) nx L) {k : Nat} {v : AV} {es : List (List AV)} (he : elems hp k v = some es) {x : Value} (hV : V RO w (root? hp) nx L v x) :
    (∀ e ∈ es, e.length = k) ∧ ∃ A cap, x = .slice A es.length cap ∧ es.length ≤ cap ∧
      (es = [] ∨ ∃ b o, A = some ⟨b, o, none⟩ ∧ ∀ i j, i < es.length → j < k → ∃ u, w.cell? ⟨b, o + i * k + j, none⟩ = some u ∧ (scal (cellAt es i j) = true → V RO w (root? hp) nx L (cellAt es i j) u)) := by
  cases v with
  | nil k' =>
    simp only [elems] at he
    split at he
    · simp only [Option.some.injEq] at he
      subst he
      simp only [V] at hV
      exact ⟨by simp, none, 0, hV, Nat.le_refl _, .inl rfl⟩
    · simp at he
  | tree k' es' =>
    simp only [elems] at he
    split at he
    · rename_i hk
      subst hk
      simp only [Option.some.injEq] at he
      subst he
      simp only [V, Rd] at hV
      obtain ⟨A, cap, h1, h2, h3⟩ := hV
      rcases h3 with rfl | ⟨b, o, rfl, h4, h5⟩
      · exact ⟨by simp, A, cap, h1, h2, .inl rfl⟩
      · refine ⟨fun e he => ?_, _, cap, h1, h2, .inr ⟨b, o, rfl, fun i j hi hj => ?_⟩⟩
        · obtain ⟨i, hi, rfl⟩ := List.mem_iff_getElem.1 he
          exact (RdE.get _ _ i _ h5 (by simp [hi])).1
        · obtain ⟨h6, h7⟩ := RdE.get _ _ i _ h5 (List.getElem?_eq_getElem hi)
          obtain ⟨u, hu, hR⟩ := RdC.get _ _ j _ h7 (List.getElem?_eq_getElem (by rw [h6]; exact hj))
          have hc : cellAt es' i j = es'[i][j]'(by rw [h6]; exact hj) := by
            simp [cellAt, List.getD_eq_getElem?_getD, hi, h6, hj]
          refine ⟨u, hu, fun hs => ?_⟩
          rw [hc] at hs ⊢
          generalize es'[i][j]'(by rw [h6]; exact hj) = c at *
          cases c <;> simp [scal] at hs <;> simp only [V] <;> exact hR
    · simp at he
  | sl r k' off len =>
    simp only [elems] at he
    split at he
    · rename_i k'' es0 hg
      split at he
      · rename_i hk
        obtain ⟨rfl, rfl⟩ := hk
        simp only [Option.some.injEq] at he
        subst he
        simp only [V] at hV
        obtain ⟨_, _, _, h4⟩ := hV
        obtain ⟨h5, A, cap, h6, h7, h8⟩ := h4 es0 hg
        have hrow := h.rows _ _ _ _ _ (getB_row hg)
        have hl := seg_length h5
        refine ⟨seg_shape hrow.shape off len, A, cap, by rw [hl]; exact h6, by rw [hl]; exact h7, ?_⟩
        rcases h8 with h8 | ⟨b, o, T, hL, hA, hT⟩
        · left
          apply List.eq_nil_of_length_eq_zero
          rw [hl]; omega
        · right
          refine ⟨b, _, hA, fun i j hi hj => ?_⟩
          rw [hl] at hi
          obtain ⟨_, _, _, hc⟩ := hrow.yes _ _ _ hL
          obtain ⟨u, hu, hC⟩ := hc (off + i) j (by omega) hj
          refine ⟨u, by rw [← hu, Nat.add_mul]; congr 2; omega, fun hs => ?_⟩
          rw [cellAt_seg hi] at hs ⊢
          rwa [Cl.other (scal_not_tree hs)] at hC
      · simp at he
    · simp at he
  | _ => simp [elems] at he
theorem lenOf_slice {A : Option Addr} {n cap : Nat} : Builtin.lenOf (.slice A n cap) = pure n := rfl
theorem firstCells_run {w : World} {A : Option Addr} {k n cap : Nat} {vs : List Value} (hl : vs.length = n * k) (hA : n = 0 ∨ ∃ b o, A = some ⟨b, o, none⟩ ∧ ∀ (i : Nat) v, vs[i]? = some v → w.cell? ⟨b, o + i, none⟩ = some v) (w1 : World) (hw1 : ∀ B off, w1.cell? ⟨B, off, none⟩ = w.cell? ⟨B, off, none⟩) :
    (Builtin.firstCells k n (.slice A n cap)).run P w1 = .ok vs.toArray w1 := by
  rcases hA with rfl | ⟨b, o, rfl, h⟩
  · have : vs = [] := List.eq_nil_of_length_eq_zero (by simpa using hl)
    subst this
    cases A with
    | none => rfl
    | some A => simp [Builtin.firstCells, loadCells, loadCellsFrom]
  · exact loadCells_run hl (fun j v hv => by rw [hw1]; exact h j v hv)
theorem flat_noTree {es : List (List AV)} (h : flat es = true) (i j k : Nat) (es' : List (List AV)) : cellAt es i j ≠ .tree k es' := by
  intro e
  rw [flat_iff] at h
  unfold cellAt at e
  by_cases hi : i < es.length
  · by_cases hj : j < (es.getD i []).length
    · have := h _ (mem_getD hi) _ (mem_getD (d := AV.dead) hj)
      rw [e] at this
      simp [scal] at this
    · rw [getD_out hj] at e; cases e
  · rw [getD_out hi] at e; simp at e
theorem whence_flat {R Rk : Rf} {es : List (List AV)} (h : flat es = true) : Whence R Rk es (fun _ _ => none) :=
  ⟨fun i j k es' hc => absurd hc (flat_noTree h i j k es'), fun i j _ _ _ k ek _ _ hc => absurd hc (flat_noTree h i j k ek)⟩
theorem tree_in {es : List (List AV)} {i j k : Nat} {es' : List (List AV)} (h : cellAt es i j = .tree k es') : i < es.length ∧ j < (es.getD i []).length := by
  unfold cellAt at h
  have h5 : j < (es.getD i []).length := by
    rcases Nat.lt_or_ge j (es.getD i []).length with h1 | h1
    · exact h1
    · rw [getD_out (Nat.not_lt.2 h1)] at h; cases h
  refine ⟨?_, h5⟩
  rcases Nat.lt_or_ge i es.length with h1 | h1
  · exact h1
  · rw [getD_out (Nat.not_lt.2 h1)] at h5; simp at h5
theorem whence_root {w : World} {R Rk : Rf} {L : Lf} (h : HRel RO w R nx L) {q : Nat} {b : Blk} (hb : R q = some b) (hbox : b.box = false) (hk : Rk q = none) (off len : Nat) : Whence R Rk (seg b.es off len) (fun i j => some (q, off + i, j)) := by
  have hrow := h.rows _ _ _ _ _ (row_root hb)
  have back : ∀ i j k es', cellAt (seg b.es off len) i j = .tree k es' → cellAt b.es (off + i) j = .tree k es' := by
    intro i j k es' hc
    have hi := (tree_in hc).1
    have : i < len := by simp [seg] at hi; omega
    rwa [cellAt_seg this] at hc
  refine ⟨fun i j k es' hc => ?_, fun i j i2 j2 x k ek k2 ek2 _ _ h1 h2 => ?_⟩
  · have hc' := back i j k es' hc
    obtain ⟨hi, hj⟩ := tree_in hc'
    rw [shape_getD hrow.shape hi] at hj
    have hok := hrow.cells hbox _ _ hi hj
    rw [hc'] at hok
    refine ⟨hok.2, .inr ⟨_, _, _, rfl⟩, fun q' i' j' he => ?_⟩
    simp only [Option.some.injEq, Prod.mk.injEq] at he
    obtain ⟨rfl, rfl, rfl⟩ := he
    exact ⟨row_none hk _, (row_cell_iff hb).2 ⟨hbox, rfl, hc'⟩⟩
  · simp only [Option.some.injEq] at h1 h2
    rw [← h2] at h1
    simp only [Prod.mk.injEq, true_and] at h1
    omega
structure Added (P : Program) (RO : Bx) (w : World) (R : Rf) (nx : Nat) (L : Lf) (R1 Rk : Rf) (k : Nat) (es : List (List AV)) (yv : Value) where
  src : Nat → Nat → Option (Nat × Nat × Nat)
  arr : List Value
  wh : Whence R Rk es src
  shape : ∀ e ∈ es, e.length = k
  len : Builtin.lenOf yv = pure es.length
  alen : arr.length = es.length * k
  run : ∀ w1 : World, (∀ B off, w1.cell? ⟨B, off, none⟩ = w.cell? ⟨B, off, none⟩) → (Builtin.firstCells k es.length yv).run P w1 = .ok arr.toArray w1
  cell : ∀ i j, i < es.length → j < k → ∃ v, arr[i * k + j]? = some v ∧ v.oneCell' = true ∧ Piece RO w R nx L (src i j) (cellAt es i j) v
  root : ∀ i j q i' j', src i j = some (q, i', j') → R1 q = none ∧ ∃ b, R q = some b
theorem piece_scal {w : World} {R : Rf} {L : Lf} {s : Option (Nat × Nat × Nat)} {c : AV} {v : Value} (hs : scal c = true) (hV : V RO w R nx L c v) : Piece RO w R nx L s c v := by
  cases c <;> simp [scal] at hs <;> exact ⟨rfl, hV⟩
theorem added_str {w : World} {R R1 Rk : Rf} {L : Lf} {s : ByteArray} : Nonempty (Added P RO w R nx L R1 Rk 1 (byteE s) (.string s)) := by
  have hf : flat (byteE s) = true := by
    rw [flat_iff]
    intro e he c hc
    simp only [byteE, List.mem_map] at he
    obtain ⟨b, _, rfl⟩ := he
    simp at hc
    subst hc
    rfl
  have hl : (byteE s).length = s.size := by simp [byteE]
  refine ⟨⟨fun _ _ => none, s.data.toList.map fun b => .int .u8 b.toNat, whence_flat hf, ?_, ?_, ?_, ?_, ?_, ?_⟩⟩
  · intro e he
    simp only [byteE, List.mem_map] at he
    obtain ⟨b, _, rfl⟩ := he
    rfl
  · rw [hl]; rfl
  · simp [byteE]
  · intro w1 _
    rw [hl]
    have : s.extract 0 s.size = s := by simp
    simp only [Builtin.firstCells, this, Sem.run_pure]
    congr 1
    apply Array.ext'
    simp
  · intro i j hi hj
    have hj0 : j = 0 := by omega
    subst hj0
    simp only [byteE, List.length_map] at hi
    refine ⟨.int .u8 (s.data.toList[i]).toNat, by simp only [Nat.mul_one, Nat.add_zero, List.getElem?_map, List.getElem?_eq_getElem hi, Option.map_some], rfl, ?_⟩
    have : cellAt (byteE s) i 0 = .int .u8 (s.data.toList[i]).toNat := by
      simp only [cellAt, byteE, List.getD_eq_getElem?_getD, List.getElem?_map, List.getElem?_eq_getElem hi, Option.map_some, Option.getD_some]
      rfl
    rw [this]
    exact ⟨rfl, by simp [V, Rd]⟩
  · intro i j q i' j' h; simp at h
theorem added_flat {w : World} {hp : Hp} {R1 Rk : Rf} {L : Lf} (h : HRel RO w (root? hp) nx L) {k : Nat} {v : AV} {es : List (List AV)} (he : elems hp k v = some es) (hf : flat es = true) {x : Value} (hV : V RO w (root? hp) nx L v x) :
    Nonempty (Added P RO w (root? hp) nx L R1 Rk k es x) := by
  obtain ⟨hs, A, cap, rfl, hcap, hm⟩ := elems_mem h he hV
  obtain ⟨arr, ha1, ha2, ha3⟩ : ∃ arr : List Value, arr.length = es.length * k ∧ (es.length = 0 ∨ ∃ b o, A = some ⟨b, o, none⟩ ∧ ∀ (i : Nat) v, arr[i]? = some v → w.cell? ⟨b, o + i, none⟩ = some v) ∧
      (∀ i j, i < es.length → j < k → ∃ u, arr[i * k + j]? = some u ∧ (scal (cellAt es i j) = true → V RO w (root? hp) nx L (cellAt es i j) u)) := by
    rcases hm with rfl | ⟨b, o, rfl, hm⟩
    · exact ⟨[], by simp, .inl rfl, fun i j hi => by simp at hi⟩
    · obtain ⟨vs, h1, h2⟩ := cells_list (w := w) (b := b) (o := o) (es.length * k) (fun i hi => by
        have hkp : 0 < k := by
          rcases Nat.eq_zero_or_pos k with h | h
          · subst h; simp at hi
          · exact h
        obtain ⟨u, hu, _⟩ := hm (i / k) (i % k) (by rw [Nat.div_lt_iff_lt_mul hkp]; exact hi) (Nat.mod_lt _ hkp)
        exact ⟨u, by rw [← hu, Nat.add_assoc, Nat.div_add_mod' i k]⟩)
      refine ⟨vs, h1, .inr ⟨b, o, rfl, h2⟩, fun i j hi hj => ?_⟩
      obtain ⟨u, hu, hV⟩ := hm i j hi hj
      have hlt := idx_lt hi hj (Nat.le_refl (es.length * k))
      refine ⟨u, ?_, hV⟩
      have := h2 (i * k + j) (vs[i * k + j]'(by omega)) (by simp [h1, hlt])
      rw [← Nat.add_assoc, hu] at this
      simp only [Option.some.injEq] at this
      rw [this]
      simp [h1, hlt]
  refine ⟨⟨fun _ _ => none, arr, whence_flat hf, hs, rfl, ha1, fun w1 hw1 => firstCells_run ha1 ha2 w1 hw1, fun i j hi hj => ?_, fun i j q i' j' h => by simp at h⟩⟩
  obtain ⟨u, hu, hVu⟩ := ha3 i j hi hj
  have hsc := flat_cellAt hf hs hi hj
  exact ⟨u, hu, V_one (hVu hsc) (by cases hc : cellAt es i j <;> rw [hc] at hsc <;> simp [scal] at hsc <;> rfl), piece_scal hsc (hVu hsc)⟩
theorem solid_cell {es : List (List AV)} (h : solid es = true) {i j : Nat} (hi : i < es.length) (hj : j < (es.getD i []).length) : scal (cellAt es i j) = true ∨ ∃ k e, cellAt es i j = .tree k e := by
  have key : ∀ es : List (List AV), solid es = true → ∀ e ∈ es, ∀ c ∈ e, scal c = true ∨ ∃ k e, c = .tree k e := by
    intro es
    induction es with
    | nil => simp
    | cons e es ih =>
      intro h e' he c hc
      simp only [solid, Bool.and_eq_true, List.all_eq_true] at h
      rcases List.mem_cons.1 he with rfl | he
      · have := h.1 c hc
        split at this
        · exact .inr ⟨_, _, rfl⟩
        · exact .inl this
      · exact ih h.2 e' he c hc
  unfold cellAt
  exact key es h _ (mem_getD hi) _ (mem_getD hj)
theorem piece_row {w : World} {R : Rf} {L : Lf} (h : HRel RO w R nx L) {r : Nat} {p : Option (Nat × Nat)} {k : Nat} {es : List (List AV)} (hr : row R r p = some (false, k, es)) {b o T : Nat} (hL : L r p = some (b, o, T)) {i j : Nat} (hi : i < es.length) (hj : j < k) :
    ∃ v, w.cell? ⟨b, o + i * k + j, none⟩ = some v ∧ Piece RO w R nx L (if p = none then some (r, i, j) else none) (cellAt es i j) v := by
  have hrow := h.rows _ _ _ _ _ hr
  obtain ⟨_, _, _, hc⟩ := hrow.yes _ _ _ hL
  obtain ⟨v, hv, hC⟩ := hc i j hi hj
  refine ⟨v, hv, ?_⟩
  have hok := hrow.cells rfl i j hi hj
  cases hcc : cellAt es i j with
  | tree k' es' =>
    rw [hcc] at hC hok
    simp only [Cl] at hC
    obtain ⟨A, cap, h1, h2, h3⟩ := hC
    have hp : p = none := hok.1
    subst hp
    refine ⟨A, cap, h1, h2, ?_⟩
    rcases h3 with h3 | ⟨b', o', T', h3, h4, h5⟩
    · exact .inl h3
    · exact .inr ⟨r, i, j, b', o', T', by simp, h3, h4, h5⟩
  | dead => trivial
  | bool x => rw [hcc] at hC; exact piece_scal rfl (by rwa [Cl.other (by simp)] at hC)
  | int x y => rw [hcc] at hC; exact piece_scal rfl (by rwa [Cl.other (by simp)] at hC)
  | str x => rw [hcc] at hC; exact piece_scal rfl (by rwa [Cl.other (by simp)] at hC)
  | _ => rw [hcc] at hok; simp [cellOk, scal] at hok
theorem added_moved {w : World} {hp : Hp} {R1 Rk : Rf} {L : Lf} (h : HRel RO w (root? hp) nx L) {k off len : Nat} {q : BRef} (hq : q.path = none) {es : List (List AV)} (he : elems hp k (.sl q k off len) = some es) (hs : solid es = true) (hk : Rk q.root = none) (hk1 : R1 q.root = none) {x : Value} (hV : V RO w (root? hp) nx L (.sl q k off len) x) :
    Nonempty (Added P RO w (root? hp) nx L R1 Rk k es x) := by
  obtain ⟨hsh, A, cap, rfl, hcap, hm⟩ := elems_mem h he hV
  simp only [elems] at he
  split at he
  · rename_i k'' es0 hg
    split at he
    · rename_i hkk
      obtain ⟨_, rfl⟩ := hkk
      simp only [Option.some.injEq] at he
      subst he
      obtain ⟨b0, hb0⟩ := row_some (getB_row hg)
      have hg' := getB_row hg
      rw [hq, row_root hb0] at hg'
      simp only [Option.some.injEq, Prod.mk.injEq] at hg'
      obtain ⟨hbox, hk0, rfl⟩ := hg'
      simp only [V] at hV
      obtain ⟨_, _, _, h4⟩ := hV
      obtain ⟨h5, A', cap', h6, h7, h8⟩ := h4 _ hg
      have hl := seg_length h5
      rw [hl] at h6
      simp only [Value.slice.injEq, true_and] at h6
      obtain ⟨rfl, rfl⟩ := h6
      obtain ⟨arr, ha1, ha2, ha3⟩ : ∃ arr : List Value, arr.length = (seg b0.es off len).length * k'' ∧ ((seg b0.es off len).length = 0 ∨ ∃ b o, A = some ⟨b, o, none⟩ ∧ ∀ (i : Nat) v, arr[i]? = some v → w.cell? ⟨b, o + i, none⟩ = some v) ∧
          (∀ i j, i < (seg b0.es off len).length → j < k'' → ∃ u, arr[i * k'' + j]? = some u ∧ Piece RO w (root? hp) nx L (some (q.root, off + i, j)) (cellAt (seg b0.es off len) i j) u) := by
        rcases h8 with h8 | ⟨b, o, T, hL, rfl, hT⟩
        · have : (seg b0.es off len).length = 0 := by rw [hl]; omega
          exact ⟨[], by rw [this]; simp, .inl this, fun i j hi => by omega⟩
        · rw [hq] at hL
          have hrow : row (root? hp) q.root none = some (false, k'', b0.es) := by rw [row_root hb0, hbox, hk0]
          have hmem := ((h.rows _ _ _ _ _ hrow).yes _ _ _ hL)
          have hoff : off * k'' + len * k'' ≤ T := by
            rw [← Nat.add_mul]; exact Nat.le_trans (Nat.mul_le_mul_right _ h5) hmem.2.2.1
          obtain ⟨vs, h1, h2⟩ := cells_list (w := w) (b := b) (o := o + off * k'') (len * k'') (fun i hi => by
            obtain ⟨u, hu⟩ := hmem.2.1.cell (off * k'' + i) (by omega)
            exact ⟨u, by rw [← hu, Nat.add_assoc]⟩)
          refine ⟨vs, by rw [hl]; exact h1, .inr ⟨b, _, rfl, h2⟩, fun i j hi hj => ?_⟩
          rw [hl] at hi
          obtain ⟨u, hu, hp⟩ := piece_row h hrow hL (i := off + i) (by omega) hj
          have hlt := idx_lt hi hj (Nat.le_refl (len * k''))
          refine ⟨u, ?_, by rw [cellAt_seg hi]; simpa using hp⟩
          have := h2 (i * k'' + j) (vs[i * k'' + j]'(by omega)) (by simp [h1, hlt])
          rw [show o + off * k'' + (i * k'' + j) = o + (off + i) * k'' + j by rw [Nat.add_mul]; omega, hu] at this
          simp only [Option.some.injEq] at this
          rw [this]
          simp [h1, hlt]
      refine ⟨⟨fun i j => some (q.root, off + i, j), arr, whence_root h hb0 hbox hk off len, hsh, rfl, ha1, fun w1 hw1 => firstCells_run ha1 ha2 w1 hw1, fun i j hi hj => ?_, fun i j q' i' j' he => ?_⟩⟩
      · obtain ⟨u, hu, hp⟩ := ha3 i j hi hj
        refine ⟨u, hu, ?_, hp⟩
        rcases solid_cell hs hi (by rw [shape_getD hsh hi]; exact hj) with hsc | ⟨k1, e1, hsc⟩
        · cases hc : cellAt (seg b0.es off len) i j <;> rw [hc] at hsc hp <;> simp [scal] at hsc <;> obtain ⟨_, hp⟩ := hp <;> exact V_one hp rfl
        · rw [hsc] at hp
          obtain ⟨A, cap, rfl, _⟩ := hp
          rfl
      · simp only [Option.some.injEq, Prod.mk.injEq] at he
        rw [← he.1]
        exact ⟨hk1, _, hb0⟩
    · simp at he
  · simp at he
theorem kill_length {hp : Hp} {r : BRef} : (kill hp r).length = hp.length := by
  unfold kill setB
  split
  · simp
  · split <;> simp
theorem kill_rel {w : World} {hp : Hp} {L : Lf} (h : HRel RO w (root? hp) nx L) {r : BRef} {k : Nat} {es : List (List AV)} (hr : getB (root? hp) r = some (false, k, es)) :
    HRel RO w (root? (kill hp r)) nx L ∧ Pres (root? hp) nx L (root? (kill hp r)) nx L ∧ row (root? (kill hp r)) r.root r.path = none ∧ (r.path = none → root? (kill hp r) r.root = none) ∧ (∀ q p x, row (root? (kill hp r)) q p = some x → ∃ x0, row (root? hp) q p = some x0) ∧
      (∀ q, q ≠ r.root → root? (kill hp r) q = root? hp q) := by
  have hrow := getB_row hr
  obtain ⟨b0, hb0⟩ := row_some hrow
  cases hp2 : r.path with
  | none =>
    have hk : root? (kill hp r) = upd (root? hp) r.root none := by
      unfold kill; rw [hp2]; exact root_set _ _ _ (root_lt hb0)
    rw [hk]
    obtain ⟨h1, h2⟩ := h.drop r.root
    refine ⟨h1, h2, by simp [row], fun _ => by simp, fun q p x hx => ?_, fun q hq => upd_ne _ _ hq⟩
    obtain ⟨b1, hb1⟩ := row_some hx
    have hne : q ≠ r.root := by intro e; subst e; simp at hb1
    rw [row_congr (upd_ne _ _ hne)] at hx
    exact ⟨x, hx⟩
  | some ij =>
    obtain ⟨i, j⟩ := ij
    rw [hp2] at hrow
    have hrow' := hrow
    rw [row_cell_iff hb0] at hrow'
    obtain ⟨hbox, _, hcell⟩ := hrow'
    obtain ⟨hi, hj⟩ := tree_in hcell
    have hroot := row_root hb0
    have hshape := (h.rows _ _ _ _ _ hroot).shape
    rw [shape_getD hshape hi] at hj
    have hk : root? (kill hp r) = setR (root? hp) r.root b0 none b0.gen i j .dead := by
      unfold kill; rw [hp2]
      rw [root_setB (r := { r with path := none }) hb0]
      simp only [setR, setP, Nat.add_zero]
    rw [hk]
    rw [hbox] at hroot
    have hpres : Pres (root? hp) nx L (setR (root? hp) r.root b0 none b0.gen i j .dead) nx L := Pres.setR hroot hb0 i j (fun _ => by simp) (Nat.le_refl _)
    have hes : b0.es ≠ [] := by intro e; rw [e] at hi; simp at hi
    cases hL : L r.root none with
    | none => exact absurd ((h.rows _ _ _ _ _ hroot).no hL) hes
    | some l =>
      obtain ⟨b, o, T⟩ := l
      obtain ⟨h1, h2, h3, h4⟩ := (h.rows _ _ _ _ _ hroot).yes _ _ _ hL
      obtain ⟨v, hv, _⟩ := h4 i j hi hj
      have hset := h.setCell (w' := w) hroot hi hj hb0 (c := .dead) (fun _ => by simp) (fun _ => .inl rfl) (by simp) (Nat.le_refl _) hL (Same.refl _ _) (Nat.le_refl _) (fun _ _ _ => rfl) (fun _ _ => rfl) ⟨v, hv, by simp [V]⟩
      have hself : setR (root? hp) r.root b0 none b0.gen i j .dead r.root = some { b0 with es := setAt b0.es i j .dead } := by simp [setR, setP]
      refine ⟨hset.1, hpres, ?_, fun h => by simp at h, fun q p x hx => ?_, fun q hq => upd_ne _ _ hq⟩
      · rw [row_cell hself]
        simp only [hbox, if_true]
        rw [cellAt_setAt, if_pos ⟨rfl, rfl, hi, by rw [shape_getD hshape hi]; exact hj⟩]
      · obtain ⟨bx1, k1, es1⟩ := x
        rcases row_setR hb0 hroot b0.gen i j (fun _ => by simp) hx with ⟨e1, e2, _⟩ | ⟨_, es0, e1, _⟩
        · exact ⟨_, by rw [e1, e2]; exact hroot⟩
        · exact ⟨_, e1⟩
theorem d_app {w : World} {hp : Hp} {L : Lf} (h : HRel RO w (root? hp) hp.length L) (he : EV RO w (root? hp) hp.length L tm a) {o : Oper} {c : Call} {t u e : TypeId} {k bb : Nat} {x y : Operand} {x' y' : X} (ho : o.op = .call c) (hc : c.callee = .builtin .append)
    (hts : c.argTypes.toList = [t, u]) (hxs : c.args.toList = [x, y]) (ht : P.underlying t = some (.slice e)) (hu : ∃ d, P.underlying u = some d ∧ ∀ q, d ≠ .int q) (hks : size? P e = some k) (hk0 : k ≠ 0) (hbb : bytes? P e = some bb) (hbb0 : bb ≠ 0)
    (hz : (zeroE P e).map (·.length) = some k) (hx : rX P t x = some x') (hy : rX P u y = some y') {flt : Bool} {v : AV} {hp' : Hp} (hst : step (ev tm) hp (.app flt k bb x' y') = some (v, hp')) :
    Does P o a RO w (root? hp) hp.length L v (root? hp') hp'.length := by
  have hVx := rX_V he hx
  have hVy := rX_V he hy
  obtain ⟨zv, hzv, hzl⟩ : ∃ zv, (P.info? e).bind (·.zero) = some zv ∧ zv.cells.size = k := by
    unfold zeroE at hz
    simp only [Option.map_map, Option.map_eq_some_iff, Function.comp] at hz
    obtain ⟨cs, h1, h2⟩ := hz
    obtain ⟨zv, h3, h4⟩ := zeroV_cl (RO := RO) (w := w) (R := root? hp) (nx := hp.length) (L := L) h1
    refine ⟨zv, h3, ?_⟩
    have := VL_len h4
    rw [List.length_map] at h2
    rw [← Array.length_toList, ← this, h2]
  have hrunx : ∀ z w', (Builtin.append_ #[t, u] o.type #[a.eval x, a.eval y]).run P w = .ok z w' → (execOp a.eval o).run P w = .ok (.value z) w' := by
    intro z w' hr
    have e1 := toList_two hts
    have e2 := toList_two hxs
    simp only [execOp, ho, resolve, hc, e2, List.map_toArray, List.map_cons, List.map_nil, Sem.run_bind, Sem.run_pure, Result.andThen_ok, invoke, builtin, e1, hr]
  simp only [step] at hst
  split at hst
  · simp at hst
  · rename_i es hp1 hnew
    -- what is added
    obtain ⟨hlen1, hrel1, hpres1, hsub1, hadd⟩ : hp1.length = hp.length ∧ HRel RO w (root? hp1) hp.length L ∧ Pres (root? hp) hp.length L (root? hp1) hp.length L ∧ (∀ q b, root? hp1 q = some b → root? hp q = some b) ∧
        (∀ Rk : Rf, (∀ q, root? hp1 q = none → Rk q = none) → Nonempty (Added P RO w (root? hp) hp.length L (root? hp1) Rk k es (a.eval y))) := by
      -- read only
      have flatCase : ∀ {v : AV}, ev tm y' = v → elems hp k v = some es → flat es = true → hp1 = hp → hp1.length = hp.length ∧ HRel RO w (root? hp1) hp.length L ∧ Pres (root? hp) hp.length L (root? hp1) hp.length L ∧ (∀ q b, root? hp1 q = some b → root? hp q = some b) ∧
          (∀ Rk : Rf, (∀ q, root? hp1 q = none → Rk q = none) → Nonempty (Added P RO w (root? hp) hp.length L (root? hp1) Rk k es (a.eval y))) := by
        rintro v hv hel hfl rfl
        rw [hv] at hVy
        exact ⟨rfl, h, Pres.refl _ _ _, fun _ _ h => h, fun Rk _ => added_flat h hel hfl hVy⟩
      split at hnew
      · rename_i s hs
        split at hnew
        · rename_i hk1
          subst hk1
          simp only [Option.some.injEq, Prod.mk.injEq] at hnew
          obtain ⟨rfl, rfl⟩ := hnew
          rw [hs] at hVy
          rw [V_str hVy]
          exact ⟨rfl, h, Pres.refl _ _ _, fun _ _ h => h, fun Rk _ => added_str⟩
        · simp at hnew
      · split at hnew
        · split at hnew
          · rename_i es0 hel
            split at hnew
            · rename_i hfl
              simp only [Option.some.injEq, Prod.mk.injEq] at hnew
              obtain ⟨rfl, rfl⟩ := hnew
              exact flatCase rfl hel hfl rfl
            · simp at hnew
          · simp at hnew
        · split at hnew
          · rename_i k' hv
            split at hnew
            · rename_i hk'
              simp only [Option.some.injEq, Prod.mk.injEq] at hnew
              obtain ⟨rfl, rfl⟩ := hnew
              exact flatCase hv (by simp [elems, hk']) rfl rfl
            · simp at hnew
          · rename_i q k' off len hv
            split at hnew
            · rename_i es0 hq hel
              split at hnew
              · rename_i hsol
                simp only [Option.some.injEq, Prod.mk.injEq] at hnew
                obtain ⟨rfl, rfl⟩ := hnew
                rw [hv] at hVy
                have hkk : k' = k := by
                  simp only [elems] at hel
                  split at hel
                  · split at hel
                    · rename_i h; exact h.1
                    · simp at hel
                  · simp at hel
                subst hkk
                obtain ⟨b0, hb0⟩ : ∃ b0, root? hp q.root = some b0 := by
                  simp only [elems] at hel
                  split at hel
                  · rename_i hg; exact row_some (getB_row hg)
                  · simp at hel
                have hset := root_set hp q.root none (root_lt hb0)
                obtain ⟨d1, d2⟩ := h.drop q.root
                rw [hset]
                refine ⟨by simp, d1, d2, fun r b hb => ?_, fun Rk hRk => added_moved h hq hel hsol (hRk _ (by simp)) (by simp) hVy⟩
                by_cases e : r = q.root
                · subst e; simp at hb
                · rwa [upd_ne _ _ e] at hb
              · simp at hnew
            · simp at hnew
          · simp at hnew
    have hsubr : ∀ q p z, row (root? hp1) q p = some z → row (root? hp) q p = some z := by
      intro q p z hz
      obtain ⟨b, hb⟩ := row_some hz
      rw [row_congr (show root? hp q = root? hp1 q by rw [hb, hsub1 q b hb])]
      exact hz
    have hadv1 : Adv RO w (root? hp) hp.length L w (root? hp1) hp.length L := ⟨hrel1, hpres1, Same.refl _ _, Nat.le_refl _, rfl, rfl, rfl⟩
    split at hst
    · -- to nothing
      rename_i k' hv
      split at hst
      · rename_i hc2
        obtain ⟨rfl, hsz⟩ := hc2
        simp only [newB, Option.some.injEq, Prod.mk.injEq] at hst
        obtain ⟨rfl, rfl⟩ := hst
        rw [hv] at hVx
        simp only [V] at hVx
        obtain ⟨A⟩ := hadd (root? hp1) (fun _ h => h)
        have hw0 : Whence (root? hp) (root? hp1) [] (fun _ _ => none) := whence_flat rfl
        obtain ⟨z, w', L', h1, h2, h3⟩ := app_core (P := P) h hrel1 (fun q p z hz => ⟨z, hsubr q p z hz⟩) hks hk0 hbb hbb0 hzv hzl hw0 A.wh (by simp) A.shape (fun i j i2 j2 x y hx => by simp at hx) (by simpa using hsz) A.len A.alen A.run A.cell
          (A := none) (cap := 0) (Nat.le_refl _) (.inl ⟨rfl, rfl⟩) ht hu o.type
        refine ⟨z, w', L', .inl (hrunx z w' (by rw [hVx]; exact h1)), ?_, ?_⟩
        · rw [root_push, hlen1]
          simp only [List.length_append, List.length_cons, List.length_nil, hlen1]
          exact hadv1.trans h2
        · rw [root_push, hlen1]
          simp only [List.length_append, List.length_cons, List.length_nil, hlen1]
          simpa using h3
      · simp at hst
    · -- to a row
      rename_i q k' off len hv
      split at hst
      · rename_i old hold
        split at hst
        · rename_i hsz
          simp only [newB, Option.some.injEq, Prod.mk.injEq] at hst
          obtain ⟨rfl, rfl⟩ := hst
          rw [hv] at hVx
          have hVx1 := hadv1.v hVx
          simp only [elems] at hold
          split at hold
          · rename_i k'' esq hg
            split at hold
            · rename_i hkk
              obtain ⟨rfl, rfl⟩ := hkk
              simp only [Option.some.injEq] at hold
              subst hold
              obtain ⟨g1, g2, g3, g4, g5, g6⟩ := kill_rel hrel1 hg
              have hgr := getB_row hg
              obtain ⟨b0, hb0⟩ := row_some hgr
              have hRk : ∀ r, root? hp1 r = none → root? (kill hp1 q) r = none := by
                intro r hr
                by_cases e : r = q.root
                · subst e; rw [hb0] at hr; simp at hr
                · rw [g6 r e]; exact hr
              obtain ⟨A⟩ := hadd _ hRk
              simp only [V] at hVx1
              obtain ⟨_, _, _, hV4⟩ := hVx1
              obtain ⟨hol, Ad, cap, e1, e2, e3⟩ := hV4 _ hg
              have hl := seg_length hol
              have hrowq := hrel1.rows _ _ _ _ _ hgr
              have hgr0 := hsubr _ _ _ hgr
              have hb00 := hsub1 _ _ hb0
              have hAq : ∀ i j q' i' j', A.src i j = some (q', i', j') → q' ≠ q.root := by
                intro i j q' i' j' hs e
                subst e
                have := (A.root _ _ _ _ _ hs).1
                rw [hb0] at this
                simp at this
              obtain ⟨srcO, hwO, hsO, hsOq⟩ : ∃ srcO : Nat → Nat → Option (Nat × Nat × Nat), Whence (root? hp) (root? (kill hp1 q)) (seg esq off len) srcO ∧ (∀ i j, srcO i j = if q.path = none then some (q.root, off + i, j) else none) ∧ (∀ i j q' i' j', srcO i j = some (q', i', j') → q' = q.root ∧ q.path = none) := by
                cases hqp : q.path with
                | none =>
                  refine ⟨fun i j => some (q.root, off + i, j), ?_, by simp, by simp⟩
                  rw [hqp, row_root hb0] at hgr
                  simp only [Option.some.injEq, Prod.mk.injEq] at hgr
                  obtain ⟨hbx, _, rfl⟩ := hgr
                  exact whence_root h hb00 hbx (g4 hqp) off len
                | some ij =>
                  refine ⟨fun _ _ => none, ⟨fun i j kk ee hcc => ?_, fun i j _ _ _ _ _ _ _ _ _ h => by simp at h⟩, by simp, by simp⟩
                  exfalso
                  obtain ⟨hi, hj⟩ := tree_in hcc
                  have hil : i < len := by rw [hl] at hi; exact hi
                  rw [cellAt_seg hil] at hcc
                  obtain ⟨hi2, hj2⟩ := tree_in hcc
                  rw [shape_getD hrowq.shape hi2] at hj2
                  have hok := hrowq.cells rfl _ _ hi2 hj2
                  rw [hcc] at hok
                  have := hok.1
                  rw [hqp] at this
                  simp at this
              obtain ⟨z, w', L', h1, h2, h3⟩ := app_core (P := P) h g1 (fun r p z hz => by obtain ⟨z0, hz0⟩ := g5 r p z hz; exact ⟨z0, hsubr _ _ _ hz0⟩) hks hk0 hbb hbb0 hzv hzl hwO A.wh (seg_shape hrowq.shape off len) A.shape
                (fun i j i2 j2 x y hx hy2 e => by
                  subst e
                  obtain ⟨q', i', j'⟩ := x
                  exact hAq _ _ _ _ _ hy2 (hsOq _ _ _ _ _ hx).1) hsz A.len A.alen A.run A.cell
                (A := Ad) (cap := cap) (by rw [hl]; exact e2) (by
                  rcases e3 with e3 | ⟨b, o', T, e3, e4, e5⟩
                  · exact .inl ⟨e3, rfl⟩
                  · right
                    obtain ⟨f1, f2, f3, _⟩ := hrowq.yes _ _ _ e3
                    have f4 : (off + cap) * k'' = off * k'' + cap * k'' := Nat.add_mul _ _ _
                    refine ⟨b, o' + off * k'', T - off * k'', q.root, q.path, _, o', T, e4, by omega, f2.sub (by omega), f1, g3, hgr0, e3, fun i j q' i' j' hs => ?_, fun i j hi hj => ?_⟩
                    · rintro ⟨e6, e7⟩
                      rcases hs with hs | hs
                      · have := (hsOq _ _ _ _ _ hs).2
                        rw [this] at e7
                        simp at e7
                      · exact hAq _ _ _ _ _ hs e6
                    · rw [hl] at hi
                      obtain ⟨v, hv1, hp1⟩ := piece_row hrel1 hgr e3 (i := off + i) (by omega) hj
                      refine ⟨v, by rw [← hv1, Nat.add_mul]; congr 2; omega, ?_⟩
                      rw [hsO, cellAt_seg hi]
                      generalize cellAt esq (off + i) j = cc at hp1 ⊢
                      cases cc <;> first
                        | exact hp1
                        | (simp only [Piece] at hp1 ⊢; exact ⟨hp1.1, V_scal hp1.1 hp1.2⟩)) ht hu o.type
              rw [hl] at h1
              refine ⟨z, w', L', .inl (hrunx z w' (by rw [e1]; exact h1)), ?_, ?_⟩
              · rw [root_push, kill_length, hlen1]
                simp only [List.length_append, List.length_cons, List.length_nil, hlen1, kill_length]
                have hadv2 : Adv RO w (root? hp1) hp.length L w (root? (kill hp1 q)) hp.length L := ⟨g1, g2, Same.refl _ _, Nat.le_refl _, rfl, rfl, rfl⟩
                exact (hadv1.trans hadv2).trans h2
              · rw [root_push, kill_length, hlen1]
                simp only [List.length_append, List.length_cons, List.length_nil, hlen1, kill_length]
                exact h3
            · simp at hold
          · simp at hold
        · simp at hst
      · simp at hst
    · simp at hst
end
end Go.Proofs.Ytldmpjoddghdkaa.AI
