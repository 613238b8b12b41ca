import Derived.Test.YtldmpjoddghdkaaAOps
namespace Go.Proofs.Ytldmpjoddghdkaa.AI
set_option linter.all false
open Go.RowKit
set_option autoImplicit false
set_option linter.unusedVariables false
set_option linter.unusedSimpArgs false
variable [Tabs]
theorem splice_cons {α : Type} (l : List α) (off : Nat) (v : α) (vs : List α) (h : off < l.length) : splice l off (v :: vs) = splice (l.set off v) (off + 1) vs := by
  unfold splice
  have h1 : (l.set off v).take (off + 1) = l.take off ++ [v] := by
    rw [List.take_succ_eq_append_getElem (by simpa using h)]
    simp only [List.take_set, List.getElem_set_self]
    rw [List.set_eq_of_length_le (by simp; omega)]
  have h2 : (l.set off v).drop (off + 1 + vs.length) = l.drop (off + (v :: vs).length) := by
    rw [List.drop_set_of_lt (by omega)]
    simp [Nat.add_assoc, Nat.add_comm 1]
  rw [h1, h2]
  simp
theorem splice_nil {α : Type} (l : List α) (off : Nat) : splice l off [] = l := by simp [splice]
theorem foldl_set {α : Type} : ∀ (vs : List α) (off k : Nat) (cs : Array α), off + k + vs.length ≤ cs.size →
    ((vs.zipIdx k).foldl (fun cs (x : α × Nat) => cs.setIfInBounds (off + x.2) x.1) cs).toList = splice cs.toList (off + k) vs
  | [], off, k, cs, _ => by simp [splice_nil]
  | v :: vs, off, k, cs, h => by
    simp only [List.zipIdx_cons, List.foldl_cons]
    simp only [List.length_cons] at h
    rw [foldl_set vs off (k + 1) (cs.setIfInBounds (off + k) v) (by simp; omega), splice_cons _ _ _ _ (by simp; omega)]
    simp [Nat.add_assoc]
@[simp] theorem length_splice {α : Type} (l : List α) (off : Nat) (vs : List α) (h : off + vs.length ≤ l.length) : (splice l off vs).length = l.length := by
  simp [splice]; omega
section
variable {P : Program} {RO : Bx} {w : World} {R : Rf} {nx : Nat} {L : Lf} {tm : List (Nat × AV)} {a : Act}
theorem VL_splice {cs ds : List AV} {vs us : List Value} (h : VL RO w R nx L cs vs) (h' : VL RO w R nx L ds us) (off : Nat) : VL RO w R nx L (splice cs off ds) (splice vs off us) := by
  unfold splice
  rw [VL_len h']
  exact VL_append (VL_append (VL_take off h) h') (VL_drop _ h)
theorem partsOf_run (he : EV RO w R nx L tm a) {fs : Array Field} {places : Array (Nat × Nat)} (hpl : ∀ (i : Nat) (f : Field) (n : Nat), fs[i]? = some f → size? P f.type = some n → places[i]? = some (f.offset, n)) :
    ∀ {ps : List (Nat × Operand)} {qs : List (Nat × Nat × X)} {cells out : List AV} {vs : Array Value}, partsOf P fs ps = some qs → VL RO w R nx L cells vs.toList → fillP (ev tm) cells qs = some out →
      ∃ us : Array Value, Instr.fill (places[·]?) vs (ps.map fun x => (x.1, a.eval x.2)) = some us ∧ VL RO w R nx L out us.toList
  | [], qs, cells, out, vs, h1, h2, h3 => by
    simp only [partsOf, Option.some.injEq] at h1
    subst h1
    simp only [fillP, Option.some.injEq] at h3
    subst h3
    exact ⟨vs, by simp [Instr.fill], h2⟩
  | (i, x) :: ps, qs, cells, out, vs, h1, h2, h3 => by
    simp only [partsOf] at h1
    split at h1
    · simp at h1
    · rename_i f hf
      split at h1
      · rename_i n y ys hn hy hys
        simp only [Option.some.injEq] at h1
        subst h1
        simp only [fillP] at h3
        split at h3
        · rename_i cs hcl
          split at h3
          case isFalse => simp at h3
          rename_i hc
          have hV := rX_V he hy
          have hcells := V_cells hV hcl
          have hlen := VL_len hcells
          have hlen2 := VL_len h2
          have hsz : (a.eval x).cells.size = n := by simpa [hc.1] using hlen.symm
          have hp := hpl i f n hf hn
          obtain ⟨us, h4, h5⟩ := partsOf_run he hpl (vs := ((a.eval x).cells.zipIdx.foldl (fun cs (c, j) => cs.setIfInBounds (f.offset + j) c) vs)) hys (by
            have := foldl_set (a.eval x).cells.toList f.offset 0 vs (by simp at hlen2 ⊢; omega)
            simp only [Nat.add_zero] at this
            rw [show ((a.eval x).cells.zipIdx.foldl (fun cs (c, j) => cs.setIfInBounds (f.offset + j) c) vs).toList = splice vs.toList f.offset (a.eval x).cells.toList by
              rw [← this, ← Array.foldl_toList]; simp]
            exact VL_splice h2 hcells _) h3
          refine ⟨us, ?_, h5⟩
          simp only [List.map_cons, Instr.fill, hp]
          have h6 : ¬ ((decide ((a.eval x).cells.size ≠ n) || decide (f.offset + (a.eval x).cells.size > vs.size)) = true) := by simp at hlen2 ⊢; omega
          rw [if_neg h6]
          exact h4
        · simp at h3
      · simp at h1
theorem run_zero {t : TypeId} {z : Value} (h : (P.info? t).bind (·.zero) = some z) (w : World) : (zeroValue t).run P w = .ok z w := by
  cases hi : P.info? t with
  | none => simp [hi] at h
  | some i => simp [hi] at h; simp [zeroValue, typeInfo, hi, h]
theorem zeroV_cl {t : TypeId} {cs : List AV} (h : (zeroV P t).bind (·.cl) = some cs) : ∃ z, (P.info? t).bind (·.zero) = some z ∧ VL RO w R nx L cs z.cells.toList := by
  simp only [Option.bind_eq_some_iff] at h
  obtain ⟨v, h1, h2⟩ := h
  unfold zeroV at h1
  simp only [Option.bind_eq_some_iff] at h1
  obtain ⟨z, h3, h4⟩ := h1
  exact ⟨z, Option.bind_eq_some_iff.2 h3, V_cells (constV_V h4) h2⟩
def sizeD (P : Program) (t : TypeId) : Nat := (size? P t).getD 0
theorem run_mapSizes {fs : Array Field} (h : ∀ f ∈ fs, (size? P f.type).isSome = true) (w : World) :
    (fs.mapM fun f => (do pure (f.offset, ← sizeOf f.type) : Sem (Nat × Nat))).run P w = .ok (fs.map fun f => (f.offset, sizeD P f.type)) w := by
  have : (fs.mapM fun f => (do pure (f.offset, ← sizeOf f.type) : Sem (Nat × Nat))) = (List.toArray <$> fs.toList.mapM (fun f => (do pure (f.offset, ← sizeOf f.type) : Sem (Nat × Nat))) : Sem (Array (Nat × Nat))) := by rw [Array.mapM_eq_mapM_toList]
  rw [this]
  simp only [Sem.run_map]
  have key : ∀ (l : List Field), (∀ f ∈ l, (size? P f.type).isSome = true) → (l.mapM (fun f => (do pure (f.offset, ← sizeOf f.type) : Sem (Nat × Nat))) : Sem (List (Nat × Nat))).run P w = .ok (l.map fun f => (f.offset, sizeD P f.type)) w := by
    intro l
    induction l with
    | nil => intro _; rfl
    | cons f l ih =>
      intro hl
      obtain ⟨n, hn⟩ := Option.isSome_iff_exists.1 (hl f (by simp))
      simp only [List.mapM_cons, Sem.run_bind, run_sizeOf hn, Result.andThen_ok, Sem.run_pure, ih (fun g hg => hl g (by simp [hg])), List.map_cons, sizeD, hn, Option.getD_some]
  rw [key _ (fun f hf => h f (by simpa using hf))]
  simp only [Result.andThen_ok]
  congr 1
  apply Array.ext'
  simp
theorem d_build (h : HRel RO w R nx L) (he : EV RO w R nx L tm a) {o : Oper} {t : TypeId} {ps : Array (Nat × Operand)} {fs : Array Field} {zero : List AV} {qs : List (Nat × Nat × X)} (ho : o.op = .build t ps) (ht : P.underlying t = some (.struct fs))
    (hsz : ∀ f ∈ fs, (size? P f.type).isSome = true) (hz : (zeroV P t).bind (·.cl) = some zero) (hq : partsOf P fs ps.toList = some qs) {cs : List AV} (hc : fillP (ev tm) zero qs = some cs) : Does P o a RO w R nx L (.agg cs) R nx := by
  obtain ⟨z, h1, h2⟩ := zeroV_cl (RO := RO) (w := w) (R := R) (nx := nx) (L := L) hz
  obtain ⟨us, h3, h4⟩ := partsOf_run he (places := fs.map fun f => (f.offset, sizeD P f.type)) (fun i f n hf hn => by simp [hf, sizeD, hn]) hq h2 hc
  refine Does.pure h (x := .agg us) ?_ ?_
  · simp only [execOp, ho, Instr.build, Sem.run_bind, run_zero h1, Result.andThen_ok, run_under ht]
    rw [run_mapSizes hsz]
    simp only [Result.andThen_ok]
    have e : (ps.map fun x => (x.1, a.eval x.2)).toList = ps.toList.map fun x => (x.1, a.eval x.2) := by simp
    simp only [e, h3, Sem.run_pure, Result.andThen_ok]
  · simp only [V]
    exact ⟨us, rfl, h4⟩
theorem loadCellsFrom_run {w : World} {b o : Nat} : ∀ (n i : Nat) (acc : Array Value) (vs : List Value), vs.length = n → (∀ j v, vs[j]? = some v → w.cell? ⟨b, o + i + j, none⟩ = some v) →
    (loadCellsFrom ⟨b, o, none⟩ i n acc).run P w = .ok (acc ++ vs.toArray) w
  | 0, i, acc, vs, hl, h => by
    have := List.eq_nil_of_length_eq_zero hl
    subst this
    simp [loadCellsFrom]
  | n + 1, i, acc, vs, hl, h => by
    cases vs with
    | nil => simp at hl
    | cons v vs =>
      have h0 := h 0 v (by simp)
      simp only [Nat.add_zero] at h0
      simp only [loadCellsFrom, Sem.run_bind, addr_add, run_load, h0, Result.andThen_ok]
      rw [loadCellsFrom_run n (i + 1) (acc.push v) vs (by simpa using hl) (fun j u hu => by have := h (j + 1) u (by simpa using hu); rw [← this]; congr 2; omega)]
      simp
theorem loadCells_run {w : World} {b o n : Nat} {vs : List Value} (hl : vs.length = n) (h : ∀ j v, vs[j]? = some v → w.cell? ⟨b, o + j, none⟩ = some v) : (loadCells ⟨b, o, none⟩ n).run P w = .ok vs.toArray w := by
  unfold loadCells
  rw [loadCellsFrom_run n 0 #[] vs hl (by simpa using h)]
  simp
theorem collect {Q : Nat → AV → Value → Prop} : ∀ (cs : List AV), (∀ j c, cs[j]? = some c → ∃ v, Q j c v) → ∃ vs : List Value, vs.length = cs.length ∧ ∀ j c v, cs[j]? = some c → vs[j]? = some v → Q j c v
  | [], _ => ⟨[], rfl, by simp⟩
  | c :: cs, h => by
    obtain ⟨v, hv⟩ := h 0 c (by simp)
    obtain ⟨vs, h1, h2⟩ := collect (Q := fun j => Q (j + 1)) cs (fun j c' hc => h (j + 1) c' (by simpa using hc))
    refine ⟨v :: vs, by simp [h1], fun j c' v' hc hv' => ?_⟩
    cases j with
    | zero => simp at hc hv'; subst hc; subst hv'; exact hv
    | succ j => exact h2 j c' v' (by simpa using hc) (by simpa using hv')
theorem VL_of : ∀ {cs : List AV} {vs : List Value}, cs.length = vs.length → (∀ (j : Nat) c v, cs[j]? = some c → vs[j]? = some v → V RO w R nx L c v) → VL RO w R nx L cs vs
  | [], [], _, _ => by simp [VL]
  | c :: cs, v :: vs, h1, h2 => by
    simp only [VL]
    exact ⟨h2 0 c v (by simp) (by simp), VL_of (by simpa using h1) fun j c' v' hc hv => h2 (j + 1) c' v' (by simpa using hc) (by simpa using hv)⟩
  | [], _ :: _, h, _ => by simp at h
  | _ :: _, [], h, _ => by simp at h
theorem run_loadVar {t : TypeId} {n : Nat} {g : Bool} (hn : size? P t = some n) (hg : agg? P t = some g) (hg1 : g = false → n = 1) {b o : Nat} {cs : List AV} (hlen : cs.length = n)
    (hc : ∀ j c, cs[j]? = some c → ∃ v, w.cell? ⟨b, o + j, none⟩ = some v ∧ V RO w R nx L c v) {v : AV} (hv : mkv g cs = some v) : ∃ x, (loadVar t ⟨b, o, none⟩).run P w = .ok x w ∧ V RO w R nx L v x := by
  obtain ⟨vs, h1, h2⟩ := collect (Q := fun j c v => w.cell? ⟨b, o + j, none⟩ = some v ∧ V RO w R nx L c v) cs hc
  have h3 : ∀ j u, vs[j]? = some u → w.cell? ⟨b, o + j, none⟩ = some u := by
    intro j u hu
    have hj : j < cs.length := by rw [← h1]; exact (List.getElem?_eq_some_iff.1 hu).1
    exact (h2 j cs[j] u (by simp [hj]) hu).1
  have h4 : VL RO w R nx L cs vs := VL_of h1.symm fun j c u hc hu => (h2 j c u hc hu).2
  cases g with
  | true =>
    simp only [mkv, if_true, Option.some.injEq] at hv
    subst hv
    refine ⟨.agg vs.toArray, ?_, ?_⟩
    · simp [loadVar, run_isAgg hg, run_sizeOf hn, loadCells_run (h1.trans hlen) h3]
    · simp only [V]; exact ⟨_, rfl, by simpa using h4⟩
  | false =>
    have e := hg1 rfl
    subst e
    match cs, vs, hlen, h1, hv with
    | [c], [u], _, _, hv =>
      simp [mkv] at hv
      subst hv
      have := h3 0 u (by simp)
      simp only [Nat.add_zero] at this
      simp only [VL] at h4
      exact ⟨u, by simp [loadVar, run_isAgg hg, this], h4.1⟩
theorem seg1_get {cs : List AV} {off n j : Nat} {c : AV} (h : (seg1 cs off n)[j]? = some c) : cs[off + j]? = some c ∧ j < n := by
  unfold seg1 at h
  rw [List.getElem?_take] at h
  split at h
  · rename_i hj
    rw [List.getElem?_drop] at h
    exact ⟨h, hj⟩
  · simp at h
theorem seg1_length {cs : List AV} {off n : Nat} (h : off + n ≤ cs.length) : (seg1 cs off n).length = n := by
  simp [seg1]; omega
theorem outOf_get {r : BRef} {i : Nat} : ∀ {cs : List AV} {j0 j : Nat} {c : AV}, (outOf r i j0 cs)[j]? = some c → ∃ d, cs[j]? = some d ∧ c = outC r i (j0 + j) d
  | [], _, _, _, h => by simp [outOf] at h
  | d :: cs, j0, 0, c, h => by simp [outOf] at h; exact ⟨d, by simp, by simpa using h.symm⟩
  | d :: cs, j0, j + 1, c, h => by
    simp only [outOf, List.getElem?_cons_succ] at h
    obtain ⟨d', h1, h2⟩ := outOf_get h
    exact ⟨d', by simpa using h1, by rw [h2]; congr 1; omega⟩
@[simp] theorem outOf_length {r : BRef} {i : Nat} : ∀ (cs : List AV) (j0 : Nat), (outOf r i j0 cs).length = cs.length
  | [], _ => rfl
  | _ :: cs, j0 => by simp [outOf, outOf_length cs]
theorem getB_gen {r : BRef} {x : Bool × Nat × List (List AV)} (h : getB R r = some x) : r.path = none ∨ ∃ b, R r.root = some b ∧ r.gen = b.gen := by
  unfold getB at h
  split at h
  · simp at h
  · rename_i b hb
    split at h
    · exact .inl (by assumption)
    · split at h
      · rename_i hc; exact .inr ⟨b, hb, hc.2⟩
      · simp at h
theorem cell_read (h : HRel RO w R nx L) {r : BRef} {bx : Bool} {k : Nat} {es : List (List AV)} (hr : getB R r = some (bx, k, es)) {b o T : Nat} (hL : L r.root r.path = some (b, o, T)) {i j : Nat} (hi : i < es.length) (hj : j < k) {b0 : Blk} (hb : R r.root = some b0) :
    ∃ v, w.cell? ⟨b, o + i * k + j, none⟩ = some v ∧ V RO w R nx L (if bx then cellAt es i j else outC { r with gen := b0.gen } i j (cellAt es i j)) v := by
  have hrow := h.rows _ _ _ _ _ (getB_row hr)
  obtain ⟨h1, h2, h3, h4⟩ := hrow.yes _ _ _ hL
  obtain ⟨v, hv, hc⟩ := h4 i j hi hj
  refine ⟨v, hv, ?_⟩
  cases bx with
  | true => simp only [if_true]; rwa [Cl.box] at hc
  | false =>
    simp only [Bool.false_eq_true, if_false]
    have hok := hrow.cells rfl i j hi hj
    by_cases ht : ∃ k es', cellAt es i j = .tree k es'
    · obtain ⟨k', es', hce⟩ := ht
      rw [hce] at hc hok ⊢
      simp only [Cl] at hc
      obtain ⟨A, cap, h5, h6, h7⟩ := hc
      have hp : r.path = none := hok.1
      have hroot := getB_row hr
      rw [hp, row_root hb] at hroot
      simp only [Option.some.injEq, Prod.mk.injEq] at hroot
      obtain ⟨e1, e2, e3⟩ := hroot
      subst e3
      simp only [outC, hp, V]
      refine ⟨h.dom _ _ hb, fun b1 hb1 _ => by rw [hb] at hb1; simp only [Option.some.injEq] at hb1; rw [hb1]; exact Nat.le_refl _, ⟨A, cap, h5⟩, fun es1 he1 => ?_⟩
      have hr1 := getB_row he1
      rw [row_cell_iff hb] at hr1
      rw [hce] at hr1
      simp only [AV.tree.injEq, true_and] at hr1
      obtain ⟨_, rfl⟩ := hr1
      refine ⟨by omega, A, cap, h5, h6, ?_⟩
      rcases h7 with h7 | ⟨b', o', T', h7, h8, h9⟩
      · exact .inl h7
      · exact .inr ⟨b', o', T', h7, by simp [h8], by simpa using h9⟩
    · have hno : ∀ k es', cellAt es i j ≠ .tree k es' := fun k es' e => ht ⟨k, es', e⟩
      rw [outC_other hno]
      rwa [Cl.other hno] at hc
theorem cellAt_getD {es : List (List AV)} {i : Nat} {cs : List AV} (h : es.getD i [] = cs) {j : Nat} {c : AV} (hc : cs[j]? = some c) : cellAt es i j = c := by
  unfold cellAt
  rw [h, List.getD_eq_getElem?_getD, hc]; rfl
theorem ld_core (h : HRel RO w R nx L) (he : EV RO w R nx L tm a) {t : TypeId} {x : Operand} {y : X} {n : Nat} {g : Bool} (hn : size? P t = some n) (hg : agg? P t = some g) (hg1 : g = false → n = 1) (hx : rX0 x = some y) {v : AV}
    (hv : (∃ r k idx off bx es b0, ev tm y = .ptr r k idx off ∧ getB R r = some (bx, k, es) ∧ R r.root = some b0 ∧ idx < es.length ∧ off + n ≤ k ∧ mkv g (if bx then seg1 (es.getD idx []) off n else outOf { r with gen := b0.gen } idx off (seg1 (es.getD idx []) off n)) = some v) ∨
      (∃ cells off, ev tm y = .rp cells off ∧ off + n ≤ cells.length ∧ mkv g (seg1 cells off n) = some v)) : ∃ b o z, a.eval x = .pointer (some ⟨b, o, none⟩) ∧ (loadVar t ⟨b, o, none⟩).run P w = .ok z w ∧ V RO w R nx L v z := by
  have h1 := rX0_V he hx
  rcases hv with ⟨r, k, idx, off, bx, es, b0, e1, hr, hb, hi, hk, hv⟩ | ⟨cells, off, e1, hk, hv⟩ <;> rw [e1] at h1
  · simp only [V] at h1
    obtain ⟨_, _, _, h2⟩ := h1
    obtain ⟨b, o', T, hL, hp⟩ := h2 bx es hr hi
    have hrow := h.rows _ _ _ _ _ (getB_row hr)
    have hlen : (es.getD idx []).length = k := shape_getD hrow.shape hi
    obtain ⟨z, h3, h4⟩ := run_loadVar (P := P) (w := w) (RO := RO) (R := R) (nx := nx) (L := L) (b := b) (o := o' + idx * k + off) hn hg hg1 (by cases bx <;> simp only [Bool.false_eq_true, if_false, if_true, outOf_length] <;> exact seg1_length (by rw [hlen]; exact hk)) (fun j c hc => by
      have key : ∀ d, (seg1 (es.getD idx []) off n)[j]? = some d → ∃ v, w.cell? ⟨b, o' + idx * k + off + j, none⟩ = some v ∧ V RO w R nx L (if bx then d else outC { r with gen := b0.gen } idx (off + j) d) v := by
        intro d hd
        obtain ⟨hd1, hd2⟩ := seg1_get hd
        have hcell := cell_read h hr hL hi (j := off + j) (by omega) hb
        rw [cellAt_getD rfl hd1] at hcell
        rw [← Nat.add_assoc] at hcell
        exact hcell
      cases bx with
      | true => simp only [if_true] at hc; exact (by simpa using key c hc)
      | false =>
        simp only [Bool.false_eq_true, if_false] at hc
        obtain ⟨d, hd, rfl⟩ := outOf_get hc
        simpa using key d hd) hv
    exact ⟨_, _, z, hp, h3, h4⟩
  · simp only [V, Rd] at h1
    obtain ⟨b, o', hp, hRO, hc⟩ := h1
    obtain ⟨z, h3, h4⟩ := run_loadVar (P := P) (w := w) (RO := RO) (R := R) (nx := nx) (L := L) (b := b) (o := o' + off) hn hg hg1 (seg1_length hk) (fun j c hc' => by
      obtain ⟨hd1, hd2⟩ := seg1_get hc'
      obtain ⟨u, hu, hR⟩ := RdC.get cells o' (off + j) c hc hd1
      refine ⟨u, by rw [← hu]; congr 2; omega, ?_⟩
      cases c <;> first | (simp only [Rd] at hR; done) | (simp only [V]; exact hR)) hv
    exact ⟨_, _, z, hp, h3, h4⟩
theorem d_ld (h : HRel RO w R nx L) (he : EV RO w R nx L tm a) {o : Oper} {t : TypeId} {x : Operand} {y : X} {n : Nat} {g : Bool} (ho : o.op = .load t x) (hn : size? P t = some n) (hg : agg? P t = some g) (hg1 : g = false → n = 1) (hx : rX0 x = some y) {v : AV}
    (hv : (∃ r k idx off bx es b0, ev tm y = .ptr r k idx off ∧ getB R r = some (bx, k, es) ∧ R r.root = some b0 ∧ idx < es.length ∧ off + n ≤ k ∧ mkv g (if bx then seg1 (es.getD idx []) off n else outOf { r with gen := b0.gen } idx off (seg1 (es.getD idx []) off n)) = some v) ∨
      (∃ cells off, ev tm y = .rp cells off ∧ off + n ≤ cells.length ∧ mkv g (seg1 cells off n) = some v)) : Does P o a RO w R nx L v R nx := by
  obtain ⟨b, o', z, hp, h3, h4⟩ := ld_core h he hn hg hg1 hx hv
  refine Does.pure h (x := z) ?_ h4
  simp only [execOp, ho, Instr.loadAt, Sem.run_bind, hp, Instr.sureAddr, Sem.run_pure, Result.andThen_ok, h3]
end
end Go.Proofs.Ytldmpjoddghdkaa.AI
