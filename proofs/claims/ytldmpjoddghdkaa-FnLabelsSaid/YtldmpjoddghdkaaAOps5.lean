import Derived.Test.YtldmpjoddghdkaaAOps4
namespace Go.Proofs.Ytldmpjoddghdkaa.AI
set_option linter.all false
open Go.RowKit
set_option autoImplicit false
set_option linter.unusedVariables false
set_option linter.unusedSimpArgs false
variable [Tabs]
theorem setCell_same {w : World} {b o : Nat} {v : Value} (h : w.cell? ⟨b, o, none⟩ = some v) : w.setCell ⟨b, o, none⟩ v = w := by
  unfold World.cell? at h
  split at h
  · rename_i c ety fz hb
    simp only [Option.isSome_none, Bool.false_eq_true, if_false] at h
    have hh : (w.setCell ⟨b, o, none⟩ v).heap = w.heap := by
      apply Array.ext_getElem?
      intro i
      simp only [World.setCell, Array.getElem?_modify]
      split
      · rename_i e
        subst e
        simp only at hb
        rw [hb]
        simp only [Option.map_some, Option.isSome_none, Bool.false_eq_true, if_false]
        congr 2
        apply Array.ext_getElem?
        intro j
        rw [Array.getElem?_setIfInBounds]
        split
        · rename_i e; subst e
          split
          · exact h.symm
          · rename_i hj; rw [Array.getElem?_eq_none (by omega)]
        · rfl
      · rfl
    cases w
    simp only [World.setCell] at hh ⊢
    rw [hh]
  · simp at h
section
variable {P : Program} {RO : Bx} {nx : Nat} {tm : List (Nat × AV)} {a : Act}
theorem storeCells_same {w : World} {b o : Nat} : ∀ (vs : List Value) (j : Nat), (∀ i v, vs[i]? = some v → w.cell? ⟨b, o + j + i, none⟩ = some v ∧ w.frozen? ⟨b, o + j + i, none⟩ = false ∧ v.oneCell' = true) → (storeCells ⟨b, o, none⟩ vs j).run P w = .ok () w
  | [], j, _ => rfl
  | v :: vs, j, h => by
    obtain ⟨h1, h2, h3⟩ := h 0 v (by simp)
    simp only [Nat.add_zero] at h1 h2
    simp only [storeCells, Sem.run_bind, addr_add, run_store1 h1 h2 h3, Result.andThen_ok, setCell_same h1]
    exact storeCells_same vs (j + 1) fun i u hu => by
      have := h (i + 1) u (by simpa using hu)
      rw [show o + j + (i + 1) = o + (j + 1) + i by omega] at this
      exact this
theorem into_ones {r : BRef} : ∀ {cs : List AV} {hp hp' : Hp} {cs' : List AV} {n : Nat}, into r hp cs = some (cs', hp', n) → ones cs = true
  | [], _, _, _, _, _ => rfl
  | c :: cs, hp, hp', cs', n, h => by
    cases c with
    | bool x => simp only [into, Option.map_eq_some_iff] at h; obtain ⟨⟨a, b, c⟩, h1, _⟩ := h; simp [ones, one, into_ones h1]
    | int x y => simp only [into, Option.map_eq_some_iff] at h; obtain ⟨⟨a, b, c⟩, h1, _⟩ := h; simp [ones, one, into_ones h1]
    | str x => simp only [into, Option.map_eq_some_iff] at h; obtain ⟨⟨a, b, c⟩, h1, _⟩ := h; simp [ones, one, into_ones h1]
    | nil k =>
      simp only [into] at h
      split at h
      · rename_i h1; simp [ones, one, into_ones h1]
      · simp at h
    | sl q k off len =>
      simp only [into] at h
      split at h
      · split at h
        · split at h
          · rename_i h1; simp [ones, one, into_ones h1]
          · simp at h
        · simp at h
      · simp at h
    | _ => simp [into] at h
theorem ones_get : ∀ {cs : List AV} {j : Nat} {c : AV}, ones cs = true → cs[j]? = some c → one c = true
  | [], _, _, _, h => by simp at h
  | c :: cs, 0, d, h, hd => by simp only [ones, Bool.and_eq_true] at h; simp at hd; subst hd; exact h.1
  | c :: cs, j + 1, d, h, hd => by simp only [ones, Bool.and_eq_true] at h; exact ones_get h.2 (by simpa using hd)
theorem fillE_run (P : Program) {w : World} {k B T : Nat} : ∀ (xs : List X) (vss : List (List Value)) (i : Nat) {hp hp' : Hp} {es : List (List AV)} {cnt : Nat} {R : Rf} {L : Lf} {b0 : Blk}, HRel RO w R (nx + 1) L → (∀ m, m ≠ nx → R m = root? hp m) → R nx = some b0 → b0.box = false → b0.k = k →
    i + xs.length = b0.es.length → L nx none = some (B, 0, T) → vss.length = xs.length → (∀ (p : Nat) x vs, xs[p]? = some x → vss[p]? = some vs → ∀ cs, (ev tm x).cl = some cs → VL RO w R (nx + 1) L cs vs) →
    (∀ (p : Nat) vs, vss[p]? = some vs → ∀ (j : Nat) v, vs[j]? = some v → w.cell? ⟨B, (i + p) * k + j, none⟩ = some v) →
    fillE (ev tm) ⟨nx, none, 0⟩ k hp xs = some (es, hp', cnt) →
    ∃ L', Adv RO w R (nx + 1) L w (upd (root? hp') nx (some { b0 with gen := b0.gen + cnt, es := b0.es.take i ++ es })) (nx + 1) L' ∧ L' nx none = some (B, 0, T) ∧ es.length = xs.length ∧ hp'.length = hp.length
  | [], vss, i, hp, hp', es, cnt, R, L, b0, h, hR, hb, hbox, hk, hlen, hL, hvl, hV, hc, hf => by
    simp only [fillE, Option.some.injEq, Prod.mk.injEq] at hf
    obtain ⟨rfl, rfl, rfl⟩ := hf
    refine ⟨L, ?_, hL, rfl, rfl⟩
    have : upd (root? hp) nx (some { b0 with gen := b0.gen + 0, es := b0.es.take i ++ [] }) = R := by
      funext m
      by_cases e : m = nx
      · subst e
        rw [upd_same, hb]
        simp only [List.length_nil, Nat.add_zero] at hlen
        congr 1
        cases b0
        simp only at hlen
        simp [hlen]
      · rw [upd_ne _ _ e, hR m e]
    rw [this]
    exact Adv.refl h
  | x :: xs, [], i, hp, hp', es, cnt, R, L, b0, h, hR, hb, hbox, hk, hlen, hL, hvl, hV, hc, hf => by simp at hvl
  | x :: xs, vs :: vss, i, hp, hp', es, cnt, R, L, b0, h, hR, hb, hbox, hk, hlen, hL, hvl, hV, hc, hf => by
    simp only [fillE] at hf
    split at hf
    · rename_i cs' hp1 n hbind
      simp only [Option.bind_eq_some_iff] at hbind
      obtain ⟨cs, hcl, hin⟩ := hbind
      split at hf
      · rename_i hcl2
        split at hf
        · rename_i es1 hp2 m hrest
          simp only [Option.some.injEq, Prod.mk.injEq] at hf
          obtain ⟨rfl, rfl, rfl⟩ := hf
          obtain ⟨hr1, hr2, hr3, hr4⟩ := into_root hin
          have hVL := hV 0 x vs (by simp) (by simp) cs hcl
          simp only [List.length_cons] at hlen
          have hi : i < b0.es.length := by omega
          have hrow : row R nx none = some (false, k, b0.es) := by rw [row_root hb, hbox, hk]
          have hcsk : cs.length = k := by omega
          obtain ⟨w', L1, h5, h6⟩ := step_storeV (P := P) (r := ⟨nx, none, 0⟩) (k := k) (i := i) cs vs 0 h hR hb hbox hrow hi (by omega) hL hVL hin
          have hfree := ((h.rows _ _ _ _ _ hrow).yes _ _ _ hL)
          have hsame : (storeCells ⟨B, 0 + i * k, none⟩ vs 0).run P w = .ok () w := by
            refine storeCells_same vs 0 fun j v hv => ?_
            have hvk : j < k := by
              have := (List.getElem?_eq_some_iff.1 hv).1
              rw [← VL_len hVL, hcsk] at this
              exact this
            refine ⟨?_, ?_, ?_⟩
            · have := hc 0 vs (by simp) j v hv
              rw [← this]; congr 2; simp
            · have := hfree.2.1.free (i * k + j) (idx_lt hi hvk hfree.2.2.1)
              rw [← this]; congr 2; omega
            · obtain ⟨c, hcj⟩ : ∃ c, cs[j]? = some c := ⟨cs[j]'(by omega), by simp [hcsk, hvk]⟩
              obtain ⟨v', hv', hVc⟩ := VL_get hVL hcj
              rw [hv] at hv'
              simp only [Option.some.injEq] at hv'
              subst hv'
              exact V_one hVc (ones_get (into_ones hin) hcj)
          have hw' : w' = w := by
            rw [hsame] at h5
            simp only [Result.ok.injEq, true_and] at h5
            exact h5.symm
          subst hw'
          have hsp : splice (b0.es.getD i []) 0 cs' = cs' := by
            have hl : (b0.es.getD i []).length = k := shape_getD (h.rows _ _ _ _ _ hrow).shape hi
            simp only [splice, List.take_zero, List.nil_append, Nat.zero_add]
            rw [List.drop_of_length_le (by omega)]
            simp
          simp only [setP, hsp] at h6
          have hself : upd (root? hp1) nx (some { b0 with gen := b0.gen + n, es := b0.es.set i cs' }) nx = some { b0 with gen := b0.gen + n, es := b0.es.set i cs' } := by simp
          have hL1 : L1 nx none = some (B, 0, T) := by
            obtain ⟨es0, e1, e2, e3⟩ := h6.pres.keep ⟨nx, none, 0⟩ (by simp) (fun _ _ h => absurd rfl h) false k (b0.es.set i cs') (by simp [getB, hbox, hk])
            simp only at e3
            rw [e3]; exact hL
          obtain ⟨L2, h7, h8, h9, h10⟩ := fillE_run P xs vss (i + 1) h6.rel (fun m hm => upd_ne _ _ hm) hself hbox hk (by simp; omega) hL1 (by simpa using hvl)
            (fun p y us hy hus cs2 hcs2 => h6.vl (hV (p + 1) y us (by simpa using hy) (by simpa using hus) cs2 hcs2))
            (fun p us hus j v hv => by rw [show i + 1 + p = i + (p + 1) by omega]; exact hc (p + 1) us (by simpa using hus) j v hv) hrest
          refine ⟨L2, ?_, h8, by simp [h9], by rw [h10, hr2]⟩
          have h11 := h6.trans h7
          have e4 : (b0.es.set i cs').take (i + 1) ++ es1 = b0.es.take i ++ cs' :: es1 := by
            rw [List.take_succ_eq_append_getElem (by simpa using hi)]
            simp [List.take_set]
            rw [List.set_eq_of_length_le (by simp; omega)]
          simp only [e4, Nat.add_assoc] at h11
          exact h11
        · simp at hf
      · simp at hf
    · simp at hf
theorem fill_run {k : Nat} (hk : 0 < k) : ∀ (ps : List (Nat × Value)) (m : Nat) (vs : Array Value), (∀ p x, ps[p]? = some x → x.1 = m + p ∧ x.2.cells.size = k) → (m + ps.length) * k ≤ vs.size →
    ∃ us : Array Value, Instr.fill (fun i => some (i * k, k)) vs ps = some us ∧ us.size = vs.size ∧ (∀ i, i < m * k → us[i]? = vs[i]?) ∧
      ∀ (p : Nat) x, ps[p]? = some x → ∀ j, j < k → us[(m + p) * k + j]? = x.2.cells[j]?
  | [], m, vs, _, _ => ⟨vs, by simp [Instr.fill], rfl, fun _ _ => rfl, by simp⟩
  | x :: ps, m, vs, hx, hs => by
    obtain ⟨h1, h2⟩ := hx 0 x (by simp)
    simp only [Nat.add_zero] at h1
    simp only [List.length_cons] at hs
    have hs' : m * k + k + ps.length * k ≤ vs.size := by
      rw [show m + (ps.length + 1) = m + 1 + ps.length by omega, Nat.add_mul, Nat.add_mul] at hs
      omega
    have hfold := foldl_set x.2.cells.toList (m * k) 0 vs (by simp; omega)
    simp only [Nat.add_zero] at hfold
    have hf2 : (x.2.cells.zipIdx.foldl (fun cs (c, j) => cs.setIfInBounds (m * k + j) c) vs).toList = splice vs.toList (m * k) x.2.cells.toList := by
      rw [← hfold, ← Array.foldl_toList]; simp
    have hlen1 : (x.2.cells.zipIdx.foldl (fun cs (c, j) => cs.setIfInBounds (m * k + j) c) vs).size = vs.size := by
      have := congrArg List.length hf2
      rw [length_splice _ _ _ (by simp; omega)] at this
      simpa using this
    obtain ⟨us, h3, h4, h5, h6⟩ := fill_run hk ps (m + 1) (x.2.cells.zipIdx.foldl (fun cs (c, j) => cs.setIfInBounds (m * k + j) c) vs) (fun p y hy => by have := hx (p + 1) y (by simpa using hy); omega) (by rw [hlen1, Nat.add_mul, Nat.add_mul]; omega)
    have get : ∀ i, (x.2.cells.zipIdx.foldl (fun cs (c, j) => cs.setIfInBounds (m * k + j) c) vs)[i]? = (splice vs.toList (m * k) x.2.cells.toList)[i]? := fun i => by rw [← hf2, Array.getElem?_toList]
    refine ⟨us, ?_, by rw [h4, hlen1], fun i hi => ?_, fun p y hy j hj => ?_⟩
    · simp only [Instr.fill, h1]
      rw [if_neg (by simp; omega)]
      exact h3
    · rw [h5 i (by rw [Nat.add_mul]; omega), get]
      simp only [splice, List.append_assoc]
      rw [List.getElem?_append_left (by simp; omega), List.getElem?_take_of_lt hi]
      simp
    · cases p with
      | zero =>
        simp at hy
        subst hy
        simp only [Nat.add_zero]
        rw [h5 _ (by rw [Nat.add_mul]; omega), get]
        simp only [splice, List.append_assoc]
        rw [List.getElem?_append_right (by simp; omega), List.getElem?_append_left (by simp; omega)]
        simp
        congr 1
        omega
      | succ p =>
        have := h6 p y (by simpa using hy) j hj
        rw [show m + (p + 1) = m + 1 + p by omega]
        exact this
theorem elemsOf_get {e : TypeId} : ∀ {ps : List (Nat × Operand)} {m : Nat} {qs : List X}, elemsOf P e m ps = some qs → qs.length = ps.length ∧ ∀ (p : Nat) x, ps[p]? = some x → x.1 = m + p ∧ ∃ y, qs[p]? = some y ∧ rX P e x.2 = some y
  | [], m, qs, h => by simp only [elemsOf, Option.some.injEq] at h; subst h; simp
  | (i, x) :: ps, m, qs, h => by
    simp only [elemsOf] at h
    split at h
    · rename_i hi
      subst hi
      split at h
      · rename_i y ys h1 h2
        simp only [Option.some.injEq] at h
        subst h
        obtain ⟨h3, h4⟩ := elemsOf_get h2
        refine ⟨by simp [h3], fun p z hz => ?_⟩
        cases p with
        | zero => simp at hz; subst hz; exact ⟨rfl, y, by simp, h1⟩
        | succ p =>
          obtain ⟨h5, u, h6, h7⟩ := h4 p z (by simpa using hz)
          exact ⟨by omega, u, by simpa using h6, h7⟩
      · simp at h
    · simp at h
theorem fillE_len {r : BRef} {k : Nat} : ∀ {xs : List X} {hp hp' : Hp} {es : List (List AV)} {n : Nat}, fillE (ev tm) r k hp xs = some (es, hp', n) → es.length = xs.length ∧ (∀ (p : Nat) x, xs[p]? = some x → ∃ cs, (ev tm x).cl = some cs ∧ cs.length = k)
  | [], hp, hp', es, n, h => by simp only [fillE, Option.some.injEq, Prod.mk.injEq] at h; obtain ⟨rfl, _⟩ := h; simp
  | x :: xs, hp, hp', es, n, h => by
    simp only [fillE] at h
    split at h
    · rename_i cs hp1 m hb
      simp only [Option.bind_eq_some_iff] at hb
      obtain ⟨cs0, h1, h2⟩ := hb
      split at h
      · rename_i hk
        split at h
        · rename_i es1 hp2 m2 h3
          simp only [Option.some.injEq, Prod.mk.injEq] at h
          obtain ⟨rfl, _⟩ := h
          obtain ⟨h4, h5⟩ := fillE_len h3
          refine ⟨by simp [h4], fun p y hy => ?_⟩
          cases p with
          | zero => simp at hy; subst hy; exact ⟨cs0, h1, by rw [← (into_root h2).2.2.2, hk]⟩
          | succ p => exact h5 p y (by simpa using hy)
        · simp at h
      · simp at h
    · simp at h
theorem d_bsl {w : World} {L : Lf} {hp : Hp} (h : HRel RO w (root? hp) hp.length L) (he : EV RO w (root? hp) hp.length L tm a) {o : Oper} {t e : TypeId} {n k : Nat} {ps : Array (Nat × Operand)} {qs : List X} (ho : o.op = .buildSlice t n ps) (ht : P.underlying t = some (.slice e)) (hk : size? P e = some k)
    {z : List AV} (hz : zeroE P e = some z) (hz2 : z.length = k) (hk0 : k ≠ 0) (hn : n * k ≤ 16777216) (hq : elemsOf P e 0 ps.toList = some qs) (hql : qs.length = n) {es : List (List AV)} {hp' : Hp} {cnt : Nat} (hf : fillE (ev tm) { root := hp.length, path := none, gen := 0 } k hp qs = some (es, hp', cnt)) :
    Does P o a RO w (root? hp) hp.length L (.sl ⟨hp'.length, none, 0⟩ k 0 qs.length) (root? (hp' ++ [some ⟨false, cnt, k, es⟩])) (hp' ++ [some (Blk.mk false cnt k es)]).length := by
  obtain ⟨hlq, hgq⟩ := elemsOf_get hq
  obtain ⟨hel, hcl⟩ := fillE_len hf
  -- the zero cells
  obtain ⟨zv, hzv, hzl⟩ : ∃ zv, (P.info? e).bind (·.zero) = some zv ∧ zv.cells.size = k := by
    unfold zeroE at hz
    simp only [Option.map_eq_some_iff] at hz
    obtain ⟨cs, h1, h2⟩ := hz
    obtain ⟨zv, h3, h4⟩ := zeroV_cl (RO := RO) (w := w) (R := root? hp) (nx := hp.length) (L := L) h1
    refine ⟨zv, h3, ?_⟩
    have := VL_len h4
    rw [← h2, List.length_map] at hz2
    rw [← Array.length_toList, ← this, hz2]
  have hsizes : ∀ (p : Nat) x, (ps.toList.map fun x => (x.1, a.eval x.2))[p]? = some x → x.1 = 0 + p ∧ x.2.cells.size = k := by
    intro p x hx
    simp only [List.getElem?_map, Option.map_eq_some_iff] at hx
    obtain ⟨y, hy, rfl⟩ := hx
    obtain ⟨h1, u, h2, h3⟩ := hgq p y hy
    refine ⟨h1, ?_⟩
    obtain ⟨cs, h4, h5⟩ := hcl p u h2
    have := VL_len (V_cells (rX_V he h3) h4)
    rw [h5] at this
    simpa using this.symm
  obtain ⟨us, h1, h2, _, h3⟩ := fill_run (Nat.pos_of_ne_zero hk0) (ps.toList.map fun x => (x.1, a.eval x.2)) 0 ((Array.range (n * k)).map (fun i => zv.cells[i % zv.cells.size]!)) hsizes (by simp; rw [← hql, hlq]; simp)
  have hus : us.size = n * k := by rw [h2]; simp
  -- the run
  have hrun : (execOp a.eval o).run P w = .ok (.value (.slice (some ⟨w.heap.size, 0, none⟩) n n)) (w.alloc (.cells us e)) := by
    have e1 : (ps.map fun (x : Nat × Operand) => (x.1, a.eval x.2)).toList = ps.toList.map fun x => (x.1, a.eval x.2) := by simp
    have hne : ¬ (n * k > 2 ^ 24) := by omega
    by_cases hz0 : n * k = 0
    · have hn0 : n = 0 := by rcases Nat.mul_eq_zero.1 hz0 with h | h <;> omega
      have hps : ps.toList = [] := List.eq_nil_of_length_eq_zero (by rw [← hlq, hql, hn0])
      simp only [execOp, ho, Instr.buildSlice, Sem.run_bind, run_under ht, Result.andThen_ok, run_sizeOf hk, hne, if_false, hz0, if_true, Sem.run_pure, e1, hps, List.map_nil, Instr.fill, newRow, run_newObj, World.alloc_eq]
      have : us = #[] := Array.eq_empty_of_size_eq_zero (by rw [hus, hz0])
      subst this
      have h0 : (Array.range 0) = #[] := rfl
      simp [h0]
    · simp only [execOp, ho, Instr.buildSlice, Sem.run_bind, run_under ht, Result.andThen_ok, run_sizeOf hk, hne, if_false, hz0, run_zero hzv, Sem.run_pure, e1, h1, newRow, run_newObj, World.alloc_eq]
  -- the block, with nothing said of its cells
  have hmake := h.make e us ⟨false, 0, k, List.replicate n (List.replicate k .dead)⟩ (by simp) (by simp [hus]) (fun i j hi hj => by
    simp only [List.length_replicate] at hi
    have hlt : i * k + j < us.size := by rw [hus]; exact idx_lt hi hj (Nat.le_refl _)
    refine ⟨us[i * k + j], by simp [hlt], ?_⟩
    simp only [fresh, Bool.false_eq_true, if_false]
    right; right
    simp [cellAt, List.getD_eq_getElem?_getD, hi, hj])
  -- the operands' cells
  have hVs : ∀ (p : Nat) x vs, qs[p]? = some x → (ps.toList.map fun x => (a.eval x.2).cells.toList)[p]? = some vs → ∀ cs, (ev tm x).cl = some cs → VL RO (w.alloc (.cells us e)) (upd (root? hp) hp.length (some ⟨false, 0, k, List.replicate n (List.replicate k .dead)⟩)) (hp.length + 1) (newL L hp.length (some (w.heap.size, 0, us.size))) cs vs := by
    intro p x vs hx hvs cs hcs
    simp only [List.getElem?_map, Option.map_eq_some_iff] at hvs
    obtain ⟨y, hy, rfl⟩ := hvs
    obtain ⟨_, u, h4, h5⟩ := hgq p y hy
    rw [hx] at h4
    simp only [Option.some.injEq] at h4
    subst h4
    exact hmake.vl (V_cells (rX_V he h5) hcs)
  obtain ⟨L', h4, h5, h6, h7⟩ := fillE_run P qs (ps.toList.map fun x => (a.eval x.2).cells.toList) 0 hmake.rel (fun m hm => upd_ne _ _ hm) (upd_same _ _ _) rfl rfl (by simp [hql]) (B := w.heap.size) (T := us.size) (by simp [newL]) (by simp [hlq]) hVs
    (fun p vs hvs j v hv => by
      simp only [List.getElem?_map, Option.map_eq_some_iff] at hvs
      obtain ⟨y, hy, rfl⟩ := hvs
      have hj : j < k := by
        have := (hsizes p (y.1, a.eval y.2) (by simp [hy])).2
        have h8 := (List.getElem?_eq_some_iff.1 hv).1
        simp at h8 this
        omega
      have := h3 p (y.1, a.eval y.2) (by simp [hy]) j hj
      simp only at this
      simp only [Nat.zero_add] at this ⊢
      rw [World.cell?_alloc_new, this]
      simpa using hv) hf
  have hlast : upd (root? hp') hp.length (some ⟨false, 0 + cnt, k, List.take 0 (List.replicate n (List.replicate k AV.dead)) ++ es⟩) = root? (hp' ++ [some ⟨false, cnt, k, es⟩]) := by
    rw [root_push, h7]; simp
  rw [hlast] at h4
  have hnx : (hp' ++ [some ⟨false, cnt, k, es⟩] : Hp).length = hp.length + 1 := by simp [h7]
  rw [hnx]
  refine ⟨.slice (some ⟨w.heap.size, 0, none⟩) n n, w.alloc (.cells us e), L', .inl hrun, hmake.trans h4, ?_⟩
  simp only [V]
  rw [h7]
  refine ⟨by omega, fun _ _ h => absurd rfl h, ⟨_, _, by rw [hql]⟩, fun es' he' => ?_⟩
  rw [← hlast] at he'
  simp only [getB, upd_same, Option.some.injEq, Prod.mk.injEq, List.take_zero, List.nil_append] at he'
  obtain ⟨_, _, rfl⟩ := he'
  refine ⟨by omega, _, _, by rw [hql], Nat.le_refl _, .inr ⟨w.heap.size, 0, us.size, h5, by simp, ?_⟩⟩
  rw [hus, hql]; simp
end
end Go.Proofs.Ytldmpjoddghdkaa.AI
