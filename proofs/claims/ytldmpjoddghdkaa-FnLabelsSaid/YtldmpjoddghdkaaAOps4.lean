import Derived.Test.YtldmpjoddghdkaaAOps3
namespace Go.Proofs.Ytldmpjoddghdkaa.AI
set_option linter.all false
open Go.RowKit
set_option autoImplicit false
set_option linter.unusedVariables false
set_option linter.unusedSimpArgs false
variable [Tabs]
section
variable {P : Program} {RO : Bx} {nx : Nat} {tm : List (Nat × AV)} {a : Act}
theorem seg_get {es : List (List AV)} {off len i : Nat} (h : i < len) : (seg es off len).getD i [] = es.getD (off + i) [] := by
  unfold seg
  simp only [List.getD_eq_getElem?_getD, List.getElem?_take, List.getElem?_drop, h, if_true]
theorem cellAt_seg {es : List (List AV)} {off len i j : Nat} (h : i < len) : cellAt (seg es off len) i j = cellAt es (off + i) j := by
  unfold cellAt
  rw [seg_get h]
theorem seg_length {es : List (List AV)} {off len : Nat} (h : off + len ≤ es.length) : (seg es off len).length = len := by
  simp [seg]; omega
theorem seg_shape {es : List (List AV)} {k : Nat} (h : ∀ e ∈ es, e.length = k) (off len : Nat) : ∀ e ∈ seg es off len, e.length = k := fun e he => h e (List.mem_of_mem_drop (List.mem_of_mem_take he))
def shift (l : Option (Nat × Nat × Nat)) (n : Nat) : Option (Nat × Nat × Nat) := l.map fun x => (x.1, x.2.1 + n, x.2.2 - n)
theorem Mem.sub {w : World} {b o T n : Nat} (h : Mem w b o T) (hn : n ≤ T) : Mem w b (o + n) (T - n) := by
  refine ⟨h.lt, fun i hi => ?_, fun i hi => ?_⟩
  · have := h.cell (n + i) (by omega)
    rwa [← Nat.add_assoc] at this
  · have := h.free (n + i) (by omega)
    rwa [← Nat.add_assoc] at this
theorem HRel.graft {w : World} {R : Rf} {L : Lf} (h : HRel RO w R nx L) {r : Nat} {b : Blk} (hb : R r = some b) (hbox : b.box = false) {i j : Nat} (hi : i < b.es.length) (hj : j < b.k) (hc : ∀ k es, cellAt b.es i j ≠ .tree k es)
    {q : Nat} {bq : Blk} (hq : R q = some bq) (hqb : bq.box = false) (hqr : q ≠ r) {off len : Nat} (hf : flat (seg bq.es off len) = true) {v : Value} {g : Nat} (hV : V RO w R nx L (.sl ⟨q, none, g⟩ bq.k off len) v)
    (hval : ∀ b0 o0 T0, L r none = some (b0, o0, T0) → w.cell? ⟨b0, o0 + i * b.k + j, none⟩ = some v) :
    HRel RO w (hangR (upd R q none) r b i j bq.k (seg bq.es off len)) nx (hangL L r i j (shift (L q none) (off * bq.k))) ∧ Pres R nx L (hangR (upd R q none) r b i j bq.k (seg bq.es off len)) nx (hangL L r i j (shift (L q none) (off * bq.k))) := by
  have hgq : getB R ⟨q, none, g⟩ = some (false, bq.k, bq.es) := by simp [getB, hq, hqb]
  simp only [V] at hV
  obtain ⟨_, _, _, hV⟩ := hV
  obtain ⟨hol, A, cap, e1, e2, e3⟩ := hV _ hgq
  have hrq := h.rows q none _ _ _ (row_root hq)
  rw [hqb] at hrq
  obtain ⟨hd, hp⟩ := h.drop q
  have hb' : upd R q none r = some b := by rw [upd_ne _ _ (Ne.symm hqr)]; exact hb
  have hlen := seg_length hol
  have hh := hd.hang hb' hbox hi hj hc hf (seg_shape hrq.shape off len) (shift (L q none) (off * bq.k)) (fun hn => ?_) (fun bb o T hl => ?_) (fun b0 o0 T0 hL => ?_)
  · exact ⟨hh.1, hp.trans hh.2⟩
  · have : L q none = none := by cases hL : L q none <;> simp [shift, hL] at hn ⊢
    rw [hrq.no this]
    simp [seg]
  · cases hL : L q none with
    | none => simp [shift, hL] at hl
    | some x =>
      obtain ⟨bb', o', T'⟩ := x
      simp only [shift, hL, Option.map_some, Option.some.injEq, Prod.mk.injEq] at hl
      obtain ⟨rfl, rfl, rfl⟩ := hl
      obtain ⟨h1, h2, h3, h4⟩ := hrq.yes _ _ _ hL
      have hle : off * bq.k + len * bq.k ≤ T' := by
        rw [← Nat.add_mul]
        exact Nat.le_trans (Nat.mul_le_mul_right _ hol) h3
      refine ⟨h1, h2.sub (by omega), by rw [hlen]; omega, fun i1 j1 hi1 hj1 => ?_, fun r1 p1 x1 o1 T1 hr1 hL1 => ?_⟩
      · rw [hlen] at hi1
        obtain ⟨u, hu, hC⟩ := h4 (off + i1) j1 (by omega) hj1
        refine ⟨u, by rw [← hu, Nat.add_mul]; congr 2; omega, ?_⟩
        have hsc : scal (cellAt (seg bq.es off len) i1 j1) = true := flat_cellAt hf (seg_shape hrq.shape off len) (by rw [hlen]; exact hi1) hj1
        rw [cellAt_seg hi1] at hsc ⊢
        rw [Cl.other (scal_not_tree hsc)] at hC
        exact V_scal hsc hC
      · obtain ⟨b1, hb1⟩ := row_some hr1
        have hne : r1 ≠ q := by intro e; subst e; simp at hb1
        rw [row_congr (upd_ne R none hne)] at hr1
        exact hne (h.inj _ _ _ _ _ _ _ _ _ _ _ hr1 (row_root hq) hL1 hL).1
  · rw [hlen]
    refine ⟨A, cap, by rw [← e1]; exact hval _ _ _ hL, e2, ?_⟩
    rcases e3 with e3 | ⟨bb, o, T, e3, e4, e5⟩
    · exact .inl e3
    · refine .inr ⟨bb, o + off * bq.k, T - off * bq.k, by simp [shift, e3], e4, ?_⟩
      rw [Nat.add_mul] at e5
      omega
theorem hangR_eq {R : Rf} {r : Nat} {b : Blk} {i j : Nat} (hb : b.box = false) (k : Nat) (es : List (List AV)) :
    hangR (upd R r (some { b with es := setAt b.es i j .dead })) r { b with es := setAt b.es i j .dead } i j k es = upd R r (some { b with gen := b.gen + 1, es := setAt b.es i j (.tree k es) }) := by
  funext m
  by_cases e : m = r
  · subst e
    simp only [hangR, upd_same]
    congr 2
    unfold setAt
    by_cases hi : i < b.es.length
    · rw [getD_set_self _ _ _ _ hi, List.set_set, List.set_set]
    · simp [List.set_eq_of_length_le (Nat.le_of_not_lt hi)]
  · simp [hangR, upd_ne _ _ e]
theorem upd_comm {α : Type} (R : Nat → Option α) {n m : Nat} (x y : Option α) (h : n ≠ m) : upd (upd R n x) m y = upd (upd R m y) n x := by
  funext t
  unfold upd
  split <;> split <;> simp_all
theorem step_storeV {r : BRef} {k i : Nat} : ∀ (cs : List AV) (vs : List Value) (j : Nat) {w : World} {R : Rf} {L : Lf} {hp hp' : Hp} {cs' : List AV} {cnt : Nat} {es : List (List AV)} {b0 : Blk} {b o T : Nat}, HRel RO w R nx L → (∀ m, m ≠ r.root → R m = root? hp m) → R r.root = some b0 → b0.box = false →
    row R r.root r.path = some (false, k, es) → i < es.length → j + cs.length ≤ k → L r.root r.path = some (b, o, T) → VL RO w R nx L cs vs → into r hp cs = some (cs', hp', cnt) →
    ∃ w' L', (storeCells ⟨b, o + i * k, none⟩ vs j).run P w = .ok () w' ∧
      Adv RO w R nx L w' (upd (root? hp') r.root (some { b0 with gen := b0.gen + cnt, es := setP b0.es r.path fun es => es.set i (splice (es.getD i []) j cs') })) nx L'
  | [], vs, j, w, R, L, hp, hp', cs', cnt, es, b0, b, o, T, h, hR, hb, hbox, hrow, hi, hj, hL, hV, hin => by
    cases vs with
    | cons v vs => simp [VL] at hV
    | nil =>
      simp only [into, Option.some.injEq, Prod.mk.injEq] at hin
      obtain ⟨rfl, rfl, rfl⟩ := hin
      refine ⟨w, L, by simp [storeCells], ?_⟩
      have hset : ∀ es : List (List AV), i < es.length → es.set i (splice (es.getD i []) j []) = es := by
        intro es hi
        rw [splice_nil, List.getD_eq_getElem?_getD, List.getElem?_eq_getElem hi]
        simp
      have : upd (root? hp) r.root (some { b0 with gen := b0.gen + 0, es := setP b0.es r.path fun es => es.set i (splice (es.getD i []) j []) }) = R := by
        funext m
        by_cases e : m = r.root
        · subst e
          rw [upd_same, hb]
          congr 1
          cases hp : r.path with
          | none =>
            rw [hp, row_root hb] at hrow
            simp only [Option.some.injEq, Prod.mk.injEq] at hrow
            simp only [setP]
            rw [hset _ (by rw [hrow.2.2]; exact hi)]
            rfl
          | some q =>
            obtain ⟨i0, j0⟩ := q
            rw [hp, row_cell_iff hb] at hrow
            simp only [setP, hrow.2.2, hset _ hi]
            congr 1
            unfold setAt
            have h3' := hrow.2.2
            unfold cellAt at h3'
            have h5 : j0 < (b0.es.getD i0 []).length := by
              rcases Nat.lt_or_ge j0 (b0.es.getD i0 []).length with h | h
              · exact h
              · rw [getD_out (Nat.not_lt.2 h)] at h3'; cases h3'
            have h6 : i0 < b0.es.length := by
              rcases Nat.lt_or_ge i0 b0.es.length with h | h
              · exact h
              · rw [getD_out (Nat.not_lt.2 h)] at h5; simp at h5
            have h7 : (b0.es.getD i0 []).set j0 (.tree k es) = b0.es.getD i0 [] := by
              rw [← h3', List.getD_eq_getElem?_getD (l := b0.es.getD i0 []), List.getElem?_eq_getElem h5]
              simp
            rw [h7, List.getD_eq_getElem?_getD, List.getElem?_eq_getElem h6]
            simp
        · rw [upd_ne _ _ e, hR m e]
      rw [this]
      exact Adv.refl h
  | c :: cs, [], j, w, R, L, hp, hp', cs', cnt, es, b0, b, o, T, h, hR, hb, hbox, hrow, hi, hj, hL, hV, hin => by simp [VL] at hV
  | c :: cs, v :: vs, j, w, R, L, hp, hp', cs', cnt, es, b0, b, o, T, h, hR, hb, hbox, hrow, hi, hj, hL, hV, hin => by
    simp only [VL] at hV
    simp only [List.length_cons] at hj
    obtain ⟨hV1, hV2⟩ := hV
    obtain ⟨h1, h2, h3, h4⟩ := (h.rows _ _ _ _ _ hrow).yes _ _ _ hL
    have hshape := (h.rows _ _ _ _ _ hrow).shape
    have hjk : j < k := by omega
    have hlt : i * k + j < T := idx_lt hi hjk h3
    obtain ⟨u, hu⟩ := h2.cell _ hlt
    rw [← Nat.add_assoc] at hu
    have hfz := h2.free _ hlt
    rw [← Nat.add_assoc] at hfz
    have hsame : Same RO w (w.setCell ⟨b, o + i * k + j, none⟩ v) := fun B hB => Below.heap_setCell w _ _ _ (fun e => h1 (by have e' : B = b := e; rw [← e']; exact hB))
    -- the cell is set to what is no row
    have first : ∀ d : AV, (∀ k es, d ≠ .tree k es) → (d = .dead ∨ scal d = true) → (r.path ≠ none → scal d = true) → one c = true → V RO w R nx L d v →
        (store ⟨b, o + i * k + j, none⟩ v).run P w = .ok () (w.setCell ⟨b, o + i * k + j, none⟩ v) ∧ Adv RO w R nx L (w.setCell ⟨b, o + i * k + j, none⟩ v) (setR R r.root b0 r.path b0.gen i j d) nx L := by
      intro d hd1 hd2 hd3 hone hdV
      have hpres : Pres R nx L (setR R r.root b0 r.path b0.gen i j d) nx L := Pres.setR hrow hb i j (fun _ => hd1) (Nat.le_refl _)
      have hset := h.setCell (w' := w.setCell ⟨b, o + i * k + j, none⟩ v) hrow hi hjk hb (fun _ => hd1) (fun _ => hd2) hd3 (Nat.le_refl b0.gen) hL hsame (by simp) (fun B off hne => setCell_other hne) (fun B off => by simp)
        ⟨v, setCell_cell hu, V.mono hsame hpres _ _ hdV⟩
      exact ⟨run_store1 hu hfz (V_one hV1 hone), hset.1, hpres, hsame, by simp, rfl, rfl, rfl⟩
    -- a scalar
    have scalar : scal c = true → (into r hp cs).map (fun x => ((c :: x.1, x.2) : List AV × Hp × Nat)) = some (cs', hp', cnt) →
        ∃ w' L', (storeCells ⟨b, o + i * k, none⟩ (v :: vs) j).run P w = .ok () w' ∧
          Adv RO w R nx L w' (upd (root? hp') r.root (some { b0 with gen := b0.gen + cnt, es := setP b0.es r.path fun es => es.set i (splice (es.getD i []) j cs') })) nx L' := by
      intro hsc hin
      simp only [Option.map_eq_some_iff] at hin
      obtain ⟨⟨cs1, hp1, cnt1⟩, hin1, e⟩ := hin
      simp only [Prod.mk.injEq] at e
      obtain ⟨rfl, rfl, rfl⟩ := e
      obtain ⟨hst, hadv⟩ := first c (scal_not_tree hsc) (.inr hsc) (fun _ => hsc) (by cases c <;> simp [scal] at hsc <;> rfl) hV1
      have hself : setR R r.root b0 r.path b0.gen i j c r.root = some { b0 with es := setP b0.es r.path fun es => setAt es i j c } := by simp [setR]
      have hrow1 : row (setR R r.root b0 r.path b0.gen i j c) r.root r.path = some (false, k, setAt es i j c) := by
        cases hp : r.path with
        | none =>
          rw [hp] at hself hrow
          rw [row_root hself]
          rw [row_root hb] at hrow
          simp only [Option.some.injEq, Prod.mk.injEq] at hrow ⊢
          exact ⟨hrow.1, hrow.2.1, by simp only [setP, hrow.2.2]⟩
        | some q =>
          obtain ⟨i0, j0⟩ := q
          rw [hp] at hself hrow
          rw [row_cell_iff hb] at hrow
          rw [row_cell_iff hself]
          refine ⟨hrow.1, rfl, ?_⟩
          simp only [setP, hrow.2.2]
          rw [cellAt_setAt, if_pos]
          have h3' := hrow.2.2
          unfold cellAt at h3'
          have h5 : j0 < (b0.es.getD i0 []).length := by
            rcases Nat.lt_or_ge j0 (b0.es.getD i0 []).length with h | h
            · exact h
            · rw [getD_out (Nat.not_lt.2 h)] at h3'; cases h3'
          have h6 : i0 < b0.es.length := by
            rcases Nat.lt_or_ge i0 b0.es.length with h | h
            · exact h
            · rw [getD_out (Nat.not_lt.2 h)] at h5; simp at h5
          exact ⟨rfl, rfl, h6, h5⟩
      obtain ⟨w', L', h5, h6⟩ := step_storeV cs vs (j + 1) hadv.rel (fun m hm => by rw [show setR R r.root b0 r.path b0.gen i j c m = R m from upd_ne _ _ hm]; exact hR m hm) hself hbox hrow1 (by simpa using hi) (by omega) hL (hadv.vl hV2) hin1
      refine ⟨w', L', ?_, ?_⟩
      · simp only [storeCells, Sem.run_bind, addr_add, hst, Result.andThen_ok]
        exact h5
      · have := hadv.trans h6
        have e2 : (setP (setP b0.es r.path fun es => setAt es i j c) r.path fun es => es.set i (splice (es.getD i []) (j + 1) cs1)) = setP b0.es r.path fun es => es.set i (splice (es.getD i []) j (c :: cs1)) := by
          have hone : ∀ es : List (List AV), i < es.length → j < (es.getD i []).length → (setAt es i j c).set i (splice ((setAt es i j c).getD i []) (j + 1) cs1) = es.set i (splice (es.getD i []) j (c :: cs1)) := by
            intro es hi hj
            unfold setAt
            rw [getD_set_self _ _ _ _ hi, List.set_set, splice_cons _ _ _ _ hj]
          have hjr : j < (es.getD i []).length := by rw [shape_getD hshape hi]; exact hjk
          cases hp : r.path with
          | none =>
            rw [hp, row_root hb] at hrow
            simp only [Option.some.injEq, Prod.mk.injEq] at hrow
            simp only [setP]
            rw [hrow.2.2]
            exact hone es hi hjr
          | some q =>
            obtain ⟨i0, j0⟩ := q
            rw [hp, row_cell_iff hb] at hrow
            have h8 := hrow1
            rw [hp] at hself h8
            rw [row_cell_iff hself] at h8
            have h9 := h8.2.2
            simp only [setP, hrow.2.2] at h9 ⊢
            simp only [h9, hone es hi hjr]
            unfold setAt
            by_cases h6 : i0 < b0.es.length
            · rw [getD_set_self _ _ _ _ h6, List.set_set, List.set_set]
            · simp [List.set_eq_of_length_le (Nat.le_of_not_lt h6)]
        rw [e2] at this
        exact this
    -- a row
    have rowc : r.path = none → one c = true → ∀ (hp1 : Hp) (k1 : Nat) (es1 : List (List AV)) (cs1 : List AV) (cnt1 : Nat), into r hp1 cs = some (cs1, hp', cnt1) → cs' = .tree k1 es1 :: cs1 → cnt = cnt1 + 1 →
        (∀ b1, (setR R r.root b0 r.path b0.gen i j .dead) r.root = some b1 → ∃ L1, HRel RO (w.setCell ⟨b, o + i * k + j, none⟩ v) (upd (root? hp1) r.root (some { b1 with gen := b1.gen + 1, es := setAt b1.es i j (.tree k1 es1) })) nx L1 ∧
          Pres (setR R r.root b0 r.path b0.gen i j .dead) nx L (upd (root? hp1) r.root (some { b1 with gen := b1.gen + 1, es := setAt b1.es i j (.tree k1 es1) })) nx L1 ∧ L1 r.root none = L r.root none) →
        ∃ w' L', (storeCells ⟨b, o + i * k, none⟩ (v :: vs) j).run P w = .ok () w' ∧
          Adv RO w R nx L w' (upd (root? hp') r.root (some { b0 with gen := b0.gen + cnt, es := setP b0.es r.path fun es => es.set i (splice (es.getD i []) j cs') })) nx L' := by
      intro hp hone hp1 k1 es1 cs1 cnt1 hin1 e1 e2 hh
      subst e1; subst e2
      obtain ⟨hst, hadv⟩ := first .dead (by simp) (.inl rfl) (fun h => absurd hp h) hone (by simp [V])
      have hself : setR R r.root b0 r.path b0.gen i j .dead r.root = some { b0 with es := setAt b0.es i j .dead } := by simp [setR, hp, setP]
      obtain ⟨L1, h5, h6, h7⟩ := hh _ hself
      simp only at h5 h6
      rw [hp, row_root hb] at hrow
      simp only [Option.some.injEq, Prod.mk.injEq] at hrow
      obtain ⟨_, hk0, hes0⟩ := hrow
      have hadv2 : Adv RO w R nx L (w.setCell ⟨b, o + i * k + j, none⟩ v) (upd (root? hp1) r.root (some { b0 with gen := b0.gen + 1, es := setAt (setAt b0.es i j .dead) i j (.tree k1 es1) })) nx L1 :=
        hadv.trans ⟨h5, h6, Same.refl _ _, Nat.le_refl _, rfl, rfl, rfl⟩
      have hsame2 : setAt (setAt b0.es i j .dead) i j (.tree k1 es1) = setAt b0.es i j (.tree k1 es1) := by
        unfold setAt
        rw [getD_set_self _ _ _ _ (by rw [hes0]; exact hi), List.set_set, List.set_set]
      rw [hsame2] at hadv2
      have hself2 : upd (root? hp1) r.root (some { b0 with gen := b0.gen + 1, es := setAt b0.es i j (.tree k1 es1) }) r.root = some { b0 with gen := b0.gen + 1, es := setAt b0.es i j (.tree k1 es1) } := by simp
      obtain ⟨w', L', h8, h9⟩ := step_storeV cs vs (j + 1) (k := k) (es := setAt b0.es i j (.tree k1 es1)) hadv2.rel (fun m hm => upd_ne _ _ hm) hself2 hbox (by rw [hp, row_root hself2]; simp [hbox, hk0]) (by rw [length_setAt, hes0]; exact hi) (by omega)
        (by rw [hp, h7]; rw [hp] at hL; exact hL) (hadv2.vl hV2) hin1
      refine ⟨w', L', ?_, ?_⟩
      · simp only [storeCells, Sem.run_bind, addr_add, hst, Result.andThen_ok]
        exact h8
      · have h10 := hadv2.trans h9
        have e3 : (setAt b0.es i j (.tree k1 es1)).set i (splice ((setAt b0.es i j (.tree k1 es1)).getD i []) (j + 1) cs1) = b0.es.set i (splice (b0.es.getD i []) j (.tree k1 es1 :: cs1)) := by
          unfold setAt
          rw [getD_set_self _ _ _ _ (by rw [hes0]; exact hi), List.set_set, splice_cons _ _ _ _ (by rw [hes0, shape_getD hshape hi]; exact hjk)]
        simp only [hp, setP, e3, Nat.add_assoc, Nat.add_comm 1 cnt1] at h10 ⊢
        exact h10
    cases c with
    | bool x => exact scalar rfl (by simpa only [into] using hin)
    | int x y => exact scalar rfl (by simpa only [into] using hin)
    | str x => exact scalar rfl (by simpa only [into] using hin)
    | nil k1 =>
      simp only [into] at hin
      split at hin
      · rename_i cs1 hp1 cnt1 hpath hin1
        simp only [Option.some.injEq, Prod.mk.injEq] at hin
        obtain ⟨rfl, rfl, rfl⟩ := hin
        obtain ⟨hst, hadv⟩ := first .dead (by simp) (.inl rfl) (fun h => absurd hpath h) rfl (by simp [V])
        refine rowc hpath rfl hp k1 [] cs1 cnt1 hin1 rfl rfl (fun b1 hb1 => ⟨hangL L r.root i j none, ?_⟩)
        have hself : setR R r.root b0 r.path b0.gen i j .dead r.root = some { b0 with es := setAt b0.es i j .dead } := by simp [setR, hpath, setP]
        have e1 : b1 = { b0 with es := setAt b0.es i j .dead } := by rw [hself] at hb1; exact (Option.some.inj hb1).symm
        rw [hpath, row_root hb] at hrow
        simp only [Option.some.injEq, Prod.mk.injEq] at hrow
        obtain ⟨_, hk0, hes0⟩ := hrow
        simp only [V] at hV1
        subst hV1
        have hh := hadv.rel.hang hb1 (by rw [e1]; exact hbox) (i := i) (j := j) (by rw [e1]; simp only [length_setAt]; rw [hes0]; exact hi) (by rw [e1]; simp only; rw [hk0]; exact hjk)
          (fun k es => by
            rw [e1]; simp only
            rw [cellAt_setAt, if_pos ⟨rfl, rfl, by rw [hes0]; exact hi, by rw [hes0, shape_getD hshape hi]; exact hjk⟩]
            simp) (k := k1) (es := []) rfl (by simp) none (fun _ => rfl) (fun _ _ _ h => by simp at h) (fun b2 o2 T2 hL2 => by
            rw [hpath] at hL
            rw [hL] at hL2
            simp only [Option.some.injEq, Prod.mk.injEq] at hL2
            obtain ⟨rfl, rfl, rfl⟩ := hL2
            refine ⟨none, 0, ?_, by simp, .inl rfl⟩
            rw [e1]; simp only; rw [hk0]
            exact setCell_cell hu)
        have e2 : hangR (setR R r.root b0 r.path b0.gen i j .dead) r.root b1 i j k1 [] = upd (root? hp) r.root (some { b1 with gen := b1.gen + 1, es := setAt b1.es i j (.tree k1 []) }) := by
          funext m
          by_cases e : m = r.root
          · subst e; simp [hangR]
          · simp only [hangR, upd_ne _ _ e]
            rw [show setR R r.root b0 r.path b0.gen i j .dead m = R m from upd_ne _ _ e, hR m e]
        rw [e2] at hh
        exact ⟨hh.1, hh.2, by simp [hangL]⟩
      · simp at hin
    | sl q k1 off len =>
      simp only [into] at hin
      split at hin
      · rename_i bq hqp hpath hbq
        split at hin
        · rename_i hcond
          obtain ⟨hqbox, hqk, hqr, hflat⟩ := hcond
          split at hin
          · rename_i cs1 hp1 cnt1 hin1
            simp only [Option.some.injEq, Prod.mk.injEq] at hin
            obtain ⟨rfl, rfl, rfl⟩ := hin
            obtain ⟨hst, hadv⟩ := first .dead (by simp) (.inl rfl) (fun h => absurd hpath h) rfl (by simp [V])
            refine rowc hpath rfl (hp.set q.root none) k1 _ cs1 cnt1 hin1 rfl rfl (fun b1 hb1 => ⟨hangL L r.root i j (shift (L q.root none) (off * bq.k)), ?_⟩)
            have hself : setR R r.root b0 r.path b0.gen i j .dead r.root = some { b0 with es := setAt b0.es i j .dead } := by simp [setR, hpath, setP]
            have e1 : b1 = { b0 with es := setAt b0.es i j .dead } := by rw [hself] at hb1; exact (Option.some.inj hb1).symm
            rw [hpath, row_root hb] at hrow
            simp only [Option.some.injEq, Prod.mk.injEq] at hrow
            obtain ⟨_, hk0, hes0⟩ := hrow
            have hRq : R q.root = some bq := by rw [hR _ hqr]; exact hbq
            have hRq1 : setR R r.root b0 r.path b0.gen i j .dead q.root = some bq := by rw [show setR R r.root b0 r.path b0.gen i j .dead q.root = R q.root from upd_ne _ _ hqr]; exact hRq
            subst hqk
            have hVq := hadv.v hV1
            have hq3 : q = ⟨q.root, none, q.gen⟩ := by cases q; simp only at hqp; subst hqp; rfl
            rw [hq3] at hVq
            have hh := hadv.rel.graft hb1 (by rw [e1]; exact hbox) (i := i) (j := j) (by rw [e1]; simp only [length_setAt]; rw [hes0]; exact hi) (by rw [e1]; simp only; rw [hk0]; exact hjk)
              (fun k es => by
                rw [e1]; simp only
                rw [cellAt_setAt, if_pos ⟨rfl, rfl, by rw [hes0]; exact hi, by rw [hes0, shape_getD hshape hi]; exact hjk⟩]
                simp) hRq1 hqbox hqr hflat hVq (fun b2 o2 T2 hL2 => by
                rw [hpath] at hL
                rw [hL] at hL2
                simp only [Option.some.injEq, Prod.mk.injEq] at hL2
                obtain ⟨rfl, rfl, rfl⟩ := hL2
                rw [e1]; simp only; rw [hk0]
                exact setCell_cell hu)
            have e2 : hangR (upd (setR R r.root b0 r.path b0.gen i j .dead) q.root none) r.root b1 i j bq.k (seg bq.es off len) = upd (root? (hp.set q.root none)) r.root (some { b1 with gen := b1.gen + 1, es := setAt b1.es i j (.tree bq.k (seg bq.es off len)) }) := by
              funext m
              by_cases e : m = r.root
              · subst e; simp [hangR]
              · simp only [hangR, upd_ne _ _ e]
                rw [root_set _ _ _ (root_lt hbq)]
                by_cases e' : m = q.root
                · subst e'; simp
                · rw [upd_ne _ _ e', upd_ne _ _ e']
                  rw [show setR R r.root b0 r.path b0.gen i j .dead m = R m from upd_ne _ _ e, hR m e]
            rw [e2] at hh
            exact ⟨hh.1, hh.2, by simp [hangL]⟩
          · simp at hin
        · simp at hin
      · simp at hin
    | _ => simp [into] at hin
theorem into_root {r : BRef} : ∀ {cs : List AV} {hp hp' : Hp} {cs' : List AV} {n : Nat}, into r hp cs = some (cs', hp', n) → root? hp' r.root = root? hp r.root ∧ hp'.length = hp.length ∧ (∀ m b, root? hp' m = some b → root? hp m = some b) ∧ cs'.length = cs.length
  | [], hp, hp', cs', n, h => by simp only [into, Option.some.injEq, Prod.mk.injEq] at h; obtain ⟨rfl, rfl, rfl⟩ := h; exact ⟨rfl, rfl, fun _ _ h => h, rfl⟩
  | c :: cs, hp, hp', cs', n, h => by
    have sc : ∀ d : AV, (into r hp cs).map (fun x => ((d :: x.1, x.2) : List AV × Hp × Nat)) = some (cs', hp', n) → root? hp' r.root = root? hp r.root ∧ hp'.length = hp.length ∧ (∀ m b, root? hp' m = some b → root? hp m = some b) ∧ cs'.length = (c :: cs).length := by
      intro d hd
      simp only [Option.map_eq_some_iff] at hd
      obtain ⟨⟨cs1, hp1, n1⟩, h1, e⟩ := hd
      simp only [Prod.mk.injEq] at e
      obtain ⟨rfl, rfl, rfl⟩ := e
      obtain ⟨h2, h3, h4, h5⟩ := into_root h1
      exact ⟨h2, h3, h4, by simp [h5]⟩
    cases c with
    | bool x => exact sc _ (by simpa only [into] using h)
    | int x y => exact sc _ (by simpa only [into] using h)
    | str x => exact sc _ (by simpa only [into] using h)
    | nil k =>
      simp only [into] at h
      split at h
      · rename_i cs1 hp1 n1 _ h1
        simp only [Option.some.injEq, Prod.mk.injEq] at h
        obtain ⟨rfl, rfl, rfl⟩ := h
        obtain ⟨h2, h3, h4, h5⟩ := into_root h1
        exact ⟨h2, h3, h4, by simp [h5]⟩
      · simp at h
    | sl q k off len =>
      simp only [into] at h
      split at h
      · rename_i bq _ _ hbq
        split at h
        · rename_i hc
          split at h
          · rename_i cs1 hp1 n1 h1
            simp only [Option.some.injEq, Prod.mk.injEq] at h
            obtain ⟨rfl, rfl, rfl⟩ := h
            obtain ⟨h2, h3, h4, h5⟩ := into_root h1
            have hr := root_set hp q.root none (root_lt hbq)
            refine ⟨?_, by rw [h3]; simp, fun m b hb => ?_, by simp [h5]⟩
            · rw [h2, hr, upd_ne _ _ (Ne.symm hc.2.2.1)]
            · have := h4 m b hb
              rw [hr] at this
              by_cases e : m = q.root
              · subst e; simp at this
              · rwa [upd_ne _ _ e] at this
          · simp at h
        · simp at h
      · simp at h
    | _ => simp [into] at h
theorem root_setB {hp : Hp} {r : BRef} {n : Nat} {f : List (List AV) → List (List AV)} {b : Blk} (hb : root? hp r.root = some b) : root? (setB hp r n f) = upd (root? hp) r.root (some { b with gen := b.gen + n, es := setP b.es r.path f }) := by
  unfold setB
  rw [hb]
  exact root_set _ _ _ (root_lt hb)
theorem d_st {w : World} {L : Lf} {hp : Hp} (h : HRel RO w (root? hp) nx L) {o : Oper} {t : TypeId} {x z : Operand} {n : Nat} (ho : o.op = .store t x z) (hn : size? P t = some n) (hn0 : n ≠ 0)
    {r : BRef} {k idx off : Nat} (h1 : V RO w (root? hp) nx L (.ptr r k idx off) (a.eval x)) {cs : List AV} (h3 : VL RO w (root? hp) nx L cs (a.eval z).cells.toList) {bx : Bool} {es : List (List AV)} (hr : getB (root? hp) r = some (bx, k, es)) (hi : idx < es.length) (hk : off + n ≤ k) (hl : cs.length = n) {hp' : Hp}
    (hc : (bx = true ∧ ones cs = true ∧ hp' = setB hp r 0 fun es => es.set idx (splice (es.getD idx []) off cs)) ∨ (bx = false ∧ ∃ cs' hp1 m, into r hp cs = some (cs', hp1, m) ∧ hp' = setB hp1 r m fun es => es.set idx (splice (es.getD idx []) off cs'))) :
    Does P o a RO w (root? hp) nx L (.tup []) (root? hp') nx := by
  simp only [V] at h1
  obtain ⟨_, _, _, h2⟩ := h1
  obtain ⟨b, o', T, hL, hp0⟩ := h2 bx es hr hi
  have h4 := VL_len h3
  have hsz : (a.eval z).cells.size = n := by simp at h4; omega
  have hrow := getB_row hr
  obtain ⟨b0, hb0⟩ := row_some hrow
  have addr : (⟨b, o' + idx * k + off, none⟩ : Addr) = ⟨b, o' + idx * k + off, none⟩ := rfl
  -- the store at the place itself is one with an offset
  have shiftS : ∀ (vs : List Value) (b p j : Nat) (w : World), (storeCells ⟨b, p + j, none⟩ vs 0).run P w = (storeCells ⟨b, p, none⟩ vs j).run P w := by
    have gen : ∀ (vs : List Value) (b p j i : Nat) (w : World), (storeCells ⟨b, p + j, none⟩ vs i).run P w = (storeCells ⟨b, p, none⟩ vs (j + i)).run P w := by
      intro vs
      induction vs with
      | nil => intro b p j i w; rfl
      | cons v vs ih =>
        intro b p j i w
        simp only [storeCells, Sem.run_bind, addr_add]
        rw [show p + j + i = p + (j + i) by omega]
        congr 1
        funext _ w'
        rw [ih, Nat.add_assoc]
    intro vs b p j w
    exact gen vs b p j 0 w
  have run : ∀ w', (storeCells ⟨b, o' + idx * k, none⟩ (a.eval z).cells.toList off).run P w = .ok () w' → (execOp a.eval o).run P w = .ok .skip w' := by
    intro w' hw
    simp only [execOp, ho, Instr.storeAt, Sem.run_bind, hp0, Instr.sureAddr, Sem.run_pure, Result.andThen_ok, storeVar, run_sizeOf hn]
    rw [if_neg (by simp [hsz])]
    rw [shiftS, hw]
    rfl
  rcases hc with ⟨rfl, hones, rfl⟩ | ⟨rfl, cs', hp1, m, hin, rfl⟩
  · -- a variable
    have hpath : r.path = none := by
      cases hp2 : r.path with
      | none => rfl
      | some q =>
        obtain ⟨i0, j0⟩ := q
        rw [hp2, row_cell_iff hb0] at hrow
        simp at hrow
    rw [hpath, row_root hb0] at hrow
    simp only [Option.some.injEq, Prod.mk.injEq] at hrow
    obtain ⟨e1, e2, e3⟩ := hrow
    obtain ⟨w', h5, h6⟩ := step_storeB (P := P) hpath cs (a.eval z).cells.toList off 0 h hb0 e1 e2 e3 hi (by omega) hL h3 hones
    refine ⟨undef, w', L, .inr ⟨run w' h5, rfl⟩, ?_, by simp only [V]; exact ⟨#[], rfl, by simp [VL]⟩⟩
    rw [root_setB hb0]
    simp only [Nat.add_zero, hpath, setP, e3]
    exact h6
  · have hbox : b0.box = false := by
      cases hp2 : r.path with
      | none => rw [hp2, row_root hb0] at hrow; simp only [Option.some.injEq, Prod.mk.injEq] at hrow; exact hrow.1
      | some q => rw [hp2, row_cell_iff hb0] at hrow; exact hrow.1
    obtain ⟨w', L', h5, h6⟩ := step_storeV (P := P) cs (a.eval z).cells.toList off h (fun _ _ => rfl) hb0 hbox hrow hi (by omega) hL h3 hin
    refine ⟨undef, w', L', .inr ⟨run w' h5, rfl⟩, ?_, by simp only [V]; exact ⟨#[], rfl, by simp [VL]⟩⟩
    have hb1 : root? hp1 r.root = some b0 := by rw [(into_root hin).1]; exact hb0
    rw [root_setB hb1]
    exact h6
end
end Go.Proofs.Ytldmpjoddghdkaa.AI
