import Derived.Test.YtldmpjoddghdkaaARel
namespace Go.Proofs.Ytldmpjoddghdkaa.AI
set_option linter.all false
open Go.RowKit
set_option autoImplicit false
set_option linter.unusedVariables false
variable [Tabs]
def upd {α : Type} (R : Nat → Option α) (n : Nat) (b : Option α) : Nat → Option α := fun m => if m = n then b else R m
@[simp] theorem upd_same {α : Type} (R : Nat → Option α) (n : Nat) (b : Option α) : upd R n b n = b := by simp [upd]
theorem upd_ne {α : Type} (R : Nat → Option α) {n m : Nat} (b : Option α) (h : m ≠ n) : upd R n b m = R m := by simp [upd, h]
theorem row_congr {R R' : Rf} {r : Nat} (h : R' r = R r) (p : Option (Nat × Nat)) : row R' r p = row R r p := by unfold row; rw [h]
theorem getB_congr {R R' : Rf} {r : BRef} (h : R' r.root = R r.root) : getB R' r = getB R r := by unfold getB; rw [h]
theorem row_none {R : Rf} {r : Nat} (h : R r = none) (p : Option (Nat × Nat)) : row R r p = none := by unfold row; rw [h]
theorem row_some {R : Rf} {r : Nat} {p : Option (Nat × Nat)} {x : Bool × Nat × List (List AV)} (h : row R r p = some x) : ∃ b, R r = some b := by
  unfold row at h
  split at h
  · simp at h
  · exact ⟨_, by assumption⟩
theorem getB_of_row {R : Rf} {r : Nat} {p : Option (Nat × Nat)} {g : Nat} {x : Bool × Nat × List (List AV)} (h : row R r p = some x) (hg : ∀ b, R r = some b → g = b.gen) :
    getB R ⟨r, p, g⟩ = some x := by
  unfold row at h
  unfold getB
  split at h
  · simp at h
  · rename_i b hb
    simp only [hb]
    split at h
    · exact h
    · rename_i i j
      simp only
      split at h
      · rename_i hc; rw [if_pos ⟨hc, hg b hb⟩]; exact h
      · simp at h
theorem getD_set_self {α : Type} (l : List α) (i : Nat) (x d : α) (h : i < l.length) : (l.set i x).getD i d = x := by
  simp [List.getD_eq_getElem?_getD, h]
theorem getD_set_ne {α : Type} (l : List α) {i j : Nat} (x d : α) (h : i ≠ j) : (l.set i x).getD j d = l.getD j d := by
  simp [List.getD_eq_getElem?_getD, h]
theorem cellAt_setAt (es : List (List AV)) (i j i1 j1 : Nat) (c : AV) :
    cellAt (setAt es i j c) i1 j1 = if i1 = i ∧ j1 = j ∧ i < es.length ∧ j < (es.getD i []).length then c else cellAt es i1 j1 := by
  unfold cellAt setAt
  by_cases hi : i1 = i
  · subst hi
    by_cases hl : i1 < es.length
    · rw [getD_set_self _ _ _ _ hl]
      by_cases hj : j1 = j
      · subst hj
        by_cases hjl : j1 < (es.getD i1 []).length
        · rw [getD_set_self _ _ _ _ hjl, if_pos ⟨rfl, rfl, hl, hjl⟩]
        · rw [if_neg (fun h => hjl h.2.2.2), List.set_eq_of_length_le (by omega)]
      · rw [if_neg (fun h => hj h.2.1), getD_set_ne _ _ _ (Ne.symm hj)]
    · rw [if_neg (fun h => hl h.2.2.1), List.set_eq_of_length_le (by omega)]
  · rw [if_neg (fun h => hi h.1), getD_set_ne _ _ _ (Ne.symm hi)]
@[simp] theorem length_setAt (es : List (List AV)) (i j : Nat) (c : AV) : (setAt es i j c).length = es.length := by simp [setAt]
theorem mem_getD {α : Type} {l : List α} {i : Nat} {d : α} (h : i < l.length) : l.getD i d ∈ l := by
  simp [List.getD_eq_getElem?_getD, h]
theorem getD_out {α : Type} {l : List α} {i : Nat} {d : α} (h : ¬ i < l.length) : l.getD i d = d := by
  simp [List.getD_eq_getElem?_getD, List.getElem?_eq_none (Nat.le_of_not_lt h)]
theorem shape_setAt {es : List (List AV)} {k : Nat} (h : ∀ e ∈ es, e.length = k) (i j : Nat) (c : AV) : ∀ e ∈ setAt es i j c, e.length = k := by
  intro e he
  unfold setAt at he
  by_cases hi : i < es.length
  · rcases List.mem_or_eq_of_mem_set he with he | rfl
    · exact h e he
    · rw [List.length_set]
      exact h _ (mem_getD hi)
  · rw [List.set_eq_of_length_le (by omega)] at he
    exact h e he
theorem shape_getD {es : List (List AV)} {k : Nat} (h : ∀ e ∈ es, e.length = k) {i : Nat} (hi : i < es.length) : (es.getD i []).length = k := h _ (mem_getD hi)
theorem scals_iff {cs : List AV} : scals cs = true ↔ ∀ c ∈ cs, scal c = true := by
  induction cs with
  | nil => simp [scals]
  | cons c cs ih => simp [scals, ih]
theorem flat_iff {es : List (List AV)} : flat es = true ↔ ∀ e ∈ es, ∀ c ∈ e, scal c = true := by
  induction es with
  | nil => simp [flat]
  | cons e es ih => simp [flat, ih, scals_iff]
theorem flat_setAt {es : List (List AV)} (h : flat es = true) (i j : Nat) {c : AV} (hc : scal c = true) : flat (setAt es i j c) = true := by
  rw [flat_iff] at h ⊢
  intro e he d hd
  unfold setAt at he
  by_cases hi : i < es.length
  · rcases List.mem_or_eq_of_mem_set he with he | rfl
    · exact h e he d hd
    · rcases List.mem_or_eq_of_mem_set hd with hd | rfl
      · exact h _ (mem_getD hi) d hd
      · exact hc
  · rw [List.set_eq_of_length_le (by omega)] at he
    exact h e he d hd
theorem flat_cellAt {es : List (List AV)} {k : Nat} (h : flat es = true) (hs : ∀ e ∈ es, e.length = k) {i j : Nat} (hi : i < es.length) (hj : j < k) : scal (cellAt es i j) = true := by
  rw [flat_iff] at h
  unfold cellAt
  exact h _ (mem_getD hi) _ (mem_getD (by rw [shape_getD hs hi]; exact hj))
theorem scal_not_tree {c : AV} (h : scal c = true) (k : Nat) (es : List (List AV)) : c ≠ .tree k es := by
  intro e; subst e; simp [scal] at h
theorem V_scal {RO : Bx} {w w' : World} {R R' : Rf} {nx nx' : Nat} {L L' : Lf} {c : AV} (h : scal c = true) {x : Value} (hv : V RO w R nx L c x) : V RO w' R' nx' L' c x := by
  cases c <;> simp [scal] at h <;> simp only [V, Rd] at hv ⊢ <;> exact hv
theorem outC_scal {c : AV} (h : scal c = true) (r : BRef) (i j : Nat) : outC r i j c = c := by
  cases c <;> simp [scal] at h <;> rfl
theorem outC_other {c : AV} (h : ∀ k es, c ≠ .tree k es) (r : BRef) (i j : Nat) : outC r i j c = c := by
  cases c <;> first | rfl | exact absurd rfl (h _ _)
theorem HRel.tbs {RO : Bx} {w w' : World} {R : Rf} {nx : Nat} {L : Lf} (h : HRel RO w R nx L) (hs : Same RO w w') : ∀ B, Tabs.at_ B → RO.pr B ∧ ∃ x, w'.heap[B]? = some x ∧ Tabs.ok B x := fun B hB => by
  obtain ⟨h1, h2⟩ := h.tb B hB
  exact ⟨h1, by rw [hs B h1]; exact h2⟩
theorem HRel.world {RO : Bx} {w w' : World} {R : Rf} {nx : Nat} {L : Lf} (h : HRel RO w R nx L) (hs : Same RO w w') (hsz : w.heap.size ≤ w'.heap.size)
    (hm : ∀ r p x b o T, row R r p = some x → L r p = some (b, o, T) → ∀ i, i < T → w'.cell? ⟨b, o + i, none⟩ = w.cell? ⟨b, o + i, none⟩ ∧ w'.frozen? ⟨b, o + i, none⟩ = w.frozen? ⟨b, o + i, none⟩) :
    HRel RO w' R nx L where
  dom := h.dom
  inj := h.inj
  ro := fun B hB => Nat.lt_of_lt_of_le (h.ro B hB) hsz
  tb := h.tbs hs
  rows := fun r p bx k es hr => by
    have h0 := h.rows r p bx k es hr
    refine ⟨h0.shape, h0.cells, h0.no, fun b o T hL => ?_⟩
    obtain ⟨h1, h2, h3, h4⟩ := h0.yes b o T hL
    have hm' := hm r p _ b o T hr hL
    refine ⟨h1, ⟨Nat.lt_of_lt_of_le h2.lt hsz, fun i hi => ?_, fun i hi => (hm' i hi).2.trans (h2.free i hi)⟩, h3, fun i j hi hj => ?_⟩
    · obtain ⟨v, hv⟩ := h2.cell i hi
      exact ⟨v, (hm' i hi).1.trans hv⟩
    · obtain ⟨v, hv, hV⟩ := h4 i j hi hj
      have hlt : i * k + j < T := by
        have : (i + 1) * k ≤ es.length * k := Nat.mul_le_mul_right k hi
        rw [Nat.succ_mul] at this
        omega
      refine ⟨v, ?_, Cl.mono hs (Pres.refl _ _ _) (fun _ _ _ _ => rfl) hV⟩
      have := (hm' (i * k + j) hlt).1
      rw [← Nat.add_assoc] at this
      exact this.trans hv
theorem idx_lt {i j k n T : Nat} (hi : i < n) (hj : j < k) (h : n * k ≤ T) : i * k + j < T := by
  have : (i + 1) * k ≤ n * k := Nat.mul_le_mul_right k hi
  rw [Nat.succ_mul] at this
  omega
theorem HRel.drop {RO : Bx} {w : World} {R : Rf} {nx : Nat} {L : Lf} (h : HRel RO w R nx L) (q : Nat) : HRel RO w (upd R q none) nx L ∧ Pres R nx L (upd R q none) nx L := by
  have hne : ∀ r b, upd R q none r = some b → r ≠ q := by
    intro r b hb e; subst e; simp at hb
  have hp : Pres R nx L (upd R q none) nx L := by
    refine ⟨Nat.le_refl _, fun r b hr hb => ⟨b, ?_, Nat.le_refl _⟩, fun r hr hg bx k es he => ⟨es, ?_, rfl, rfl⟩⟩
    · rw [upd_ne _ _ (hne r b hb)] at hb; exact hb
    · obtain ⟨b, hb⟩ := row_some (getB_row he)
      rw [getB_congr (upd_ne R none (hne _ b hb))] at he
      exact he
  have hrow : ∀ r p x, row (upd R q none) r p = some x → row R r p = some x := by
    intro r p x hx
    obtain ⟨b, hb⟩ := row_some hx
    rw [row_congr (upd_ne R none (hne _ b hb))] at hx
    exact hx
  refine ⟨⟨fun r b hb => h.dom r b (by rw [upd_ne _ _ (hne r b hb)] at hb; exact hb), fun r p bx k es hr => ?_, fun r p x r' p' x' b o T o' T' h1 h2 => h.inj r p x r' p' x' b o T o' T' (hrow _ _ _ h1) (hrow _ _ _ h2), h.ro, h.tb⟩, hp⟩
  have h0 := h.rows r p bx k es (hrow _ _ _ hr)
  refine ⟨h0.shape, h0.cells, h0.no, fun b o T hL => ?_⟩
  obtain ⟨h1, h2, h3, h4⟩ := h0.yes b o T hL
  refine ⟨h1, h2, h3, fun i j hi hj => ?_⟩
  obtain ⟨v, hv, hV⟩ := h4 i j hi hj
  exact ⟨v, hv, Cl.mono (Same.refl _ _) hp (fun _ _ _ _ => rfl) hV⟩
def setR (R : Rf) (r : Nat) (b : Blk) (p : Option (Nat × Nat)) (g : Nat) (i j : Nat) (c : AV) : Rf :=
  upd R r (some { b with gen := g, es := setP b.es p fun es => setAt es i j c })
theorem row_root {R : Rf} {r : Nat} {b : Blk} (hb : R r = some b) : row R r none = some (b.box, b.k, b.es) := by simp [row, hb]
theorem row_cell {R : Rf} {r : Nat} {b : Blk} (hb : R r = some b) (i j : Nat) : row R r (some (i, j)) = if b.box = false then (match cellAt b.es i j with | .tree k es => some (false, k, es) | _ => none) else none := by
  simp only [row, hb]
  rfl
theorem row_cell_iff {R : Rf} {r : Nat} {b : Blk} (hb : R r = some b) {i j : Nat} {bx : Bool} {k : Nat} {es : List (List AV)} :
    row R r (some (i, j)) = some (bx, k, es) ↔ b.box = false ∧ bx = false ∧ cellAt b.es i j = .tree k es := by
  rw [row_cell hb]
  by_cases h : b.box = false
  · rw [if_pos h]
    cases hc : cellAt b.es i j <;> simp [h] <;> constructor <;> rintro ⟨rfl, rfl, rfl⟩ <;> simp
  · rw [if_neg h]; simp [h]
theorem row_setR {R : Rf} {r : Nat} {b : Blk} (hb : R r = some b) {p : Option (Nat × Nat)} {bx : Bool} {k : Nat} {es : List (List AV)} (hr : row R r p = some (bx, k, es)) (g i j : Nat) {c : AV}
    (hc : b.box = false → ∀ k es, c ≠ .tree k es) {r1 : Nat} {p1 : Option (Nat × Nat)} {bx1 : Bool} {k1 : Nat} {es1 : List (List AV)} (h1 : row (setR R r b p g i j c) r1 p1 = some (bx1, k1, es1)) :
    (r1 = r ∧ p1 = p ∧ bx1 = bx ∧ k1 = k ∧ es1 = setAt es i j c) ∨
    (¬ (r1 = r ∧ p1 = p) ∧ ∃ es0, row R r1 p1 = some (bx1, k1, es0) ∧ es1.length = es0.length ∧ ((∀ e ∈ es0, e.length = k1) → ∀ e ∈ es1, e.length = k1) ∧
      ∀ i1 j1, cellAt es1 i1 j1 = cellAt es0 i1 j1 ∨ (r1 = r ∧ p1 = none ∧ p = some (i1, j1) ∧ cellAt es0 i1 j1 = .tree k es ∧ cellAt es1 i1 j1 = .tree k (setAt es i j c))) := by
  by_cases hr1 : r1 = r
  · subst hr1
    have hb' : setR R r1 b p g i j c r1 = some { b with gen := g, es := setP b.es p fun es => setAt es i j c } := by simp [setR]
    cases p with
    | none =>
      rw [row_root hb] at hr
      simp only [Option.some.injEq, Prod.mk.injEq] at hr
      obtain ⟨rfl, rfl, rfl⟩ := hr
      cases p1 with
      | none =>
        rw [row_root hb'] at h1
        simp only [Option.some.injEq, Prod.mk.injEq, setP] at h1
        exact .inl ⟨rfl, rfl, h1.1.symm, h1.2.1.symm, h1.2.2.symm⟩
      | some q =>
        obtain ⟨i1, j1⟩ := q
        rw [row_cell_iff hb'] at h1
        obtain ⟨h2, h3, h4⟩ := h1
        simp only [setP] at h4
        rw [cellAt_setAt] at h4
        split at h4
        · exact absurd h4 (hc h2 _ _)
        · exact .inr ⟨by simp, es1, (row_cell_iff hb).2 ⟨h2, h3, h4⟩, rfl, id, fun _ _ => .inl rfl⟩
    | some q =>
      obtain ⟨i0, j0⟩ := q
      rw [row_cell_iff hb] at hr
      obtain ⟨h2, rfl, h3⟩ := hr
      have hset : (setP b.es (some (i0, j0)) fun es => setAt es i j c) = setAt b.es i0 j0 (.tree k (setAt es i j c)) := by simp [setP, h3]
      have hin : i0 < b.es.length ∧ j0 < (b.es.getD i0 []).length := by
        have h3' := h3
        unfold cellAt at h3'
        have h5 : j0 < (b.es.getD i0 []).length := by
          rcases Nat.lt_or_ge j0 (b.es.getD i0 []).length with h | h
          · exact h
          · rw [getD_out (Nat.not_lt.2 h)] at h3'; cases h3'
        refine ⟨?_, h5⟩
        rcases Nat.lt_or_ge i0 b.es.length with h | h
        · exact h
        · rw [getD_out (Nat.not_lt.2 h)] at h5; simp at h5
      cases p1 with
      | none =>
        rw [row_root hb'] at h1
        simp only [Option.some.injEq, Prod.mk.injEq] at h1
        obtain ⟨h4, h5, h6⟩ := h1
        rw [hset] at h6
        refine .inr ⟨by simp, b.es, by rw [row_root hb, h4, h5], by rw [← h6]; simp, fun hs => by rw [← h6]; exact shape_setAt hs _ _ _, fun i1 j1 => ?_⟩
        rw [← h6, cellAt_setAt]
        split
        · rename_i h7
          exact .inr ⟨rfl, rfl, by rw [h7.1, h7.2.1], by rw [h7.1, h7.2.1]; exact h3, rfl⟩
        · exact .inl rfl
      | some q1 =>
        obtain ⟨i1, j1⟩ := q1
        rw [row_cell_iff hb'] at h1
        obtain ⟨h4, h5, h6⟩ := h1
        simp only at h6
        rw [hset, cellAt_setAt] at h6
        split at h6
        · rename_i h7
          simp only [AV.tree.injEq] at h6
          exact .inl ⟨rfl, by rw [h7.1, h7.2.1], h5, h6.1.symm, h6.2.symm⟩
        · rename_i h7
          refine .inr ⟨?_, es1, (row_cell_iff hb).2 ⟨h4, h5, h6⟩, rfl, id, fun _ _ => .inl rfl⟩
          rintro ⟨_, h8⟩
          simp only [Option.some.injEq, Prod.mk.injEq] at h8
          exact h7 ⟨h8.1, h8.2, hin⟩
  · have : setR R r b p g i j c r1 = R r1 := upd_ne _ _ hr1
    rw [row_congr this] at h1
    exact .inr ⟨fun h => hr1 h.1, es1, h1, rfl, id, fun _ _ => .inl rfl⟩
theorem Pres.setR {R : Rf} {nx : Nat} {L : Lf} {r : Nat} {p : Option (Nat × Nat)} {bx : Bool} {k : Nat} {es : List (List AV)}
    (hr : Go.Proofs.Ytldmpjoddghdkaa.AI.row R r p = some (bx, k, es)) {b0 : Blk} (hb : R r = some b0) (i j : Nat) {c : AV} (hc : b0.box = false → ∀ k es, c ≠ .tree k es) {g' : Nat} (hg : b0.gen ≤ g') :
    Pres R nx L (Go.Proofs.Ytldmpjoddghdkaa.AI.setR R r b0 p g' i j c) nx L := by
  have hself : Go.Proofs.Ytldmpjoddghdkaa.AI.setR R r b0 p g' i j c r = some { b0 with gen := g', es := setP b0.es p fun es => setAt es i j c } := by simp [Go.Proofs.Ytldmpjoddghdkaa.AI.setR]
  refine ⟨Nat.le_refl _, fun r1 b1 hr1 hb1 => ?_, fun q hq hgo bx1 k1 es1 he => ?_⟩
  · by_cases e : r1 = r
    · subst e
      rw [hself] at hb1
      simp only [Option.some.injEq] at hb1
      subst hb1
      exact ⟨b0, hb, hg⟩
    · rw [show Go.Proofs.Ytldmpjoddghdkaa.AI.setR R r b0 p g' i j c r1 = R r1 from upd_ne _ _ e] at hb1
      exact ⟨b1, hb1, Nat.le_refl _⟩
  · obtain ⟨q, qp, qg⟩ := q
    have hgen : ∀ b, R q = some b → qp = none ∨ qg = b.gen := by
      intro b1 hb1
      by_cases hq0 : qp = none
      · exact .inl hq0
      · refine .inr ?_
        by_cases e : q = r
        · subst e
          rw [hb] at hb1
          simp only [Option.some.injEq] at hb1
          subst hb1
          have h1 := hgo b0 hb hq0
          unfold getB at he
          simp only [hself] at he
          split at he
          · exact absurd rfl hq0
          · split at he
            · rename_i h2; have := h2.2; simp only at this h1; omega
            · simp at he
        · have : Go.Proofs.Ytldmpjoddghdkaa.AI.setR R r b0 p g' i j c q = R q := upd_ne _ _ e
          rw [getB_congr (r := ⟨q, qp, qg⟩) this] at he
          unfold getB at he
          simp only [hb1] at he
          split at he
          · exact absurd rfl hq0
          · split at he
            · rename_i h2; exact h2.2
            · simp at he
    have hrow := getB_row he
    obtain ⟨b1, hb1⟩ : ∃ b1, R q = some b1 := by
      by_cases e : q = r
      · subst e; exact ⟨b0, hb⟩
      · obtain ⟨b1, h1⟩ := row_some hrow
        exact ⟨b1, by rw [← h1]; exact (upd_ne _ _ e).symm⟩
    have back : ∀ es0, row R q qp = some (bx1, k1, es0) → getB R ⟨q, qp, qg⟩ = some (bx1, k1, es0) := by
      intro es0 h1
      rcases hgen b1 hb1 with h2 | h2
      · subst h2
        rw [row_root hb1] at h1
        simp only [getB, hb1]
        exact h1
      · exact getB_of_row h1 (fun b2 hb2 => by rw [hb1] at hb2; simp only [Option.some.injEq] at hb2; rw [h2, hb2])
    rcases row_setR hb hr g' i j hc hrow with ⟨h1, h2, h3, h4, h5⟩ | ⟨_, es0, h1, h2, _⟩
    · simp only at h1 h2
      subst h1; subst h2; subst h3; subst h4; subst h5
      exact ⟨es, back es hr, by simp, rfl⟩
    · exact ⟨es0, back es0 h1, h2.symm, rfl⟩
theorem HRel.setCell {RO : Bx} {w w' : World} {R : Rf} {nx : Nat} {L : Lf} (h : HRel RO w R nx L) {r : Nat} {p : Option (Nat × Nat)} {bx : Bool} {k : Nat} {es : List (List AV)}
    (hr : row R r p = some (bx, k, es)) {i j : Nat} (hi : i < es.length) (hj : j < k) {b0 : Blk} (hb : R r = some b0) {c : AV} (hc : b0.box = false → ∀ k es, c ≠ .tree k es)
    (hk : bx = false → c = .dead ∨ scal c = true) (hk2 : p ≠ none → scal c = true) {g' : Nat} (hg : b0.gen ≤ g') {b o T : Nat} (hL : L r p = some (b, o, T))
    (hs : Same RO w w') (hsz : w.heap.size ≤ w'.heap.size)
    (hw : ∀ B off, (B ≠ b ∨ off ≠ o + i * k + j) → w'.cell? ⟨B, off, none⟩ = w.cell? ⟨B, off, none⟩) (hf : ∀ B off, w'.frozen? ⟨B, off, none⟩ = w.frozen? ⟨B, off, none⟩)
    (hv : ∃ v, w'.cell? ⟨b, o + i * k + j, none⟩ = some v ∧ V RO w' (setR R r b0 p g' i j c) nx L c v) :
    HRel RO w' (setR R r b0 p g' i j c) nx L ∧ Pres R nx L (setR R r b0 p g' i j c) nx L := by
  have hself : setR R r b0 p g' i j c r = some { b0 with gen := g', es := setP b0.es p fun es => setAt es i j c } := by simp [setR]
  have hp : Pres R nx L (setR R r b0 p g' i j c) nx L := Pres.setR hr hb i j hc hg
  refine ⟨⟨fun r1 b1 hb1 => ?_, fun r1 p1 bx1 k1 es1 hr1 => ?_, fun r1 p1 x1 r2 p2 x2 b' o1 T1 o2 T2 h1 h2 h3 h4 => ?_, fun B hB => Nat.lt_of_lt_of_le (h.ro B hB) hsz, h.tbs hs⟩, hp⟩
  · by_cases e : r1 = r
    · subst e; exact h.dom r1 b0 hb
    · rw [show setR R r b0 p g' i j c r1 = R r1 from upd_ne _ _ e] at hb1
      exact h.dom r1 b1 hb1
  · have hrow := row_setR hb hr g' i j hc hr1
    -- the cells of rows that did not turn
    have other : ∀ r1 p1 bx1 k1 es0, ¬ (r1 = r ∧ p1 = p) → row R r1 p1 = some (bx1, k1, es0) → ∀ b1 o1 T1, L r1 p1 = some (b1, o1, T1) → ∀ off, w'.cell? ⟨b1, off, none⟩ = w.cell? ⟨b1, off, none⟩ := by
      intro r1 p1 bx1 k1 es0 hne hr0 b1 o1 T1 hL1 off
      refine hw b1 off (.inl fun e => ?_)
      subst e
      exact hne (h.inj _ _ _ _ _ _ _ _ _ _ _ hr0 hr hL1 hL)
    rcases hrow with ⟨h1, h2, h3, h4, h5⟩ | ⟨hne, es0, h1, h2, h3, h4⟩
    · subst h1; subst h2; subst h3; subst h4; subst h5
      have h0 := h.rows _ _ _ _ _ hr
      refine ⟨shape_setAt h0.shape _ _ _, fun hbx i1 j1 hi1 hj1 => ?_, fun hn => by rw [hn] at hL; simp at hL, fun b1 o1 T1 hL1 => ?_⟩
      · rw [length_setAt] at hi1
        rw [cellAt_setAt]
        split
        · rcases hk hbx with h6 | h6
          · subst h6; simp [cellOk]
          · cases c <;> simp [scal] at h6 <;> simp [cellOk, scal]
        · exact h0.cells hbx i1 j1 hi1 hj1
      · rw [hL] at hL1
        simp only [Option.some.injEq, Prod.mk.injEq] at hL1
        obtain ⟨rfl, rfl, rfl⟩ := hL1
        obtain ⟨h6, h7, h8, h9⟩ := h0.yes _ _ _ hL
        refine ⟨h6, ⟨Nat.lt_of_lt_of_le h7.lt hsz, fun x hx => ?_, fun x hx => (hf _ _).trans (h7.free x hx)⟩, by simpa using h8, fun i1 j1 hi1 hj1 => ?_⟩
        · by_cases e : o + x = o + i * k1 + j
          · obtain ⟨v, hv, _⟩ := hv
            exact ⟨v, by rw [e]; exact hv⟩
          · obtain ⟨v, hv⟩ := h7.cell x hx
            exact ⟨v, (hw _ _ (.inr e)).trans hv⟩
        · rw [length_setAt] at hi1
          rw [cellAt_setAt]
          by_cases e : i1 = i ∧ j1 = j
          · obtain ⟨rfl, rfl⟩ := e
            rw [if_pos ⟨rfl, rfl, hi, by rw [shape_getD h0.shape hi]; exact hj⟩]
            obtain ⟨v, hv1, hv2⟩ := hv
            refine ⟨v, hv1, ?_⟩
            cases bx1
            · rw [Cl.other (hc (by
                obtain ⟨b1, hb1⟩ := row_some hr
                rw [hb] at hb1
                cases p1 with
                | none => rw [row_root hb] at hr; simp only [Option.some.injEq, Prod.mk.injEq] at hr; exact hr.1
                | some q => rw [row_cell_iff hb] at hr; exact hr.1))]
              exact hv2
            · rw [Cl.box]; exact hv2
          · rw [if_neg (fun h => e ⟨h.1, h.2.1⟩)]
            obtain ⟨v, hv1, hv2⟩ := h9 i1 j1 hi1 hj1
            refine ⟨v, (hw _ _ (.inr fun e2 => e ?_)).trans hv1, Cl.mono hs hp (fun _ _ _ _ => rfl) hv2⟩
            have h10 : i1 * k1 + j1 = i * k1 + j := by omega
            have h11 : i1 = i := by
              have a1 : (i1 * k1 + j1) / k1 = i1 := by rw [Nat.mul_comm, Nat.mul_add_div (by omega), Nat.div_eq_of_lt hj1]; omega
              have a2 : (i * k1 + j) / k1 = i := by rw [Nat.mul_comm, Nat.mul_add_div (by omega), Nat.div_eq_of_lt hj]; omega
              rw [← a1, ← a2, h10]
            subst h11
            exact ⟨rfl, by omega⟩
    · have h0 := h.rows _ _ _ _ _ h1
      have hes := h.rows _ _ _ _ _ hr
      refine ⟨h3 h0.shape, fun hbx i1 j1 hi1 hj1 => ?_, fun hn => ?_, fun b1 o1 T1 hL1 => ?_⟩
      · rcases h4 i1 j1 with h5 | ⟨_, h6, h7, h8, h9⟩
        · rw [h5]; exact h0.cells hbx i1 j1 (h2 ▸ hi1) hj1
        · have := h0.cells hbx i1 j1 (h2 ▸ hi1) hj1
          rw [h8] at this
          rw [h9]
          exact ⟨h6, flat_setAt this.2 _ _ (hk2 (by rw [h7]; simp))⟩
      · have := h0.no hn
        rw [this] at h2
        exact List.eq_nil_of_length_eq_zero h2
      · obtain ⟨h6, h7, h8, h9⟩ := h0.yes _ _ _ hL1
        have ho := other r1 p1 bx1 k1 es0 hne h1 b1 o1 T1 hL1
        refine ⟨h6, ⟨Nat.lt_of_lt_of_le h7.lt hsz, fun x hx => ?_, fun x hx => (hf _ _).trans (h7.free x hx)⟩, by rw [h2]; exact h8, fun i1 j1 hi1 hj1 => ?_⟩
        · obtain ⟨v, hv⟩ := h7.cell x hx
          exact ⟨v, (ho _).trans hv⟩
        · obtain ⟨v, hv1, hv2⟩ := h9 i1 j1 (h2 ▸ hi1) hj1
          refine ⟨v, (ho _).trans hv1, ?_⟩
          rcases h4 i1 j1 with h5 | ⟨h10, h11, h12, h13, h14⟩
          · rw [h5]
            exact Cl.mono hs hp (fun _ _ _ _ => rfl) hv2
          · rw [h13] at hv2
            rw [h14]
            cases bx1
            · simp only [Cl] at hv2 ⊢
              rw [length_setAt]
              exact hv2
            · exfalso
              subst h11; subst h10; subst h12
              rw [row_root hb] at h1
              rw [row_cell_iff hb] at hr
              simp only [Option.some.injEq, Prod.mk.injEq] at h1
              rw [hr.1] at h1
              simp at h1
  · have bk : ∀ r1 p1 x1, row (setR R r b0 p g' i j c) r1 p1 = some x1 → ∃ x0, row R r1 p1 = some x0 := by
      intro r1 p1 x1 h1
      obtain ⟨bx1, k1, es1⟩ := x1
      rcases row_setR hb hr g' i j hc h1 with ⟨h1, h2, _⟩ | ⟨_, es0, h1, _⟩
      · exact ⟨_, by rw [h1, h2]; exact hr⟩
      · exact ⟨_, h1⟩
    obtain ⟨y1, hy1⟩ := bk _ _ _ h1
    obtain ⟨y2, hy2⟩ := bk _ _ _ h2
    exact h.inj _ _ _ _ _ _ _ _ _ _ _ hy1 hy2 h3 h4
theorem HRel.join {RO : Bx} {w : World} {R : Rf} {nx : Nat} {L : Lf} (h : HRel RO w R nx L) {n nx' : Nat} (hn : nx ≤ n) (hnx : n < nx') (blk : Blk) (l : Option (Nat × Nat) → Option (Nat × Nat × Nat))
    (hrow : ∀ p bx k es, Go.Proofs.Ytldmpjoddghdkaa.AI.row (upd R n (some blk)) n p = some (bx, k, es) → RowOk RO w (upd R n (some blk)) nx' (fun r p => if r = n then l p else L r p) n p bx k es)
    (hinj : ∀ p x p' x' b o T o' T', Go.Proofs.Ytldmpjoddghdkaa.AI.row (upd R n (some blk)) n p = some x → Go.Proofs.Ytldmpjoddghdkaa.AI.row (upd R n (some blk)) n p' = some x' → l p = some (b, o, T) → l p' = some (b, o', T') → p = p')
    (hdis : ∀ p x b o T, Go.Proofs.Ytldmpjoddghdkaa.AI.row (upd R n (some blk)) n p = some x → l p = some (b, o, T) → ∀ r p1 x1 o1 T1, Go.Proofs.Ytldmpjoddghdkaa.AI.row R r p1 = some x1 → L r p1 = some (b, o1, T1) → False) :
    HRel RO w (upd R n (some blk)) nx' (fun r p => if r = n then l p else L r p) ∧ Pres R nx L (upd R n (some blk)) nx' (fun r p => if r = n then l p else L r p) := by
  have hRn : R n = none := by
    cases e : R n with
    | none => rfl
    | some b => have := h.dom n b e; omega
  have hp : Pres R nx L (upd R n (some blk)) nx' (fun r p => if r = n then l p else L r p) := by
    refine ⟨by omega, fun r b hr hb => ⟨b, ?_, Nat.le_refl _⟩, fun r hr hg bx k es he => ⟨es, ?_, rfl, ?_⟩⟩
    · rw [upd_ne _ _ (by omega)] at hb; exact hb
    · rw [getB_congr (upd_ne R _ (by omega))] at he; exact he
    · rw [if_neg (by omega)]
  have hrow' : ∀ r p x, r ≠ n → row (upd R n (some blk)) r p = some x → row R r p = some x := by
    intro r p x hr hx
    rw [row_congr (upd_ne R _ hr)] at hx
    exact hx
  refine ⟨⟨fun r b hb => ?_, fun r p bx k es hr => ?_, fun r p x r' p' x' b o T o' T' h1 h2 h3 h4 => ?_, h.ro, h.tb⟩, hp⟩
  · by_cases e : r = n
    · omega
    · rw [upd_ne _ _ e] at hb
      have := h.dom r b hb
      omega
  · by_cases e : r = n
    · subst e; exact hrow p bx k es hr
    · have h0 := h.rows r p bx k es (hrow' _ _ _ e hr)
      refine ⟨h0.shape, h0.cells, fun h1 => h0.no ?_, fun b o T hL => ?_⟩
      · simpa [e] using h1
      · simp only [e, if_false] at hL
        obtain ⟨h1, h2, h3, h4⟩ := h0.yes b o T hL
        refine ⟨h1, h2, h3, fun i j hi hj => ?_⟩
        obtain ⟨v, hv, hV⟩ := h4 i j hi hj
        exact ⟨v, hv, Cl.mono (Same.refl _ _) hp (fun _ _ _ _ => by simp [e]) hV⟩
  · by_cases e : r = n
    · by_cases e' : r' = n
      · subst e; subst e'
        simp only [if_true] at h3 h4
        exact ⟨rfl, hinj _ _ _ _ _ _ _ _ _ h1 h2 h3 h4⟩
      · subst e
        simp only [if_true, e', if_false] at h3 h4
        exact (hdis _ _ _ _ _ h1 h3 _ _ _ _ _ (hrow' _ _ _ e' h2) h4).elim
    · by_cases e' : r' = n
      · subst e'
        simp only [if_true, e, if_false] at h3 h4
        exact (hdis _ _ _ _ _ h2 h4 _ _ _ _ _ (hrow' _ _ _ e h1) h3).elim
      · simp only [e, e', if_false] at h3 h4
        exact h.inj _ _ _ _ _ _ _ _ _ _ _ (hrow' _ _ _ e h1) (hrow' _ _ _ e' h2) h3 h4
def hangR (R : Rf) (r : Nat) (b : Blk) (i j k : Nat) (es : List (List AV)) : Rf := upd R r (some { b with gen := b.gen + 1, es := setAt b.es i j (.tree k es) })
def hangL (L : Lf) (r i j : Nat) (l : Option (Nat × Nat × Nat)) : Lf := fun r1 p1 => if r1 = r ∧ p1 = some (i, j) then l else L r1 p1
theorem row_hang {R : Rf} {r : Nat} {b : Blk} (hb : R r = some b) (hbox : b.box = false) {i j : Nat} (hi : i < b.es.length) (hj : j < (b.es.getD i []).length) (k : Nat) (es : List (List AV))
    {r1 : Nat} {p1 : Option (Nat × Nat)} {bx1 : Bool} {k1 : Nat} {es1 : List (List AV)} (h1 : row (hangR R r b i j k es) r1 p1 = some (bx1, k1, es1)) :
    (r1 = r ∧ p1 = some (i, j) ∧ bx1 = false ∧ k1 = k ∧ es1 = es) ∨ (r1 = r ∧ p1 = none ∧ bx1 = false ∧ k1 = b.k ∧ es1 = setAt b.es i j (.tree k es)) ∨
    (¬ (r1 = r ∧ p1 = some (i, j)) ∧ ¬ (r1 = r ∧ p1 = none) ∧ row R r1 p1 = some (bx1, k1, es1)) := by
  by_cases e : r1 = r
  · subst e
    have hb' : hangR R r1 b i j k es r1 = some { b with gen := b.gen + 1, es := setAt b.es i j (.tree k es) } := by simp [hangR]
    cases p1 with
    | none =>
      rw [row_root hb'] at h1
      simp only [Option.some.injEq, Prod.mk.injEq] at h1
      exact .inr (.inl ⟨rfl, rfl, by rw [← h1.1, hbox], h1.2.1.symm, h1.2.2.symm⟩)
    | some q =>
      obtain ⟨i1, j1⟩ := q
      rw [row_cell_iff hb'] at h1
      obtain ⟨h2, h3, h4⟩ := h1
      simp only at h4
      rw [cellAt_setAt] at h4
      split at h4
      · rename_i h5
        simp only [AV.tree.injEq] at h4
        exact .inl ⟨rfl, by rw [h5.1, h5.2.1], h3, h4.1.symm, h4.2.symm⟩
      · rename_i h5
        refine .inr (.inr ⟨?_, by simp, (row_cell_iff hb).2 ⟨hbox, h3, h4⟩⟩)
        rintro ⟨_, h6⟩
        simp only [Option.some.injEq, Prod.mk.injEq] at h6
        exact h5 ⟨h6.1, h6.2, hi, hj⟩
  · rw [row_congr (show hangR R r b i j k es r1 = R r1 from upd_ne _ _ e)] at h1
    exact .inr (.inr ⟨fun h => e h.1, fun h => e h.1, h1⟩)
theorem HRel.hang {RO : Bx} {w : World} {R : Rf} {nx : Nat} {L : Lf} (h : HRel RO w R nx L) {r : Nat} {b : Blk} (hb : R r = some b) (hbox : b.box = false) {i j : Nat} (hi : i < b.es.length) (hj : j < b.k)
    (hc : ∀ k es, cellAt b.es i j ≠ .tree k es) {k : Nat} {es : List (List AV)} (hf : flat es = true) (hsh : ∀ e ∈ es, e.length = k) (l : Option (Nat × Nat × Nat)) (hno : l = none → es = [])
    (hyes : ∀ bb o T, l = some (bb, o, T) → ¬ RO.pr bb ∧ Mem w bb o T ∧ es.length * k ≤ T ∧ (∀ i1 j1, i1 < es.length → j1 < k → ∃ v, w.cell? ⟨bb, o + i1 * k + j1, none⟩ = some v ∧ V RO w R nx L (cellAt es i1 j1) v) ∧
      ∀ r1 p1 x1 o1 T1, Go.Proofs.Ytldmpjoddghdkaa.AI.row R r1 p1 = some x1 → L r1 p1 = some (bb, o1, T1) → False)
    (hval : ∀ b0 o0 T0, L r none = some (b0, o0, T0) → ∃ A cap, w.cell? ⟨b0, o0 + i * b.k + j, none⟩ = some (.slice A es.length cap) ∧ es.length ≤ cap ∧
      (cap = 0 ∨ ∃ bb o T, l = some (bb, o, T) ∧ A = some ⟨bb, o, none⟩ ∧ cap * k ≤ T)) :
    HRel RO w (hangR R r b i j k es) nx (hangL L r i j l) ∧ Pres R nx L (hangR R r b i j k es) nx (hangL L r i j l) := by
  have hroot := h.rows r none _ _ _ (row_root hb)
  have hjl : j < (b.es.getD i []).length := by rw [shape_getD hroot.shape hi]; exact hj
  have hb' : hangR R r b i j k es r = some { b with gen := b.gen + 1, es := setAt b.es i j (.tree k es) } := by simp [hangR]
  have hp : Pres R nx L (hangR R r b i j k es) nx (hangL L r i j l) := by
    refine ⟨Nat.le_refl _, fun r1 b1 hr1 hb1 => ?_, fun q hq hgo bx1 k1 es1 he => ?_⟩
    · by_cases e : r1 = r
      · subst e
        rw [hb'] at hb1
        simp only [Option.some.injEq] at hb1
        subst hb1
        exact ⟨b, hb, by simp⟩
      · rw [show hangR R r b i j k es r1 = R r1 from upd_ne _ _ e] at hb1
        exact ⟨b1, hb1, Nat.le_refl _⟩
    · obtain ⟨q, qp, qg⟩ := q
      by_cases e : q = r
      · subst e
        by_cases hq0 : qp = none
        · subst hq0
          simp only [getB, hb', Option.some.injEq, Prod.mk.injEq] at he
          obtain ⟨rfl, rfl, rfl⟩ := he
          exact ⟨b.es, by simp [getB, hb], by simp, by simp [hangL]⟩
        · exfalso
          have h1 := hgo b hb hq0
          unfold getB at he
          simp only [hb'] at he
          split at he
          · exact absurd rfl hq0
          · split at he
            · rename_i h2; have := h2.2; simp only at this h1; omega
            · simp at he
      · have he' := he
        rw [getB_congr (r := ⟨q, qp, qg⟩) (show hangR R r b i j k es q = R q from upd_ne _ _ e)] at he'
        exact ⟨es1, he', rfl, by simp [hangL, e]⟩
  have hVs : ∀ c x, scal c = true → V RO w R nx L c x → V RO w (hangR R r b i j k es) nx (hangL L r i j l) c x := fun c x hs hv => V_scal hs hv
  refine ⟨⟨fun r1 b1 hb1 => ?_, fun r1 p1 bx1 k1 es1 hr1 => ?_, fun r1 p1 x1 r2 p2 x2 b' o1 T1 o2 T2 h1 h2 h3 h4 => ?_, h.ro, h.tb⟩, hp⟩
  · by_cases e : r1 = r
    · subst e; exact h.dom r1 b hb
    · rw [show hangR R r b i j k es r1 = R r1 from upd_ne _ _ e] at hb1
      exact h.dom r1 b1 hb1
  · rcases row_hang hb hbox hi hjl k es hr1 with ⟨rfl, rfl, rfl, rfl, rfl⟩ | ⟨rfl, rfl, rfl, rfl, rfl⟩ | ⟨h1, h2, h3⟩
    · refine ⟨hsh, fun _ i1 j1 hi1 hj1 => ?_, fun hn => hno (by simpa [hangL] using hn), fun bb o T hL => ?_⟩
      · have := flat_cellAt hf hsh hi1 hj1
        cases hcc : cellAt es1 i1 j1 <;> rw [hcc] at this <;> simp [scal] at this <;> simp [cellOk, scal]
      · have hL' : l = some (bb, o, T) := by simpa [hangL] using hL
        obtain ⟨h1, h2, h3, h4, h5⟩ := hyes _ _ _ hL'
        refine ⟨h1, h2, h3, fun i1 j1 hi1 hj1 => ?_⟩
        obtain ⟨v, hv, hV⟩ := h4 i1 j1 hi1 hj1
        have hsc := flat_cellAt hf hsh hi1 hj1
        exact ⟨v, hv, by rw [Cl.other (scal_not_tree hsc)]; exact hVs _ _ hsc hV⟩
    · refine ⟨shape_setAt hroot.shape _ _ _, fun _ i1 j1 hi1 hj1 => ?_, fun hn => ?_, fun bb o T hL => ?_⟩
      · rw [length_setAt] at hi1
        rw [cellAt_setAt]
        split
        · exact ⟨rfl, hf⟩
        · exact hroot.cells hbox i1 j1 hi1 hj1
      · have := hroot.no (by simpa [hangL] using hn)
        rw [this] at hi
        simp at hi
      · have hL' : L r1 none = some (bb, o, T) := by simpa [hangL] using hL
        obtain ⟨h1, h2, h3, h4⟩ := hroot.yes _ _ _ hL'
        refine ⟨h1, h2, by simpa using h3, fun i1 j1 hi1 hj1 => ?_⟩
        rw [length_setAt] at hi1
        rw [cellAt_setAt]
        by_cases e : i1 = i ∧ j1 = j
        · obtain ⟨rfl, rfl⟩ := e
          rw [if_pos ⟨rfl, rfl, hi, hjl⟩]
          obtain ⟨A, cap, h5, h6, h7⟩ := hval _ _ _ hL'
          refine ⟨_, h5, ?_⟩
          simp only [Cl]
          refine ⟨A, cap, rfl, h6, ?_⟩
          simpa [hangL] using h7
        · rw [if_neg (fun h => e ⟨h.1, h.2.1⟩)]
          obtain ⟨v, hv, hV⟩ := h4 i1 j1 hi1 hj1
          rw [hbox] at hV
          refine ⟨v, hv, Cl.mono (Same.refl _ _) hp (fun _ _ _ _ => ?_) hV⟩
          simp only [hangL, true_and, Option.some.injEq, Prod.mk.injEq]
          rw [if_neg e]
    · have h0 := h.rows r1 p1 bx1 k1 es1 h3
      have hLe : hangL L r i j l r1 p1 = L r1 p1 := by simp [hangL, h1]
      refine ⟨h0.shape, h0.cells, fun hn => h0.no (by rw [← hLe]; exact hn), fun bb o T hL => ?_⟩
      rw [hLe] at hL
      obtain ⟨h4, h5, h6, h7⟩ := h0.yes bb o T hL
      refine ⟨h4, h5, h6, fun i1 j1 hi1 hj1 => ?_⟩
      obtain ⟨v, hv, hV⟩ := h7 i1 j1 hi1 hj1
      refine ⟨v, hv, Cl.mono (Same.refl _ _) hp (fun k2 es2 hc2 hb2 => ?_) hV⟩
      -- a row within a row: only at a root
      have hcell := h0.cells hb2 i1 j1 hi1 hj1
      rw [hc2] at hcell
      have hp1 : p1 = none := hcell.1
      subst hp1
      have hne : r1 ≠ r := fun e => h2 ⟨e, rfl⟩
      simp [hangL, hne]
  · have cls : ∀ r1 p1 x1, row (hangR R r b i j k es) r1 p1 = some x1 → (r1 = r ∧ p1 = some (i, j)) ∨ (hangL L r i j l r1 p1 = L r1 p1 ∧ ∃ x0, row R r1 p1 = some x0) := by
      intro r1 p1 x1 h1
      obtain ⟨bx1, k1, es1⟩ := x1
      rcases row_hang hb hbox hi hjl k es h1 with ⟨rfl, rfl, _⟩ | ⟨rfl, rfl, _⟩ | ⟨h2, h3, h4⟩
      · exact .inl ⟨rfl, rfl⟩
      · exact .inr ⟨by simp [hangL], _, row_root hb⟩
      · exact .inr ⟨by simp [hangL, h2], _, h4⟩
    rcases cls _ _ _ h1 with ⟨rfl, rfl⟩ | ⟨e1, y1, hy1⟩
    · rcases cls _ _ _ h2 with ⟨rfl, rfl⟩ | ⟨e2, y2, hy2⟩
      · exact ⟨rfl, rfl⟩
      · have h3' : l = some (b', o1, T1) := by simpa [hangL] using h3
        rw [e2] at h4
        exact ((hyes _ _ _ h3').2.2.2.2 _ _ _ _ _ hy2 h4).elim
    · rcases cls _ _ _ h2 with ⟨rfl, rfl⟩ | ⟨e2, y2, hy2⟩
      · have h4' : l = some (b', o2, T2) := by simpa [hangL] using h4
        rw [e1] at h3
        exact ((hyes _ _ _ h4').2.2.2.2 _ _ _ _ _ hy1 h3).elim
      · rw [e1] at h3
        rw [e2] at h4
        exact h.inj _ _ _ _ _ _ _ _ _ _ _ hy1 hy2 h3 h4
end Go.Proofs.Ytldmpjoddghdkaa.AI
