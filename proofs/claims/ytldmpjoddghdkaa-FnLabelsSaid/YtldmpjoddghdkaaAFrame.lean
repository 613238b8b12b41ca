import Derived.Test.YtldmpjoddghdkaaAMark
namespace Go.Proofs.Ytldmpjoddghdkaa.AI
set_option linter.all false
open Go.RowKit
set_option autoImplicit false
set_option linter.unusedVariables false
set_option linter.unusedSimpArgs false
variable [Tabs]
def outN (fd : List Nat) (n i : Nat) : Nat := match fd[i]? with | some q => q | none => n + (i - fd.length)
def outR (hp : Hp) (fd : List Nat) (r : BRef) : BRef := ⟨outN fd hp.length r.root, r.path, genAt hp (outN fd hp.length r.root) + r.gen⟩
mutual
def back (hp : Hp) (fd : List Nat) : AV → AV
  | .sl r k o l => .sl (outR hp fd r) k o l
  | .ptr r k i o => .ptr (outR hp fd r) k i o
  | .agg cs => .agg (backL hp fd cs)
  | .tup cs => .tup (backL hp fd cs)
  | .fn f cs => .fn f (backL hp fd cs)
  | v => v
def backL (hp : Hp) (fd : List Nat) : List AV → List AV
  | [] => []
  | v :: vs => back hp fd v :: backL hp fd vs
end
def backB (hp : Hp) (fd : List Nat) (g : Nat) : Option Blk → Option Blk
  | some ⟨true, g1, k, es⟩ => some ⟨true, g + g1, k, es.map (backL hp fd)⟩
  | some ⟨false, g1, k, es⟩ => some ⟨false, g + g1, k, es⟩
  | none => none
def oldB (hp1 M : Hp) (fd : List Nat) (i : Nat) (b : Option Blk) : Option Nat → Option Blk
  | some j => backB M fd (genAt M i) (root? hp1 j)
  | none => b
def oldP (hp1 M : Hp) (fd : List Nat) : Nat → Hp → Hp
  | _, [] => []
  | i, b :: bs => oldB hp1 M fd i b (pos fd i) :: oldP hp1 M fd (i + 1) bs
def backHp (hp1 M hp : Hp) (fd : List Nat) : Hp := oldP hp1 M fd 0 hp ++ (hp1.drop fd.length).map (backB M fd 0)
def frameM (h : List AV → Hp → Option (AV × Hp)) (args : List AV) (hp M : Hp) (fd : List Nat) : Option (AV × Hp) :=
  match h (renL M 0 fd args) (fd.map fun r => gen0 (renB M 0 fd (root? M r))) with
  | some (v, hp1) => if fd.length ≤ hp1.length then some (back M fd v, backHp hp1 M hp fd) else none
  | none => none
def frameG (h : List AV → Hp → Option (AV × Hp)) (args : List AV) (hp : Hp) (fd : List Nat) : Option (AV × Hp) :=
  if (among fd 0 0 (rootsL args) && among fd 0 0 (rootsH fd 0 hp)) = true then frameM h args hp (mask fd 0 hp) fd else none
def frame (h : List AV → Hp → Option (AV × Hp)) (args : List AV) (hp : Hp) : Option (AV × Hp) := frameG h args hp (disc hp 0 200 (rootsL args) [])
theorem backL_length {hp : Hp} {fd : List Nat} : ∀ (cs : List AV), (backL hp fd cs).length = cs.length
  | [] => rfl
  | c :: cs => by simp [backL, backL_length cs]
theorem back_cell {hp : Hp} {fd : List Nat} : ∀ (cs : List AV) (j : Nat), (backL hp fd cs).getD j .dead = back hp fd (cs.getD j .dead)
  | [], j => by simp [backL, back]
  | c :: cs, 0 => by simp [backL]
  | c :: cs, j + 1 => by
    have := back_cell (hp := hp) (fd := fd) cs j
    simp only [backL, List.getD_cons_succ]
    exact this
theorem cellAt_back {hp : Hp} {fd : List Nat} (es : List (List AV)) (i j : Nat) : cellAt (es.map (backL hp fd)) i j = back hp fd (cellAt es i j) := by
  unfold cellAt
  by_cases hi : i < es.length
  · have : (es.map (backL hp fd)).getD i [] = backL hp fd (es.getD i []) := by
      simp [List.getD_eq_getElem?_getD, hi]
    rw [this, back_cell]
  · rw [getD_out (l := es.map (backL hp fd)) (by rw [List.length_map]; exact hi), getD_out hi]
    simp [back]
def inN (fd : List Nat) (n r : Nat) : Option Nat := match pos fd r with | some i => some i | none => if r < n then none else some (fd.length + (r - n))
theorem pos_none : ∀ {l : List Nat} {n : Nat}, pos l n = none → n ∉ l
  | [], n, _ => by simp
  | x :: xs, n, h => by
    simp only [pos] at h
    split at h
    · simp at h
    · rename_i hne
      simp only [Option.map_eq_none_iff] at h
      have := pos_none h
      simp [this, Ne.symm hne]
theorem pos_nodup {l : List Nat} (hn : l.Nodup) {n i : Nat} (h : l[i]? = some n) : pos l n = some i := by
  cases e : pos l n with
  | none => exact absurd (List.mem_of_getElem? h) (pos_none e)
  | some j =>
    have h2 := pos_some e
    obtain ⟨g1, g2⟩ := List.getElem?_eq_some_iff.1 h
    obtain ⟨g3, g4⟩ := List.getElem?_eq_some_iff.1 h2
    have := (List.getElem_inj hn).1 (g2.trans g4.symm)
    rw [this]
section
variable {fd : List Nat} {n : Nat} (hnd : fd.Nodup) (hlt : ∀ r ∈ fd, r < n)
include hlt in
theorem inN_out (hnd : fd.Nodup) (i : Nat) : inN fd n (outN fd n i) = some i := by
  unfold outN inN
  cases e : fd[i]? with
  | some q => simp only [pos_nodup hnd e]
  | none =>
    have h1 : fd.length ≤ i := by rw [List.getElem?_eq_none_iff] at e; exact e
    simp only
    cases e2 : pos fd (n + (i - fd.length)) with
    | some j =>
      have := hlt _ (List.mem_of_getElem? (pos_some e2))
      omega
    | none =>
      simp only
      rw [if_neg (by omega)]
      congr 1
      omega
theorem out_inN {r i : Nat} (h : inN fd n r = some i) : outN fd n i = r := by
  unfold inN at h
  split at h
  · rename_i j hj
    simp only [Option.some.injEq] at h
    subst h
    unfold outN
    rw [pos_some hj]
  · rename_i hj
    split at h
    · simp at h
    · rename_i hr
      simp only [Option.some.injEq] at h
      subst h
      unfold outN
      rw [List.getElem?_eq_none (by omega)]
      simp only
      omega
include hlt in
theorem outN_lt {m i : Nat} (h : i < m) (hm : fd.length ≤ m) : outN fd n i < n + (m - fd.length) := by
  unfold outN
  cases e : fd[i]? with
  | some q => have := hlt _ (List.mem_of_getElem? e); simp only; omega
  | none =>
    have h1 : fd.length ≤ i := by rw [List.getElem?_eq_none_iff] at e; exact e
    simp only; omega
theorem outN_in {m i : Nat} (h : i < m) (hm : fd.length ≤ m) : has fd (outN fd n i) = true ∨ (n ≤ outN fd n i ∧ outN fd n i < n + (m - fd.length)) := by
  unfold outN
  cases e : fd[i]? with
  | some q => exact .inl (has_iff.2 (List.mem_of_getElem? e))
  | none =>
    have h1 : fd.length ≤ i := by rw [List.getElem?_eq_none_iff] at e; exact e
    right; simp only; omega
end
def backRf (hp1 hp : Hp) (fd : List Nat) : Rf := fun r => match inN fd hp.length r with | some i => backB hp fd (genAt hp r) (root? hp1 i) | none => none
def backLf (L1 : Lf) (fd : List Nat) (n : Nat) : Lf := fun r p => match inN fd n r with | some i => L1 i p | none => none
theorem backRf_old {hp1 hp : Hp} {fd : List Nat} {r : Nat} {b' : Blk} (h : backRf hp1 hp fd r = some b') : ∃ i b, inN fd hp.length r = some i ∧ root? hp1 i = some b ∧ b'.box = b.box ∧ b'.k = b.k ∧ b'.es = (if b.box then b.es.map (backL hp fd) else b.es) ∧ b'.gen = genAt hp r + b.gen := by
  unfold backRf at h
  split at h
  · rename_i i hi
    cases e : root? hp1 i with
    | none => rw [e] at h; simp [backB] at h
    | some b =>
      rw [e] at h
      obtain ⟨bx, g, k, es⟩ := b
      cases bx <;> simp only [backB, Option.some.injEq] at h <;> subst h <;> exact ⟨i, _, hi, e, rfl, rfl, by simp, rfl⟩
  · simp at h
theorem row_back' {hp1 hp : Hp} {fd : List Nat} {r : Nat} {p : Option (Nat × Nat)} {bx : Bool} {k : Nat} {es' : List (List AV)} (h : row (backRf hp1 hp fd) r p = some (bx, k, es')) :
    ∃ i es, inN fd hp.length r = some i ∧ row (root? hp1) i p = some (bx, k, es) ∧ es' = (if bx then es.map (backL hp fd) else es) := by
  obtain ⟨b', hb'⟩ := row_some h
  obtain ⟨i, b, h1, h2, h3, h4, h5, h6⟩ := backRf_old hb'
  cases p with
  | none =>
    rw [row_root hb'] at h
    simp only [Option.some.injEq, Prod.mk.injEq] at h
    obtain ⟨rfl, rfl, rfl⟩ := h
    exact ⟨i, b.es, h1, by rw [row_root h2, h3, h4], by rw [h5, h3]⟩
  | some q =>
    obtain ⟨a, c⟩ := q
    rw [row_cell_iff hb'] at h
    obtain ⟨e1, rfl, e2⟩ := h
    rw [h3] at e1
    rw [h5, e1] at e2
    exact ⟨i, es', h1, (row_cell_iff h2).2 ⟨e1, rfl, by simpa using e2⟩, by simp⟩
section
variable {RO : Bx} {w : World} {hp1 hp : Hp} {fd : List Nat} {L1 : Lf} (hnd : fd.Nodup) (hlt : ∀ r ∈ fd, r < hp.length) (hm : fd.length ≤ hp1.length)
theorem getB_backR (hnd : fd.Nodup) (hlt : ∀ r ∈ fd, r < hp.length) {r : BRef} {bx : Bool} {k : Nat} {es' : List (List AV)} (h : getB (backRf hp1 hp fd) (outR hp fd r) = some (bx, k, es')) : ∃ es, getB (root? hp1) r = some (bx, k, es) ∧ es' = (if bx then es.map (backL hp fd) else es) := by
  obtain ⟨i, es, e1, e2, e3⟩ := row_back' (getB_row h)
  have e0 : inN fd hp.length (outN fd hp.length r.root) = some r.root := inN_out hlt hnd _
  simp only [outR] at e1
  rw [e0] at e1
  simp only [Option.some.injEq] at e1
  subst e1
  simp only [outR] at e2
  refine ⟨es, ?_, e3⟩
  obtain ⟨b, hb⟩ := row_some e2
  obtain ⟨rr, rp, rg⟩ := r
  rcases getB_gen h with h1 | ⟨b', h1, h2⟩
  · simp only [outR] at h1
    simp only at e2 hb
    rw [h1] at e2 ⊢
    rw [row_root hb] at e2
    simp only [getB, hb]
    exact e2
  · obtain ⟨i', b1, f1, f2, _, _, _, f6⟩ := backRf_old h1
    simp only [outR] at f1 f6 h2
    simp only at e0
    rw [e0] at f1
    simp only [Option.some.injEq] at f1
    subst f1
    refine getB_of_row e2 (fun b2 hb2 => ?_)
    rw [f2] at hb2
    simp only [Option.some.injEq] at hb2
    rw [← hb2]
    omega
mutual
theorem V_back (hnd : fd.Nodup) (hlt : ∀ r ∈ fd, r < hp.length) (hm : fd.length ≤ hp1.length) : ∀ (v : AV) (x : Value), V RO w (root? hp1) hp1.length L1 v x → V RO w (backRf hp1 hp fd) (hp.length + (hp1.length - fd.length)) (backLf L1 fd hp.length) (back hp fd v) x
  | .sl r k o l, x, h => by
    simp only [back]
    simp only [V] at h ⊢
    obtain ⟨h1, h2, h3, h4⟩ := h
    have e0 : inN fd hp.length (outN fd hp.length r.root) = some r.root := inN_out hlt hnd _
    refine ⟨outN_lt hlt h1 hm, fun b' hb' hpath => ?_, h3, fun es he => ?_⟩
    · obtain ⟨i, b, f1, f2, _, _, _, f6⟩ := backRf_old hb'
      simp only [outR] at f1 f6 hpath ⊢
      rw [e0] at f1
      simp only [Option.some.injEq] at f1
      subst f1
      have := h2 b f2 hpath
      omega
    · obtain ⟨es0, e1, e2⟩ := getB_backR hnd hlt he
      simp only [Bool.false_eq_true, if_false] at e2
      subst e2
      obtain ⟨f1, A', cap, f2, f3, f4⟩ := h4 _ e1
      refine ⟨f1, A', cap, f2, f3, ?_⟩
      rcases f4 with f4 | ⟨b, oo, T, f4, f5⟩
      · exact .inl f4
      · exact .inr ⟨b, oo, T, by simp only [backLf, outR, e0]; exact f4, f5⟩
  | .ptr r k i o, x, h => by
    simp only [back]
    simp only [V] at h ⊢
    obtain ⟨h1, h2, h3, h4⟩ := h
    have e0 : inN fd hp.length (outN fd hp.length r.root) = some r.root := inN_out hlt hnd _
    refine ⟨outN_lt hlt h1 hm, fun b' hb' hpath => ?_, h3, fun bx es he hi => ?_⟩
    · obtain ⟨i, b, f1, f2, _, _, _, f6⟩ := backRf_old hb'
      simp only [outR] at f1 f6 hpath ⊢
      rw [e0] at f1
      simp only [Option.some.injEq] at f1
      subst f1
      have := h2 b f2 hpath
      omega
    · obtain ⟨es0, e1, e2⟩ := getB_backR hnd hlt he
      obtain ⟨b, oo, T, f4, f5⟩ := h4 _ _ e1 (by rw [e2] at hi; split at hi <;> simpa using hi)
      exact ⟨b, oo, T, by simp only [backLf, outR, e0]; exact f4, f5⟩
  | .agg cs, x, h => by
    simp only [back, V] at h ⊢
    obtain ⟨vs, e, hv⟩ := h
    exact ⟨vs, e, VL_back hnd hlt hm cs vs.toList hv⟩
  | .tup cs, x, h => by
    simp only [back, V] at h ⊢
    obtain ⟨vs, e, hv⟩ := h
    exact ⟨vs, e, VL_back hnd hlt hm cs vs.toList hv⟩
  | .fn f cs, x, h => by
    simp only [back, V] at h ⊢
    obtain ⟨vs, e, hv⟩ := h
    exact ⟨vs, e, VL_back hnd hlt hm cs vs.toList hv⟩
  | .dead, x, h => by simp [back, V]
  | .gone, x, h => by simpa only [back, V] using h
  | .nil k, x, h => by simpa only [back, V] using h
  | .pnil, x, h => by simpa only [back, V] using h
  | .inil, x, h => by simpa only [back, V] using h
  | .fnil, x, h => by simpa only [back, V] using h
  | .bool _, x, h => by simpa only [back, V] using h
  | .int _ _, x, h => by simpa only [back, V] using h
  | .str _, x, h => by simpa only [back, V] using h
  | .tree _ _, x, h => by simpa only [back, V] using h
  | .rp _ _, x, h => by simpa only [back, V] using h
theorem VL_back (hnd : fd.Nodup) (hlt : ∀ r ∈ fd, r < hp.length) (hm : fd.length ≤ hp1.length) : ∀ (cs : List AV) (vs : List Value), VL RO w (root? hp1) hp1.length L1 cs vs → VL RO w (backRf hp1 hp fd) (hp.length + (hp1.length - fd.length)) (backLf L1 fd hp.length) (backL hp fd cs) vs
  | [], [], _ => by simp [backL, VL]
  | c :: cs, v :: vs, h => by
    simp only [backL, VL] at h ⊢
    exact ⟨V_back hnd hlt hm c v h.1, VL_back hnd hlt hm cs vs h.2⟩
  | [], _ :: _, h => by simp [VL] at h
  | _ :: _, [], h => by simp [VL] at h
end
theorem HRel.back (h : HRel RO w (root? hp1) hp1.length L1) (hnd : fd.Nodup) (hlt : ∀ r ∈ fd, r < hp.length) (hm : fd.length ≤ hp1.length) : HRel RO w (backRf hp1 hp fd) (hp.length + (hp1.length - fd.length)) (backLf L1 fd hp.length) where
  dom := fun r b hr => by
    obtain ⟨i, b0, h1, h2, _⟩ := backRf_old hr
    have := outN_lt (n := hp.length) hlt (root_lt h2) hm
    rw [out_inN h1] at this
    exact this
  ro := h.ro
  tb := h.tb
  inj := fun r p x r' p' x' b o T o' T' h1 h2 h3 h4 => by
    obtain ⟨bx, k, es⟩ := x
    obtain ⟨bx', k', es'⟩ := x'
    obtain ⟨i, es0, e1, e2, _⟩ := row_back' h1
    obtain ⟨i', es0', e1', e2', _⟩ := row_back' h2
    simp only [backLf, e1] at h3
    simp only [backLf, e1'] at h4
    obtain ⟨e5, e6⟩ := h.inj _ _ _ _ _ _ _ _ _ _ _ e2 e2' h3 h4
    subst e5
    exact ⟨(out_inN e1).symm.trans (out_inN e1'), e6⟩
  rows := fun r p bx k es' hr => by
    obtain ⟨i, es, e1, e2, e3⟩ := row_back' hr
    have h0 := h.rows _ _ _ _ _ e2
    have eL : ∀ q, backLf L1 fd hp.length r q = L1 i q := fun q => by simp only [backLf, e1]
    refine ⟨?_, ?_, fun hn => ?_, fun b o T hL => ?_⟩
    · intro e he
      rw [e3] at he
      split at he
      · obtain ⟨e0, h1, rfl⟩ := List.mem_map.1 he
        rw [backL_length]; exact h0.shape e0 h1
      · exact h0.shape e he
    · intro hbx i j hi hj
      rw [hbx] at e3
      simp only [Bool.false_eq_true, if_false] at e3
      subst e3
      exact h0.cells hbx i j hi hj
    · rw [eL] at hn
      rw [e3, h0.no hn]; simp
    · rw [eL] at hL
      obtain ⟨f1, f2, f3, f4⟩ := h0.yes _ _ _ hL
      have hlen : es'.length = es.length := by rw [e3]; split <;> simp
      refine ⟨f1, f2, by rw [hlen]; exact f3, fun a j hi hj => ?_⟩
      obtain ⟨v, hv, hC⟩ := f4 a j (by rw [← hlen]; exact hi) hj
      refine ⟨v, hv, ?_⟩
      cases bx with
      | true =>
        simp only [if_true] at e3
        rw [e3, cellAt_back, Cl.box]
        rw [Cl.box] at hC
        exact V_back hnd hlt hm _ _ hC
      | false =>
        simp only [Bool.false_eq_true, if_false] at e3
        subst e3
        have hok := h0.cells rfl a j (by rw [← hlen]; exact hi) hj
        by_cases ht : ∃ k1 e1, cellAt es' a j = .tree k1 e1
        · obtain ⟨k1, e5, ht⟩ := ht
          rw [ht] at hC ⊢
          simp only [Cl] at hC ⊢
          rw [eL]
          exact hC
        · have hno : ∀ k1 e1, cellAt es' a j ≠ .tree k1 e1 := fun k1 e1 e => ht ⟨k1, e1, e⟩
          rw [Cl.other hno] at hC ⊢
          cases hcc : cellAt es' a j <;> rw [hcc] at hok hC <;> first | (exact V_scal rfl hC) | (simp only [V]; done) | (exact absurd hcc (hno _ _)) | (simp [cellOk, scal] at hok)
end
theorem genAt_some {hp : Hp} {r : Nat} {b : Blk} (h : root? hp r = some b) : genAt hp r = b.gen := by simp [genAt, h]
theorem HRel.up {RO : Bx} {w : World} {R : Rf} {nx nx' : Nat} {L : Lf} (h : HRel RO w R nx L) (hle : nx ≤ nx') : HRel RO w R nx' L := by
  have hp : Pres R nx L R nx' L := ⟨hle, fun r b' _ hb => ⟨b', hb, Nat.le_refl _⟩, fun r _ _ bx k es he => ⟨es, he, rfl, rfl⟩⟩
  refine ⟨fun r b hr => Nat.lt_of_lt_of_le (h.dom r b hr) hle, fun r p bx k es hr => ?_, h.inj, h.ro, h.tb⟩
  have h0 := h.rows _ _ _ _ _ hr
  refine ⟨h0.shape, h0.cells, h0.no, fun b o T hL => ?_⟩
  obtain ⟨f1, f2, f3, f4⟩ := h0.yes _ _ _ hL
  refine ⟨f1, f2, f3, fun i j hi hj => ?_⟩
  obtain ⟨v, hv, hC⟩ := f4 i j hi hj
  exact ⟨v, hv, Cl.mono (Same.refl _ _) hp (fun _ _ _ _ => rfl) hC⟩
theorem pres_back' {M hp1 : Hp} {fd : List Nat} {L L1 : Lf} (hf : Found M 0 fd) (hm : fd.length ≤ hp1.length) (h : Pres (root? (newHp M 0 fd)) (newHp M 0 fd).length (newLf L 0 fd) (root? hp1) hp1.length L1) :
    Pres (root? M) M.length L (backRf hp1 M fd) (M.length + (hp1.length - fd.length)) (backLf L1 fd M.length) := by
  have hlt : ∀ r ∈ fd, r < M.length := fun r hr => by obtain ⟨b, hb⟩ := hf.live r hr; exact root_lt hb
  have hlen : (newHp M 0 fd).length = fd.length := by rw [newHp_length (Nat.zero_le _)]; omega
  rw [hlen] at h
  have low : ∀ r i, r < M.length → inN fd M.length r = some i → i < fd.length ∧ fd[i]? = some r := by
    intro r i hr hi
    unfold inN at hi
    split at hi
    · rename_i j hj
      simp only [Option.some.injEq] at hi
      subst hi
      have := pos_some hj
      exact ⟨(List.getElem?_eq_some_iff.1 this).1, this⟩
    · rw [if_pos hr] at hi; simp at hi
  refine ⟨by omega, fun r b' hr hb' => ?_, fun r hr hg bx k es' he => ?_⟩
  · obtain ⟨i, b, h1, h2, _, _, _, h6⟩ := backRf_old hb'
    obtain ⟨h7, h8⟩ := low r i hr h1
    obtain ⟨b0, hb0⟩ := hf.live r (List.mem_of_getElem? h8)
    exact ⟨b0, hb0, by rw [h6, genAt_some hb0]; omega⟩
  · obtain ⟨i, es1, e1, e2, e3⟩ := row_back' (getB_row he)
    obtain ⟨h7, h8⟩ := low r.root i hr e1
    obtain ⟨b0, hb0⟩ := hf.live r.root (List.mem_of_getElem? h8)
    have hold : oldOf 0 fd i = some r.root := by simp [oldOf, h8]
    -- within, the row is named by generation 0
    have hg1 : getB (root? hp1) ⟨i, r.path, 0⟩ = some (bx, k, es1) := by
      obtain ⟨b1, hb1⟩ := row_some e2
      cases hpth : r.path with
      | none =>
        rw [hpth] at e2
        rw [row_root hb1] at e2
        simp only [getB, hb1]
        exact e2
      | some q =>
        rw [hpth] at e2
        rcases getB_gen he with h9 | ⟨b', h9, h10⟩
        · rw [hpth] at h9; simp at h9
        · obtain ⟨i', b2, f1, f2, _, _, _, f6⟩ := backRf_old h9
          rw [e1] at f1
          simp only [Option.some.injEq] at f1
          subst f1
          refine getB_of_row e2 (fun b3 hb3 => ?_)
          rw [f2] at hb3
          simp only [Option.some.injEq] at hb3
          subst hb3
          have := hg b0 hb0 (by rw [hpth]; simp)
          rw [genAt_some hb0] at f6
          omega
    obtain ⟨es2, k1, k2, k3⟩ := h.keep ⟨i, r.path, 0⟩ h7 (fun b hb hp => by simp only; omega) bx k es1 hg1
    obtain ⟨r0, es3, m1, m2, m3⟩ := row_new (Nat.zero_le _) (getB_row k1)
    simp only at m1 m2
    rw [hold] at m1
    simp only [Option.some.injEq] at m1
    subst m1
    refine ⟨es3, ?_, ?_, ?_⟩
    · obtain ⟨rr, rp, rg⟩ := r
      cases rp with
      | none => 
        simp only at m2 hb0 ⊢
        rw [row_root hb0] at m2
        simp only [getB, hb0]
        exact m2
      | some q =>
        refine getB_of_row m2 (fun b2 hb2 => ?_)
        simp only at hb0 hb2
        rw [hb0] at hb2
        simp only [Option.some.injEq] at hb2
        subst hb2
        rcases getB_gen he with h9 | ⟨b', h9, h10⟩
        · simp at h9
        · obtain ⟨i', b1, f1, f2, _, _, _, f6⟩ := backRf_old h9
          have := hg b0 hb0 (by simp)
          simp only at h10 f6 this
          rw [genAt_some hb0] at f6
          omega
    · rw [e3]; rw [m3] at k2; revert k2; split <;> simp <;> omega
    · simp only [backLf, e1]
      simp only at k3
      rw [k3, newLf_old hold]
mutual
theorem back_roots {M : Hp} {fd : List Nat} : ∀ (v : AV) (q : Nat), q ∈ roots (back M fd v) → ∃ q0 ∈ roots v, q = outN fd M.length q0
  | .sl r k o l, q, h => by simp only [back, roots, List.mem_singleton, outR] at h ⊢; exact ⟨r.root, rfl, h⟩
  | .ptr r k i o, q, h => by simp only [back, roots, List.mem_singleton, outR] at h ⊢; exact ⟨r.root, rfl, h⟩
  | .agg cs, q, h => by simp only [back, roots] at h ⊢; exact backL_roots cs q h
  | .tup cs, q, h => by simp only [back, roots] at h ⊢; exact backL_roots cs q h
  | .fn f cs, q, h => by simp only [back, roots] at h ⊢; exact backL_roots cs q h
  | .dead, q, h => by simp [back, roots] at h
  | .gone, q, h => by simp [back, roots] at h
  | .nil k, q, h => by simp [back, roots] at h
  | .pnil, q, h => by simp [back, roots] at h
  | .inil, q, h => by simp [back, roots] at h
  | .fnil, q, h => by simp [back, roots] at h
  | .bool _, q, h => by simp [back, roots] at h
  | .int _ _, q, h => by simp [back, roots] at h
  | .str _, q, h => by simp [back, roots] at h
  | .tree _ _, q, h => by simp [back, roots] at h
  | .rp _ _, q, h => by simp [back, roots] at h
theorem backL_roots {M : Hp} {fd : List Nat} : ∀ (cs : List AV) (q : Nat), q ∈ rootsL (backL M fd cs) → ∃ q0 ∈ rootsL cs, q = outN fd M.length q0
  | [], q, h => by simp [backL, rootsL] at h
  | c :: cs, q, h => by
    simp only [backL, rootsL, List.mem_append] at h ⊢
    rcases h with h | h
    · obtain ⟨q0, h1, h2⟩ := back_roots c q h
      exact ⟨q0, .inl h1, h2⟩
    · obtain ⟨q0, h1, h2⟩ := backL_roots cs q h
      exact ⟨q0, .inr h1, h2⟩
end
theorem oldP_length {hp1 M : Hp} {fd : List Nat} : ∀ (i : Nat) (hp : Hp), (oldP hp1 M fd i hp).length = hp.length
  | _, [] => rfl
  | i, b :: bs => by simp [oldP, oldP_length (i + 1) bs]
theorem oldP_get {hp1 M : Hp} {fd : List Nat} : ∀ (i : Nat) (hp : Hp) (r : Nat), (oldP hp1 M fd i hp)[r]? = (hp[r]?).map fun b => oldB hp1 M fd (i + r) b (pos fd (i + r))
  | _, [], r => by simp [oldP]
  | i, b :: bs, 0 => by simp [oldP]
  | i, b :: bs, r + 1 => by
    simp only [oldP, List.getElem?_cons_succ]
    rw [oldP_get (i + 1) bs r, show i + 1 + r = i + (r + 1) by omega]
theorem backHp_length {hp1 M hp : Hp} {fd : List Nat} : (backHp hp1 M hp fd).length = hp.length + (hp1.length - fd.length) := by
  simp [backHp, oldP_length]
theorem genAt_out {hp : Hp} {r : Nat} (h : hp.length ≤ r) : genAt hp r = 0 := by simp [genAt, root_out h]
theorem back_root {hp1 hp : Hp} {fd : List Nat} (hlt : ∀ r ∈ fd, r < hp.length) (r : Nat) : root? (backHp hp1 (mask fd 0 hp) hp fd) r = joinR (fun q => has fd q = true) hp.length (hp.length + (hp1.length - fd.length)) (root? hp) (backRf hp1 (mask fd 0 hp) fd) r := by
  have hML : (mask fd 0 hp).length = hp.length := mask_length _ _ _
  unfold joinR
  by_cases h1 : r < hp.length
  · have e1 : root? (backHp hp1 (mask fd 0 hp) hp fd) r = oldB hp1 (mask fd 0 hp) fd r (root? hp r) (pos fd r) := by
      unfold root? backHp
      rw [List.getElem?_append_left (by rw [oldP_length]; exact h1), oldP_get, Nat.zero_add]
      cases e : hp[r]? with
      | none => rw [List.getElem?_eq_none_iff] at e; omega
      | some b => rfl
    rw [e1]
    cases e : pos fd r with
    | none =>
      have : ¬ (has fd r = true ∨ (hp.length ≤ r ∧ r < hp.length + (hp1.length - fd.length))) := by
        rintro (h | h)
        · exact pos_none e (has_iff.1 h)
        · omega
      rw [if_neg this]
      rfl
    | some j =>
      rw [if_pos (.inl (has_iff.2 (List.mem_of_getElem? (pos_some e))))]
      simp only [oldB, backRf, inN, e]
  · have hr : hp.length ≤ r := by omega
    have e0 : pos fd r = none := by
      cases e : pos fd r with
      | none => rfl
      | some j => have := hlt _ (List.mem_of_getElem? (pos_some e)); omega
    have e1 : root? (backHp hp1 (mask fd 0 hp) hp fd) r = backB (mask fd 0 hp) fd 0 (root? hp1 (fd.length + (r - hp.length))) := by
      unfold root? backHp
      rw [List.getElem?_append_right (by rw [oldP_length]; exact hr), oldP_length, List.getElem?_map, List.getElem?_drop]
      cases e : hp1[fd.length + (r - hp.length)]? with
      | none => rfl
      | some b => rfl
    rw [e1]
    by_cases h2 : r < hp.length + (hp1.length - fd.length)
    · rw [if_pos (.inr ⟨hr, h2⟩)]
      simp only [backRf, inN, e0, hML]
      rw [if_neg h1]
      simp only [genAt_out (hp := mask fd 0 hp) (by rw [hML]; exact hr)]
    · have : ¬ (has fd r = true ∨ (hp.length ≤ r ∧ r < hp.length + (hp1.length - fd.length))) := by
        rintro (h | h)
        · exact pos_none e0 (has_iff.1 h)
        · omega
      rw [if_neg this, root_out (hp := hp1) (by omega), root_out hr]
      rfl
theorem frame_ok {P : Program} {f : FuncId} {g : List AV → Hp → Option (AV × Hp)} (hg : InlOk P f g) : InlOk P f (frame g) := by
  refine ⟨hg.1, ?_⟩
  intro RO w hp L avs args v hp' hrel hV hcall
  unfold frame at hcall
  have hf0 : Found hp 0 (disc hp 0 200 (rootsL avs) []) := disc_found _ _ _ _ _ ⟨by simp, by simp, by simp⟩
  generalize disc hp 0 200 (rootsL avs) [] = fd at hcall hf0
  unfold frameG at hcall
  split at hcall
  case isFalse => simp at hcall
  rename_i hcl
  simp only [Bool.and_eq_true] at hcl
  obtain ⟨hcl1, hcl2⟩ := hcl
  have hlt : ∀ r ∈ fd, r < hp.length := fun r hr => by obtain ⟨b, hb⟩ := hf0.live r hr; exact root_lt hb
  let F : Nat → Prop := fun q => has fd q = true
  have hF : ∀ r, F r → r < hp.length := fun r hr => hlt r (has_iff.1 hr)
  have hclose : ∀ r b, F r → root? hp r = some b → ∀ q ∈ rootsB (some b), F q := by
    intro r b hr hb q hq
    rcases among_iff hcl2 (rootsH_mem fd 0 hp r (some b) q (root_get hb) (by rw [Nat.zero_add]; exact hr) hq) with h | h
    · exact h
    · omega
  have hML : (mask fd 0 hp).length = hp.length := mask_length _ _ _
  have hMR : root? (mask fd 0 hp) = part F (root? hp) := funext fun r => by rw [mask_root]; rfl
  have hv := HRel.view F hrel hF hclose
  rw [← hMR, ← hML] at hv
  have hfM : Found (mask fd 0 hp) 0 fd := ⟨hf0.nodup, hf0.ge, fun r hr => by
    obtain ⟨b, hb⟩ := hf0.live r hr
    exact ⟨b, by rw [mask_root, if_pos (has_iff.2 hr)]; exact hb⟩⟩
  have hrn := hv.rename (Nat.zero_le _) hfM
  have hVM : VL (RO.but (root? hp) L F) w (root? (mask fd 0 hp)) (mask fd 0 hp).length L avs args.toList := by
    have h1 : VL RO w (root? (mask fd 0 hp)) (mask fd 0 hp).length L avs args.toList := VL_on (Same.refl RO w) _ _ (fun q hq => by
      have hq' : F q := by
        rcases among_iff hcl1 hq with h | h
        · exact h
        · omega
      exact OkRoot.of_eq (by rw [hML]; exact hF q hq') (by rw [hMR]; simp [part, hq']) (fun _ => rfl)) hV
    exact VL_more (RO := RO) (RO' := RO.but (root? hp) L F) (fun B hB => hB) _ _ h1
  have hVn := VL_ren (base := 0) (fd := fd) (Nat.zero_le _) _ _ hVM
  have hnew : newHp (mask fd 0 hp) 0 fd = fd.map fun r => gen0 (renB (mask fd 0 hp) 0 fd (root? (mask fd 0 hp) r)) := by simp [newHp]
  have hnl : (newHp (mask fd 0 hp) 0 fd).length = 0 + fd.length := newHp_length (Nat.zero_le _)
  unfold frameM at hcall
  rw [← hnew] at hcall
  rw [← hnl] at hrn hVn
  split at hcall
  case h_2 => simp at hcall
  rename_i v1 hp1 hrun
  split at hcall
  case isFalse => simp at hcall
  rename_i hm
  simp only [Option.some.injEq, Prod.mk.injEq] at hcall
  obtain ⟨rfl, rfl⟩ := hcall
  refine Calls.mono (hg.2 _ _ _ _ _ _ _ _ hrn hVn hrun) ?_
  rintro e w' ⟨x, L1, rfl, adv, hVx⟩
  have hltM : ∀ r ∈ fd, r < (mask fd 0 hp).length := fun r hr => by rw [hML]; exact hlt r hr
  have b1 := adv.rel.back hf0.nodup hltM hm
  have b2 := pres_back' hfM hm adv.pres
  have b3 := V_back hf0.nodup hltM hm _ _ hVx
  rw [hML] at b1 b2 b3
  rw [hMR] at b2
  have adv3 : Adv (RO.but (root? hp) L F) w (part F (root? hp)) hp.length L w' (backRf hp1 (mask fd 0 hp) fd) (hp.length + (hp1.length - fd.length)) (backLf L1 fd hp.length) := ⟨b1, b2, adv.same, adv.size, adv.os, adv.tape, adv.output⟩
  have hup := hrel.up (nx' := hp.length + (hp1.length - fd.length)) (by omega)
  have hcl3 : ∀ r b, backRf hp1 (mask fd 0 hp) fd r = some b → ∀ q ∈ rootsB (some b), F q ∨ (hp.length ≤ q ∧ q < hp.length + (hp1.length - fd.length)) := by
    intro r b hb q hq
    have hb' := hb
    obtain ⟨i, b0, h1, h2, h3, h4, h5, h6⟩ := backRf_old hb
    obtain ⟨bx, gg, k, es⟩ := b
    cases bx with
    | false => simp [rootsB] at hq
    | true =>
      simp only at h3 h5
      rw [← h3] at h5
      simp only [if_true] at h5
      simp only [rootsB, h5, List.mem_flatten, List.mem_map] at hq
      obtain ⟨l, ⟨e1, ⟨e0, he0, rfl⟩, rfl⟩, hq⟩ := hq
      obtain ⟨c, hc, hq⟩ := rootsL_iff.1 hq
      -- which cell it is
      have key : ∀ (cs : List AV) (c : AV), c ∈ backL (mask fd 0 hp) fd cs → ∃ c0 ∈ cs, c = back (mask fd 0 hp) fd c0 := by
        intro cs
        induction cs with
        | nil => intro c hc; simp [backL] at hc
        | cons a cs ih =>
          intro c hc
          simp only [backL, List.mem_cons] at hc
          rcases hc with rfl | hc
          · exact ⟨a, by simp, rfl⟩
          · obtain ⟨c0, h1, h2⟩ := ih c hc
            exact ⟨c0, by simp [h1], h2⟩
      obtain ⟨c0, hc0, rfl⟩ := key e0 c hc
      have hq1 : ∀ q0 ∈ roots c0, q0 < hp1.length := fun q0 hq0 => adv.rel.rootsB_lt h2 (by
        obtain ⟨bx0, g0, k0, es0⟩ := b0
        simp only at h3
        subst h3
        simp only [rootsB, List.mem_flatten, List.mem_map]
        exact ⟨rootsL e0, ⟨e0, he0, rfl⟩, rootsL_mem hc0 hq0⟩)
      have kb := back_roots (M := mask fd 0 hp) (fd := fd) c0 q hq
      obtain ⟨q0, hq0, rfl⟩ := kb
      have := outN_in (n := (mask fd 0 hp).length) (hq1 q0 hq0) hm
      rw [hML] at this ⊢
      exact this
  obtain ⟨h5, h6⟩ := HRel.merge F hup hF (by omega) (Nat.le_refl _) (fun r b hb q hq => by have := hrel.rootsB_lt hb hq; omega) adv3 hcl3
  have hroot : root? (backHp hp1 (mask fd 0 hp) hp fd) = joinR F hp.length (hp.length + (hp1.length - fd.length)) (root? hp) (backRf hp1 (mask fd 0 hp) fd) := funext fun r => back_root hlt r
  refine ⟨x, joinL F hp.length (hp.length + (hp1.length - fd.length)) L (backLf L1 fd hp.length), rfl, ⟨?_, ?_, h6, adv.size, adv.os, adv.tape, adv.output⟩, ?_⟩
  · rw [hroot, backHp_length]; exact h5
  · rw [hroot, backHp_length]
    refine Pres.step (Pres.refl _ _ _) (by omega) (fun q hq => ?_)
    have := ok_join F hup hF (Nat.le_refl _) adv3 (q := q) (by omega) (by omega)
    exact this
  · rw [hroot, backHp_length]
    have hx2 : V RO w' (backRf hp1 (mask fd 0 hp) fd) (hp.length + (hp1.length - fd.length)) (backLf L1 fd hp.length) (back (mask fd 0 hp) fd v1) x := V_more (RO := RO.but (root? hp) L F) (RO' := RO) (fun B hB => hB) _ _ b3
    refine V_on (Same.refl RO w') _ x (fun q hq => ?_) hx2
    have hin : F q ∨ (hp.length ≤ q ∧ q < hp.length + (hp1.length - fd.length)) := by
      obtain ⟨q0, hq0, rfl⟩ := back_roots (M := mask fd 0 hp) (fd := fd) v1 q hq
      have := outN_in (n := (mask fd 0 hp).length) (V_roots v1 x hVx q0 hq0) hm
      rw [hML] at this ⊢
      exact this
    refine OkRoot.of_eq ?_ ?_ (fun p => ?_)
    · rcases hin with h' | h'
      · have := hF q h'; omega
      · omega
    · simp [joinR, hin]
    · simp [joinL, hin]
end Go.Proofs.Ytldmpjoddghdkaa.AI
