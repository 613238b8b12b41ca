import Derived.Test.YtldmpjoddghdkaaAOps2
namespace Go.Proofs.Ytldmpjoddghdkaa.AI
set_option linter.all false
open Go.RowKit
set_option autoImplicit false
set_option linter.unusedVariables false
set_option linter.unusedSimpArgs false
variable [Tabs]
theorem root_set (hp : Hp) (n : Nat) (b : Option Blk) (h : n < hp.length) : root? (hp.set n b) = upd (root? hp) n b := by
  funext m
  unfold root? upd
  by_cases e : m = n
  · subst e; simp [h]
  · simp [e, List.getElem?_set, Ne.symm e]
theorem root_push (hp : Hp) (b : Option Blk) : root? (hp ++ [b]) = upd (root? hp) hp.length b := by
  funext m
  unfold root? upd
  by_cases e : m = hp.length
  · subst e; simp
  · rw [if_neg e]
    show _ = (hp[m]?).join
    by_cases h : m < hp.length
    · rw [List.getElem?_append_left h]
    · rw [List.getElem?_append_right (by omega), List.getElem?_eq_none (by simp; omega), List.getElem?_eq_none (by omega)]
theorem root_lt {hp : Hp} {n : Nat} {b : Blk} (h : root? hp n = some b) : n < hp.length := by
  unfold root? at h
  rcases Nat.lt_or_ge n hp.length with h1 | h1
  · exact h1
  · rw [List.getElem?_eq_none h1] at h; simp at h
section
variable {P : Program} {RO : Bx} {w : World} {R : Rf} {nx : Nat} {L : Lf} {tm : List (Nat × AV)} {a : Act}
def fresh (RO : Bx) (w : World) (R : Rf) (nx : Nat) (L : Lf) (bx : Bool) (c : AV) (v : Value) : Prop :=
  if bx then V RO w R nx L c v else (scal c = true ∧ V RO w R nx L c v) ∨ (∃ k, c = .tree k [] ∧ v = .slice none 0 0) ∨ c = .dead
def newL (L : Lf) (n : Nat) (l : Option (Nat × Nat × Nat)) : Lf := fun r p => if r = n then (match p with | none => l | some _ => none) else L r p
theorem HRel.grow (h : HRel RO w R nx L) (o : Obj) : HRel RO (w.alloc o) R nx L := by
  refine h.world ?_ (by simp) ?_
  · intro B hB
    exact Below.heap_alloc w o B (h.ro B hB)
  · intro r p x b o' T hr hL i hi
    obtain ⟨bx, k, es⟩ := x
    have hm := ((h.rows _ _ _ _ _ hr).yes _ _ _ hL).2.1
    exact ⟨World.cell?_alloc_lt w o _ hm.lt, World.frozen?_alloc_old w o _ (Nat.ne_of_lt hm.lt)⟩
theorem HRel.drew (h : HRel RO w R nx L) : HRel RO w.drew R nx L := h.world (fun B _ => rfl) (Nat.le_refl _) (fun _ _ _ _ _ _ _ _ _ _ => ⟨rfl, rfl⟩)
theorem HRel.make (h : HRel RO w R nx L) (ety : TypeId) (vs : Array Value) (blk : Blk) (hsh : ∀ e ∈ blk.es, e.length = blk.k) (hlen : blk.es.length * blk.k ≤ vs.size)
    (hc : ∀ i j, i < blk.es.length → j < blk.k → ∃ v, vs[i * blk.k + j]? = some v ∧ fresh RO w R nx L blk.box (cellAt blk.es i j) v) :
    Adv RO w R nx L (w.alloc (.cells vs ety)) (upd R nx (some blk)) (nx + 1) (newL L nx (some (w.heap.size, 0, vs.size))) := by
  have hg := h.grow (.cells vs ety)
  have hL : newL L nx (some (w.heap.size, 0, vs.size)) = fun r p => if r = nx then (match p with | none => some (w.heap.size, 0, vs.size) | some _ => none) else L r p := rfl
  have hself : upd R nx (some blk) nx = some blk := by simp
  have hnew : ¬ RO.pr w.heap.size := fun e => by have := h.ro _ e; omega
  have hs : Same RO w (w.alloc (.cells vs ety)) := fun B hB => Below.heap_alloc w _ B (h.ro B hB)
  have hcell : ∀ i, (w.alloc (.cells vs ety)).cell? ⟨w.heap.size, i, none⟩ = vs[i]? := fun i => by simp
  have hjoin : HRel RO (w.alloc (.cells vs ety)) (upd R nx (some blk)) (nx + 1) (fun r p => if r = nx then (match p with | none => some (w.heap.size, 0, vs.size) | some _ => none) else L r p) ∧
      Pres R nx L (upd R nx (some blk)) (nx + 1) (fun r p => if r = nx then (match p with | none => some (w.heap.size, 0, vs.size) | some _ => none) else L r p) := by
   refine hg.join (n := nx) (nx' := nx + 1) (Nat.le_refl _) (by omega) blk (fun p => match p with | none => some (w.heap.size, 0, vs.size) | some _ => none) (fun p bx k es hr => ?_)
    (fun p x p' x' b o T o' T' h1 h2 h3 h4 => ?_) (fun p x b o T h1 h2 r p1 x1 o1 T1 h3 h4 => ?_)
   · cases p with
     | none =>
       rw [row_root hself] at hr
       simp only [Option.some.injEq, Prod.mk.injEq] at hr
       obtain ⟨rfl, rfl, rfl⟩ := hr
       refine ⟨hsh, fun hb i j hi hj => ?_, fun hn => by simp at hn, fun b o T hL => ?_⟩
       · obtain ⟨v, _, hf⟩ := hc i j hi hj
         simp only [fresh, hb, Bool.false_eq_true, if_false] at hf
         rcases hf with ⟨hf, _⟩ | ⟨k, hf, _⟩ | hf
         · cases hcc : cellAt blk.es i j <;> rw [hcc] at hf <;> simp [scal] at hf <;> simp [cellOk, scal]
         · rw [hf]; exact ⟨rfl, rfl⟩
         · rw [hf]; trivial
       · simp only [if_true, Option.some.injEq, Prod.mk.injEq] at hL
         obtain ⟨rfl, rfl, rfl⟩ := hL
         refine ⟨hnew, ⟨by simp, fun i hi => ?_, fun i hi => by simp⟩, hlen, fun i j hi hj => ?_⟩
         · exact ⟨vs[i], by rw [Nat.zero_add, hcell]; simp [hi]⟩
         · obtain ⟨v, hv, hf⟩ := hc i j hi hj
           refine ⟨v, by rw [Nat.zero_add, hcell]; exact hv, ?_⟩
           have hpres : Pres R nx L (upd R nx (some blk)) (nx + 1) (fun r p => if r = nx then (match p with | none => some (w.heap.size, 0, vs.size) | some _ => none) else L r p) := by
             refine ⟨by omega, fun r b hr hb => ⟨b, by rw [upd_ne _ _ (by omega)] at hb; exact hb, Nat.le_refl _⟩, fun r hr hg bx k es he => ⟨es, ?_, rfl, ?_⟩⟩
             · rw [getB_congr (upd_ne R _ (by omega))] at he; exact he
             · rw [if_neg (by omega)]
           unfold fresh at hf
           cases hb : blk.box with
           | true =>
             rw [hb] at hf
             simp only [if_true] at hf
             rw [Cl.box]
             exact V.mono hs hpres _ _ hf
           | false =>
             rw [hb] at hf
             simp only [Bool.false_eq_true, if_false] at hf
             rcases hf with ⟨hf, hV⟩ | ⟨k, hf, rfl⟩ | hf
             · rw [Cl.other (scal_not_tree hf)]
               exact V_scal hf hV
             · rw [hf]
               simp only [Cl]
               exact ⟨none, 0, rfl, by simp, .inl rfl⟩
             · rw [hf]
               simp only [Cl, V]
     | some q =>
       obtain ⟨i, j⟩ := q
       rw [row_cell_iff hself] at hr
       obtain ⟨hb, rfl, hcc⟩ := hr
       have hin : i < blk.es.length ∧ j < blk.k := by
         unfold cellAt at hcc
         have h5 : j < (blk.es.getD i []).length := by
           rcases Nat.lt_or_ge j (blk.es.getD i []).length with h | h
           · exact h
           · rw [getD_out (Nat.not_lt.2 h)] at hcc; cases hcc
         have h6 : i < blk.es.length := by
           rcases Nat.lt_or_ge i blk.es.length with h | h
           · exact h
           · rw [getD_out (Nat.not_lt.2 h)] at h5; simp at h5
         exact ⟨h6, by rw [shape_getD hsh h6] at h5; exact h5⟩
       obtain ⟨v, _, hf⟩ := hc i j hin.1 hin.2
       rw [hcc] at hf
       simp only [fresh, hb, Bool.false_eq_true, if_false, scal, false_and, false_or, reduceCtorEq, or_false] at hf
       obtain ⟨k', e, _⟩ := hf
       simp only [AV.tree.injEq] at e
       obtain ⟨rfl, rfl⟩ := e
       exact ⟨by simp, fun _ i j hi => by simp at hi, fun _ => rfl, fun b o T hL => by simp at hL⟩
   · cases p <;> cases p' <;> simp at h3 h4 ⊢
   · cases p with
     | none =>
       simp only [Option.some.injEq, Prod.mk.injEq] at h2
       obtain ⟨bx1, k1, es1⟩ := x1
       have := ((h.rows _ _ _ _ _ h3).yes _ _ _ h4).2.1.lt
       omega
     | some q => simp at h2
  rw [hL]
  exact ⟨hjoin.1, hjoin.2, hs, by simp, rfl, rfl, rfl⟩
theorem run_newVar {t : TypeId} {v : Value} (w : World) : (newVar t v).run P w = .ok ⟨w.heap.size, 0, none⟩ (w.alloc (.cells v.cells t)) := by
  simp [newVar, newRow]
theorem V_newptr {blk : Blk} {b T : Nat} (hb : 0 < blk.es.length) : V RO w (upd R nx (some blk)) (nx + 1) (newL L nx (some (b, 0, T))) (.ptr ⟨nx, none, 0⟩ blk.k 0 0) (.pointer (some ⟨b, 0, none⟩)) := by
  simp only [V]
  refine ⟨by omega, fun _ _ h => absurd rfl h, ⟨_, _, rfl⟩, fun bx es h1 h2 => ⟨b, 0, T, by simp [newL], by simp⟩⟩
theorem V_newsl {blk : Blk} (hbox : blk.box = false) {b T cap : Nat} (h1 : blk.es.length ≤ cap) (h2 : cap * blk.k ≤ T) :
    V RO w (upd R nx (some blk)) (nx + 1) (newL L nx (some (b, 0, T))) (.sl ⟨nx, none, 0⟩ blk.k 0 blk.es.length) (.slice (some ⟨b, 0, none⟩) blk.es.length cap) := by
  simp only [V]
  refine ⟨by omega, fun _ _ h => absurd rfl h, ⟨_, _, rfl⟩, fun es he => ?_⟩
  simp only [getB, upd_same, Option.some.injEq, Prod.mk.injEq] at he
  obtain ⟨_, _, rfl⟩ := he
  exact ⟨by omega, _, _, rfl, h1, .inr ⟨b, 0, T, by simp [newL], by simp, by simpa using h2⟩⟩
theorem HRel.empty (h : HRel RO w R nx L) (k : Nat) : HRel RO w (upd R nx (some ⟨false, 0, k, []⟩)) (nx + 1) (newL L nx none) ∧ Pres R nx L (upd R nx (some ⟨false, 0, k, []⟩)) (nx + 1) (newL L nx none) := by
  have hj := h.join (n := nx) (nx' := nx + 1) (Nat.le_refl _) (by omega) ⟨false, 0, k, []⟩ (fun p => none) (fun p bx k' es hr => by
    have hes : es = [] := by
      cases p with
      | none => simp [row] at hr; exact hr.2.2
      | some q => obtain ⟨i, j⟩ := q; simp [row, cellAt] at hr
    subst hes
    exact ⟨by simp, fun _ i j hi => by simp at hi, fun _ => rfl, fun b o T hL => by simp at hL⟩) (fun _ _ _ _ _ _ _ _ _ _ _ h => by simp at h) (fun _ _ _ _ _ _ h => by simp at h)
  have e3 : (fun r p => if r = nx then (none : Option (Nat × Nat × Nat)) else L r p) = newL L nx none := by
    funext r p; unfold newL; split <;> cases p <;> rfl
  rw [e3] at hj
  exact hj
theorem V_empty {k : Nat} {A : Option Addr} : V RO w (upd R nx (some ⟨false, 0, k, []⟩)) (nx + 1) (newL L nx none) (.sl ⟨nx, none, 0⟩ k 0 0) (.slice A 0 0) := by
  simp only [V]
  exact ⟨by omega, fun _ _ h => absurd rfl h, ⟨_, _, rfl⟩, fun es he => ⟨by omega, A, 0, rfl, by omega, .inl rfl⟩⟩
mutual
theorem nn_rel {w : World} : ∀ (v : AV) {hp : Hp} {L : Lf}, HRel RO w (root? hp) hp.length L → ∃ L', HRel RO w (root? (nn v hp).2) (nn v hp).2.length L' ∧ Pres (root? hp) hp.length L (root? (nn v hp).2) (nn v hp).2.length L' ∧
    ∀ x, V RO w (root? hp) hp.length L v x → V RO w (root? (nn v hp).2) (nn v hp).2.length L' (nn v hp).1 x
  | .nil k, hp, L, h => by
    obtain ⟨h1, h2⟩ := h.empty k
    refine ⟨newL L hp.length none, ?_⟩
    simp only [nn]
    rw [root_push]
    simp only [List.length_append, List.length_cons, List.length_nil]
    refine ⟨h1, h2, fun x hx => ?_⟩
    simp only [V] at hx
    subst hx
    exact V_empty
  | .agg cs, hp, L, h => by
    obtain ⟨L', h1, h2, h3⟩ := nnL_rel cs h
    refine ⟨L', ?_⟩
    simp only [nn]
    exact ⟨h1, h2, fun x hx => by simp only [V] at hx ⊢; obtain ⟨vs, e, hv⟩ := hx; exact ⟨vs, e, h3 _ hv⟩⟩
  | .tup cs, hp, L, h => by
    obtain ⟨L', h1, h2, h3⟩ := nnL_rel cs h
    refine ⟨L', ?_⟩
    simp only [nn]
    exact ⟨h1, h2, fun x hx => by simp only [V] at hx ⊢; obtain ⟨vs, e, hv⟩ := hx; exact ⟨vs, e, h3 _ hv⟩⟩
  | .dead, hp, L, h => ⟨L, by simpa only [nn] using ⟨h, Pres.refl _ _ _, fun _ h => h⟩⟩
  | .gone, hp, L, h => ⟨L, by simpa only [nn] using ⟨h, Pres.refl _ _ _, fun _ h => h⟩⟩
  | .pnil, hp, L, h => ⟨L, by simpa only [nn] using ⟨h, Pres.refl _ _ _, fun _ h => h⟩⟩
  | .inil, hp, L, h => ⟨L, by simpa only [nn] using ⟨h, Pres.refl _ _ _, fun _ h => h⟩⟩
  | .fnil, hp, L, h => ⟨L, by simpa only [nn] using ⟨h, Pres.refl _ _ _, fun _ h => h⟩⟩
  | .bool _, hp, L, h => ⟨L, by simpa only [nn] using ⟨h, Pres.refl _ _ _, fun _ h => h⟩⟩
  | .int _ _, hp, L, h => ⟨L, by simpa only [nn] using ⟨h, Pres.refl _ _ _, fun _ h => h⟩⟩
  | .str _, hp, L, h => ⟨L, by simpa only [nn] using ⟨h, Pres.refl _ _ _, fun _ h => h⟩⟩
  | .tree _ _, hp, L, h => ⟨L, by simpa only [nn] using ⟨h, Pres.refl _ _ _, fun _ h => h⟩⟩
  | .sl _ _ _ _, hp, L, h => ⟨L, by simpa only [nn] using ⟨h, Pres.refl _ _ _, fun _ h => h⟩⟩
  | .ptr _ _ _ _, hp, L, h => ⟨L, by simpa only [nn] using ⟨h, Pres.refl _ _ _, fun _ h => h⟩⟩
  | .rp _ _, hp, L, h => ⟨L, by simpa only [nn] using ⟨h, Pres.refl _ _ _, fun _ h => h⟩⟩
  | .fn _ _, hp, L, h => ⟨L, by simpa only [nn] using ⟨h, Pres.refl _ _ _, fun _ h => h⟩⟩
theorem nnL_rel {w : World} : ∀ (vs : List AV) {hp : Hp} {L : Lf}, HRel RO w (root? hp) hp.length L → ∃ L', HRel RO w (root? (nnL vs hp).2) (nnL vs hp).2.length L' ∧ Pres (root? hp) hp.length L (root? (nnL vs hp).2) (nnL vs hp).2.length L' ∧
    ∀ xs, VL RO w (root? hp) hp.length L vs xs → VL RO w (root? (nnL vs hp).2) (nnL vs hp).2.length L' (nnL vs hp).1 xs
  | [], hp, L, h => ⟨L, by simp only [nnL]; exact ⟨h, Pres.refl _ _ _, fun _ h => h⟩⟩
  | v :: vs, hp, L, h => by
    obtain ⟨L1, h1, h2, h3⟩ := nn_rel v h
    obtain ⟨L2, h4, h5, h6⟩ := nnL_rel vs h1
    refine ⟨L2, ?_⟩
    simp only [nnL]
    refine ⟨h4, h2.trans h5, fun xs hx => ?_⟩
    cases xs with
    | nil => simp [VL] at hx
    | cons x xs =>
      simp only [VL] at hx ⊢
      exact ⟨V.mono (Same.refl _ _) h5 _ _ (h3 x hx.1), h6 xs (VL.mono (Same.refl _ _) h2 _ _ hx.2)⟩
end
theorem d_box (h : HRel RO w R nx L) {o : Oper} {t : TypeId} {x : Operand} (ho : o.op = .box t x) {cs : List AV} (h1 : VL RO w R nx L cs (a.eval x).cells.toList) :
    Does P o a RO w R nx L (.ptr ⟨nx, none, 0⟩ cs.length 0 0) (upd R nx (some ⟨true, 0, cs.length, [cs]⟩)) (nx + 1) := by
  have hl := VL_len h1
  have hm := h.make t (a.eval x).cells ⟨true, 0, cs.length, [cs]⟩ (by simp) (by simp at hl ⊢; omega) (fun i j hi hj => by
    simp at hi
    subst hi
    have hj' : cs[j]? = some cs[j] := by simp at hj ⊢; 
    obtain ⟨v, hv, hV⟩ := VL_get h1 hj'
    refine ⟨v, by simpa using hv, ?_⟩
    simp only [fresh, if_true]
    rw [cellAt_getD rfl hj']
    exact hV)
  refine ⟨.pointer (some ⟨w.heap.size, 0, none⟩), _, _, .inl ?_, hm, V_newptr (blk := ⟨true, 0, cs.length, [cs]⟩) (by simp)⟩
  simp only [execOp, ho, Instr.box, Sem.run_bind, run_newVar, Result.andThen_ok, Sem.run_pure]
theorem d_new (h : HRel RO w R nx L) {o : Oper} {t : TypeId} (ho : o.op = .alloc t) {z : Value} (hz : (P.info? t).bind (·.zero) = some z) {cs : List AV} (h1 : VL RO w R nx L cs z.cells.toList) :
    Does P o a RO w R nx L (.ptr ⟨nx, none, 0⟩ cs.length 0 0) (upd R nx (some ⟨true, 0, cs.length, [cs]⟩)) (nx + 1) := by
  have hl := VL_len h1
  have hm := h.make t z.cells ⟨true, 0, cs.length, [cs]⟩ (by simp) (by simp at hl ⊢; omega) (fun i j hi hj => by
    simp at hi
    subst hi
    have hj' : cs[j]? = some cs[j] := by simp at hj ⊢; 
    obtain ⟨v, hv, hV⟩ := VL_get h1 hj'
    refine ⟨v, by simpa using hv, ?_⟩
    simp only [fresh, if_true]
    rw [cellAt_getD rfl hj']
    exact hV)
  refine ⟨.pointer (some ⟨w.heap.size, 0, none⟩), _, _, .inl ?_, hm, V_newptr (blk := ⟨true, 0, cs.length, [cs]⟩) (by simp)⟩
  simp only [execOp, ho, Instr.alloc, Sem.run_bind, run_zero hz, run_newVar, Result.andThen_ok, Sem.run_pure]
theorem Does.after {o : Oper} {R1 : Rf} {nx1 : Nat} {L1 : Lf} {v : AV} {R2 : Rf} {nx2 : Nat} (h1 : HRel RO w R1 nx1 L1) (hp : Pres R nx L R1 nx1 L1) (h : Does P o a RO w R1 nx1 L1 v R2 nx2) : Does P o a RO w R nx L v R2 nx2 := by
  obtain ⟨x, w', L', h2, h3, h4⟩ := h
  exact ⟨x, w', L', h2, Adv.trans ⟨h1, hp, Same.refl _ _, Nat.le_refl _, rfl, rfl, rfl⟩ h3, h4⟩
theorem run_store1 {b o : Nat} {v u : Value} (h : w.cell? ⟨b, o, none⟩ = some u) (hf : w.frozen? ⟨b, o, none⟩ = false) (hv : v.oneCell' = true) : (store ⟨b, o, none⟩ v).run P w = .ok () (w.setCell ⟨b, o, none⟩ v) := by
  rw [run_store P w _ v _ hv, h]
  simp [hf]
theorem setCell_cell {b o : Nat} {v u : Value} (h : w.cell? ⟨b, o, none⟩ = some u) : (w.setCell ⟨b, o, none⟩ v).cell? ⟨b, o, none⟩ = some v := World.cell?_setCell_same _ _ _ h
theorem setCell_other {b o B off : Nat} {v : Value} (h : B ≠ b ∨ off ≠ o) : (w.setCell ⟨b, o, none⟩ v).cell? ⟨B, off, none⟩ = w.cell? ⟨B, off, none⟩ := by
  refine World.cell?_setCell_other w _ _ _ ?_
  intro e
  simp only [Addr.mk.injEq, and_true] at e
  omega
def setCs (R : Rf) (r : Nat) (p : Option (Nat × Nat)) (i : Nat) : Nat → List AV → Rf
  | _, [] => R
  | j, c :: cs => match R r with | some b => setCs (setR R r b p b.gen i j c) r p i (j + 1) cs | none => R
theorem step_storeB {r : BRef} {k : Nat} {i : Nat} (hp : r.path = none) : ∀ (cs : List AV) (vs : List Value) (j n : Nat) {w : World} {R : Rf} {es : List (List AV)} {b0 : Blk} {b o T : Nat}, HRel RO w R nx L → R r.root = some b0 → b0.box = true → b0.k = k → b0.es = es →
    i < es.length → j + cs.length ≤ k → L r.root r.path = some (b, o, T) → VL RO w R nx L cs vs → ones cs = true →
    ∃ w', (storeCells ⟨b, o + i * k, none⟩ vs j).run P w = .ok () w' ∧ Adv RO w R nx L w' (upd R r.root (some { b0 with es := es.set i (splice (es.getD i []) j cs) })) nx L
  | [], vs, j, n, w, R, es, b0, b, o, T, h, hb, hbox, hk, hes, hi, hj, hL, hV, ho => by
    cases vs with
    | nil =>
      refine ⟨w, by simp [storeCells], ?_⟩
      have : upd R r.root (some { b0 with es := es.set i (splice (es.getD i []) j []) }) = R := by
        funext m
        by_cases e : m = r.root
        · subst e
          rw [upd_same, hb, splice_nil]
          have : es.set i (es.getD i []) = es := by
            rw [List.getD_eq_getElem?_getD, List.getElem?_eq_getElem hi]
            simp
          rw [this, ← hes]
        · rw [upd_ne _ _ e]
      rw [this]
      exact Adv.refl h
    | cons v vs => simp [VL] at hV
  | c :: cs, [], j, n, w, R, es, b0, b, o, T, h, hb, hbox, hk, hes, hi, hj, hL, hV, ho => by simp [VL] at hV
  | c :: cs, v :: vs, j, n, w, R, es, b0, b, o, T, h, hb, hbox, hk, hes, hi, hj, hL, hV, ho => by
    simp only [VL] at hV
    simp only [ones, Bool.and_eq_true] at ho
    simp only [List.length_cons] at hj
    obtain ⟨hV1, hV2⟩ := hV
    have hrow : row R r.root none = some (true, k, es) := by rw [row_root hb, hbox, hk, hes]
    have hL' : L r.root none = some (b, o, T) := by rw [← hp]; exact hL
    obtain ⟨h1, h2, h3, h4⟩ := (h.rows _ _ _ _ _ hrow).yes _ _ _ hL'
    have hshape := (h.rows _ _ _ _ _ hrow).shape
    have hjk : j < k := by omega
    have hlt : i * k + j < T := idx_lt hi hjk h3
    obtain ⟨u, hu⟩ := h2.cell _ hlt
    rw [← Nat.add_assoc] at hu
    have hfz := h2.free _ hlt
    rw [← Nat.add_assoc] at hfz
    have hst := run_store1 (P := P) hu hfz (V_one hV1 ho.1)
    have hnt : b0.box = false → ∀ k es, c ≠ .tree k es := fun e => by rw [hbox] at e; cases e
    have hpres : Pres R nx L (setR R r.root b0 none b0.gen i j c) nx L := Pres.setR hrow hb i j hnt (Nat.le_refl _)
    have hsame : Same RO w (w.setCell ⟨b, o + i * k + j, none⟩ v) := fun B hB => Below.heap_setCell w _ _ _ (fun e => h1 (by have e' : B = b := e; rw [← e']; exact hB))
    have hset := h.setCell (w' := w.setCell ⟨b, o + i * k + j, none⟩ v) hrow hi hjk hb hnt (by simp) (by simp) (Nat.le_refl b0.gen) hL' hsame (by simp) (fun B off hne => setCell_other hne) (fun B off => by simp)
      ⟨v, setCell_cell hu, V.mono hsame hpres _ _ hV1⟩
    have e1 : setR R r.root b0 none b0.gen i j c = upd R r.root (some { b0 with es := setAt es i j c }) := by
      simp only [setR, setP, hes]
    rw [e1] at hset hpres
    have hself : upd R r.root (some { b0 with es := setAt es i j c }) r.root = some { b0 with es := setAt es i j c } := by simp
    obtain ⟨w', h5, h6⟩ := step_storeB hp cs vs (j + 1) n hset.1 hself hbox hk rfl (by simpa using hi) (by omega) hL (VL.mono hsame hpres _ _ hV2) ho.2
    refine ⟨w', ?_, ?_⟩
    · simp only [storeCells, Sem.run_bind, addr_add, hst, Result.andThen_ok]
      exact h5
    · have hadv : Adv RO w R nx L (w.setCell ⟨b, o + i * k + j, none⟩ v) (upd R r.root (some { b0 with es := setAt es i j c })) nx L := ⟨hset.1, hpres, hsame, by simp, rfl, rfl, rfl⟩
      have := hadv.trans h6
      have e2 : upd (upd R r.root (some { b0 with es := setAt es i j c })) r.root (some { b0 with es := (setAt es i j c).set i (splice ((setAt es i j c).getD i []) (j + 1) cs) }) =
          upd R r.root (some { b0 with es := es.set i (splice (es.getD i []) j (c :: cs)) }) := by
        funext m
        by_cases e : m = r.root
        · subst e
          simp only [upd_same]
          congr 2
          unfold setAt
          rw [getD_set_self _ _ _ _ hi, List.set_set, splice_cons _ _ _ _ (by rw [shape_getD hshape hi]; exact hjk)]
        · simp [upd_ne _ _ e]
      rw [← e2]
      exact this
end
end Go.Proofs.Ytldmpjoddghdkaa.AI
