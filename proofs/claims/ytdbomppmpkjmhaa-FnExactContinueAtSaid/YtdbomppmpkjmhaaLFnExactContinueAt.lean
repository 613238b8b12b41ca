/- What these functions give, and that the law FnExactContinueAt gives true. -/
import Derived.Test.YtdbomppmpkjmhaaCFnExactContinueAt
namespace Go.Proofs.Ytdbomppmpkjmhaa.AI
open Go.Proofs
set_option linter.all false
set_option maxRecDepth 100000
structure DGate where
  Owner : Int
  Waits : List (Int)
  Queues : List (Int)
abbrev cGate (x : DGate) : List AV := [.int .i64 x.Owner, .tree 1 (x.Waits.map cI), .tree 1 (x.Queues.map cI)]
def wtGate (x : DGate) : Nat := x.Waits.length + x.Queues.length
def gdGate (x : DGate) : Prop := i64 x.Owner ∧ (x.Waits.length ≤ 140737488351232 ∧ ∀ y ∈ x.Waits, i64 y) ∧ (x.Queues.length ≤ 140737488351232 ∧ ∀ y ∈ x.Queues, i64 y)
def mkGate (x : DGate) (k : Int) : DGate := { Owner := k, Waits := mkL mkI ct1 x.Waits (k + 1), Queues := mkL mkI ct1 x.Queues ((k + 1) + (tot ct1 x.Waits : Nat)) }
def ctGate (x : DGate) : Nat := 1 + tot ct1 x.Waits + tot ct1 x.Queues
def mwGate (x : DGate) (k : Int) : DGate := { Owner := x.Owner, Waits := mkL mkI ct1 x.Waits k, Queues := mkL mkI ct1 x.Queues (k + (tot ct1 x.Waits : Nat)) }
def cwGate (x : DGate) : Nat := tot ct1 x.Waits + tot ct1 x.Queues
theorem solid_cGate {xs : List DGate} : solid (xs.map cGate) = true := solid_map fun _ => rfl
theorem sem_laws_szIntS (xs : List Int) (h : xs.length ≤ 140737488351232) (n : Int) (h1 : -1 ≤ n) (h2 : n ≤ 4611686018427387904) : S_laws_szIntS.sem [.tree 1 (xs.map cI), .int .i64 n] = some (.int .i64 (lft n xs.length), []) := by
  rw [sg_laws_szIntS, sem_go]
  simp +contextual (disch := omega) only [F_laws_szIntS, params, EG, EL, ↓reduceIte, Nat.reduceEqDiff, Nat.reduceAdd, Nat.reduceSub, Nat.reduceMul, Nat.reduceLeDiff, Nat.reduceLT, Int.reduceLT, Int.reduceLE, Int.reduceEq, Int.reduceToNat, reduceCtorEq, set_cI, set_cS, set_cB, splice_eq, seg_mkL, mkL_length, seg_nil, seg_one, seg_tail, seg_tailM, pos_succ, Nat.add_sub_cancel, seg_full, seg_map, take_map_len, take_len, flat_cI, flat_cS, flat_cB, solid_cI, solid_cS, solid_cB, solid_cGate, cx_laws_szIntS, wrapI]
  unfold lft
  split <;> rfl
section
attribute [local congr] ite_congr
theorem sem_laws_szGate (x : DGate) (g : gdGate x) (n : Int) (h1 : -1 ≤ n) (h2 : n ≤ 4611686018427387904) : S_laws_szGate.sem [.agg (cGate x), .int .i64 n] = some (.int .i64 (lft n (wtGate x)), []) := by
  obtain ⟨g0, ⟨g1, g1e⟩, ⟨g2, g2e⟩⟩ := (show i64 x.Owner ∧ (x.Waits.length ≤ 140737488351232 ∧ ∀ y ∈ x.Waits, i64 y) ∧ (x.Queues.length ≤ 140737488351232 ∧ ∀ y ∈ x.Queues, i64 y) from g)
  skip
  have b0 : (lft n (x.Waits.length)) ≤ 4611686018427387904 := by have : ∀ m a, m ≤ 4611686018427387904 → lft m a ≤ 4611686018427387904 := (fun m a hm => by unfold lft; split <;> omega); first | exact this _ _ (by assumption) | exact this _ _ (by omega)
  have b1 : (lft (lft n (x.Waits.length)) (x.Queues.length)) ≤ 4611686018427387904 := by have : ∀ m a, m ≤ 4611686018427387904 → lft m a ≤ 4611686018427387904 := (fun m a hm => by unfold lft; split <;> omega); first | exact this _ _ (by assumption) | exact this _ _ (by omega)
  rw [sg_laws_szGate, sem_go]
  simp +contextual (disch := first | assumption | omega) only [F_laws_szGate, params, EG, EL, ↓reduceIte, Nat.reduceEqDiff, Nat.reduceAdd, Nat.reduceSub, Nat.reduceMul, Nat.reduceLeDiff, Nat.reduceLT, Int.reduceLT, Int.reduceLE, Int.reduceEq, Int.reduceToNat, reduceCtorEq, set_cI, set_cS, set_cB, splice_eq, seg_mkL, mkL_length, seg_nil, seg_one, seg_tail, seg_tailM, pos_succ, Nat.add_sub_cancel, seg_full, seg_map, take_map_len, take_len, flat_cI, flat_cS, flat_cB, solid_cI, solid_cS, solid_cB, solid_cGate, cx_laws_szGate, cl_laws_szIntS, sem_laws_szIntS, wrapI]
  unfold wtGate
  unfold lft
  (repeat' split) <;> first | rfl | omega | (simp only [Option.some.injEq, Prod.mk.injEq, AV.int.injEq, AV.bool.injEq, AV.str.injEq, true_and, and_true]; omega)
end
theorem loop_laws_toIntS (xs : List Int) (hl : xs.length ≤ 1048576) :
    loopV X_laws_toIntS 0 [0, 3, 4] [(1, [3])] B0_laws_toIntS ⟨[(0, .tree 1 (xs.map cI)), (3, .sl ⟨0, none, 0⟩ 1 0 xs.length), (4, .int .i64 0)], [some ⟨false, 0, 1, fillR cI [.int .i64 0] xs 0⟩]⟩ = some (.exit 0, ⟨[(3, .sl ⟨0, none, 0⟩ 1 0 xs.length)], [some ⟨false, 0, 1, xs.map cI⟩]⟩) := by
  refine loop_list xs (fun _ (_ : Unit) => True) (fun i _ => ⟨[(0, .tree 1 (xs.map cI)), (3, .sl ⟨0, none, 0⟩ 1 0 xs.length), (4, .int .i64 ((i : Nat) : Int))], [some ⟨false, 0, 1, fillR cI [.int .i64 0] xs i⟩]⟩) (fun _ _ => some (.exit 0, ⟨[(3, .sl ⟨0, none, 0⟩ 1 0 xs.length)], [some ⟨false, 0, 1, xs.map cI⟩]⟩)) ?_ ?_ () trivial
  · intro _ _
    rw [loopV_by B0_laws_toIntS.eq_1]
    simp only [EG, EL, ↓reduceIte, Nat.reduceEqDiff, Nat.reduceAdd, Nat.reduceSub, Nat.reduceMul, Nat.reduceLeDiff, Nat.reduceLT, Int.reduceLT, Int.reduceLE, Int.reduceEq, Int.reduceToNat, reduceCtorEq, int_lt_irrefl, fillR_end]
  · rintro i h x rest _ rfl rfl _ ih
    have hi : (i : Int) < (xs.length : Int) := by omega
    skip
    have hf := fillR_set (c := cI) (z := [.int .i64 0]) h rfl
    simp only [cI] at hf
    rw [loopV_by B0_laws_toIntS.eq_1]
    simp (disch := first | assumption | omega) only [EG, EL, ↓reduceIte, Nat.reduceEqDiff, Nat.reduceAdd, Nat.reduceSub, Nat.reduceMul, Nat.reduceLeDiff, Nat.reduceLT, Int.reduceLT, Int.reduceLE, Int.reduceEq, Int.reduceToNat, reduceCtorEq, set_cI, set_cS, set_cB, splice_eq, seg_mkL, mkL_length, seg_nil, seg_one, seg_tail, seg_tailM, pos_succ, Nat.add_sub_cancel, seg_full, seg_map, take_map_len, take_len, flat_cI, flat_cS, flat_cB, solid_cI, solid_cS, solid_cB, solid_cGate, hi, h, wrap_succ, getRow _ _ h, fillR_get h, fillR_length (Nat.le_of_lt h), cx_laws_toIntS]
    simp only [splice_eq, EG, EL, ↓reduceIte, Nat.reduceEqDiff, Nat.reduceAdd, Nat.reduceSub, Nat.reduceMul, Nat.reduceLeDiff, Nat.reduceLT, Int.reduceLT, Int.reduceLE, Int.reduceEq, Int.reduceToNat, reduceCtorEq, hf]
    exact ih () trivial
theorem sem_laws_toIntS (xs : List Int) (h : xs.length ≤ 1048576) : S_laws_toIntS.sem [.tree 1 (xs.map cI)] = some (.tree 1 (xs.map cI), []) := by
  rw [sg_laws_toIntS, sem_go]
  simp (disch := omega) only [F_laws_toIntS, params, EG, EL, ↓reduceIte, Nat.reduceEqDiff, Nat.reduceAdd, Nat.reduceSub, Nat.reduceMul, Nat.reduceLeDiff, Nat.reduceLT, Int.reduceLT, Int.reduceLE, Int.reduceEq, Int.reduceToNat, reduceCtorEq, set_cI, set_cS, set_cB, splice_eq, seg_mkL, mkL_length, seg_nil, seg_one, seg_tail, seg_tailM, pos_succ, Nat.add_sub_cancel, seg_full, seg_map, take_map_len, take_len, flat_cI, flat_cS, flat_cB, solid_cI, solid_cS, solid_cB, solid_cGate, cx_laws_toIntS, fillR_zero cI, loop_laws_toIntS xs h]
  rw [if_pos (by omega)]
theorem sem_laws_toGate (x : DGate) (h : wtGate x ≤ 1048576) : S_laws_toGate.sem [.agg (cGate x)] = some (.agg (cGate x), []) := by
  unfold wtGate at h
  rw [sg_laws_toGate, sem_go]
  simp (disch := omega) only [F_laws_toGate, params, EG, EL, ↓reduceIte, Nat.reduceEqDiff, Nat.reduceAdd, Nat.reduceSub, Nat.reduceMul, Nat.reduceLeDiff, Nat.reduceLT, Int.reduceLT, Int.reduceLE, Int.reduceEq, Int.reduceToNat, reduceCtorEq, set_cI, set_cS, set_cB, splice_eq, seg_mkL, mkL_length, seg_nil, seg_one, seg_tail, seg_tailM, pos_succ, Nat.add_sub_cancel, seg_full, seg_map, take_map_len, take_len, flat_cI, flat_cS, flat_cB, solid_cI, solid_cS, solid_cB, solid_cGate, cx_laws_toGate, cl_laws_toIntS, sem_laws_toIntS]
theorem loop_laws_eqIntS (xs : List Int) (hl : xs.length ≤ 1048576) :
    loopV X_laws_eqIntS 0 [0, 1, 5] [(1, []), (0, [4])] B0_laws_eqIntS ⟨[(0, .tree 1 (xs.map cI)), (1, .tree 1 (xs.map cI)), (5, .int .i64 0)], []⟩ = some (.exit 0, ⟨[], []⟩) := by
  refine loop_list xs (fun _ (_ : Unit) => True) (fun i _ => ⟨[(0, .tree 1 (xs.map cI)), (1, .tree 1 (xs.map cI)), (5, .int .i64 ((i : Nat) : Int))], []⟩) (fun _ _ => some (.exit 0, ⟨[], []⟩)) ?_ ?_ () trivial
  · intro _ _
    rw [loopV_by B0_laws_eqIntS.eq_1]
    simp only [EG, EL, ↓reduceIte, Nat.reduceEqDiff, Nat.reduceAdd, Nat.reduceSub, Nat.reduceMul, Nat.reduceLeDiff, Nat.reduceLT, Int.reduceLT, Int.reduceLE, Int.reduceEq, Int.reduceToNat, reduceCtorEq, int_lt_irrefl]
  · rintro i h x rest _ rfl rfl _ ih
    have hi : (i : Int) < (xs.length : Int) := by omega
    skip
    rw [loopV_by B0_laws_eqIntS.eq_1]
    simp (disch := first | assumption | omega) only [EG, EL, ↓reduceIte, Nat.reduceEqDiff, Nat.reduceAdd, Nat.reduceSub, Nat.reduceMul, Nat.reduceLeDiff, Nat.reduceLT, Int.reduceLT, Int.reduceLE, Int.reduceEq, Int.reduceToNat, reduceCtorEq, set_cI, set_cS, set_cB, splice_eq, seg_mkL, mkL_length, seg_nil, seg_one, seg_tail, seg_tailM, pos_succ, Nat.add_sub_cancel, seg_full, seg_map, take_map_len, take_len, flat_cI, flat_cS, flat_cB, solid_cI, solid_cS, solid_cB, solid_cGate, hi, wrap_succ, getRow _ _ h, cx_laws_eqIntS]
    exact ih () trivial
theorem sem_laws_eqIntS (xs : List Int) (h : xs.length ≤ 1048576) : S_laws_eqIntS.sem [.tree 1 (xs.map cI), .tree 1 (xs.map cI)] = some (.bool true, []) := by
  rw [sg_laws_eqIntS, sem_go]
  simp (disch := omega) only [F_laws_eqIntS, params, EG, EL, ↓reduceIte, Nat.reduceEqDiff, Nat.reduceAdd, Nat.reduceSub, Nat.reduceMul, Nat.reduceLeDiff, Nat.reduceLT, Int.reduceLT, Int.reduceLE, Int.reduceEq, Int.reduceToNat, reduceCtorEq, set_cI, set_cS, set_cB, splice_eq, seg_mkL, mkL_length, seg_nil, seg_one, seg_tail, seg_tailM, pos_succ, Nat.add_sub_cancel, seg_full, seg_map, take_map_len, take_len, flat_cI, flat_cS, flat_cB, solid_cI, solid_cS, solid_cB, solid_cGate, cx_laws_eqIntS, loop_laws_eqIntS xs h]
theorem sem_laws_eqGate (x : DGate) (h : wtGate x ≤ 1048576) : S_laws_eqGate.sem [.agg (cGate x), .agg (cGate x)] = some (.bool true, []) := by
  unfold wtGate at h
  rw [sg_laws_eqGate, sem_go]
  simp (disch := omega) only [F_laws_eqGate, params, EG, EL, ↓reduceIte, Nat.reduceEqDiff, Nat.reduceAdd, Nat.reduceSub, Nat.reduceMul, Nat.reduceLeDiff, Nat.reduceLT, Int.reduceLT, Int.reduceLE, Int.reduceEq, Int.reduceToNat, reduceCtorEq, set_cI, set_cS, set_cB, splice_eq, seg_mkL, mkL_length, seg_nil, seg_one, seg_tail, seg_tailM, pos_succ, Nat.add_sub_cancel, seg_full, seg_map, take_map_len, take_len, flat_cI, flat_cS, flat_cB, solid_cI, solid_cS, solid_cB, solid_cGate, cx_laws_eqGate, cl_laws_eqIntS, sem_laws_eqIntS]
theorem sem_laws_markIntS (xs : List Int) (k : Int) (h1 : 1 ≤ k) (h2 : k + (tot ct1 xs : Nat) ≤ 4611686018427387000) : S_laws_markIntS.sem [.tree 1 (xs.map cI), .int .i64 k] = some (.int .i64 (k + (tot ct1 xs : Nat)), (mkL mkI ct1 xs k).map cI) := by
  have hlen : xs.length ≤ tot ct1 xs := len_ct1
  have loop : loopV X_laws_markIntS 1 [0, 1, 5] [(1, [1])] B0_laws_markIntS ⟨[(0, .sl ⟨0, none, 0⟩ 1 0 xs.length), (1, .int .i64 k), (5, .int .i64 0)], [some ⟨false, 0, 1, xs.map cI⟩]⟩ = some (.exit 0, ⟨[(1, .int .i64 (k + (tot ct1 xs : Nat)))], [some ⟨false, 0, 1, (mkL mkI ct1 xs k).map cI⟩]⟩) := by
    refine loop_list xs (fun i (a : List Int × Int) => a.1.length = i ∧ 1 ≤ a.2 ∧ a.2 + (tot ct1 (xs.drop i) : Nat) ≤ 4611686018427387000) (fun i a => ⟨[(0, .sl ⟨0, none, 0⟩ 1 0 xs.length), (1, .int .i64 a.2), (5, .int .i64 ((i : Nat) : Int))], [some ⟨false, 0, 1, (a.1 ++ xs.drop i).map cI⟩]⟩) (fun rest a => some (.exit 0, ⟨[(1, .int .i64 (a.2 + (tot ct1 rest : Nat)))], [some ⟨false, 0, 1, (a.1 ++ mkL mkI ct1 rest a.2).map cI⟩]⟩)) ?_ ?_ ([], k) ⟨rfl, h1, h2⟩
    · rintro a ⟨hy, a1, a2⟩
      rw [loopV_by B0_laws_markIntS.eq_1]
      simp only [EG, EL, ↓reduceIte, Nat.reduceEqDiff, Nat.reduceAdd, Nat.reduceSub, Nat.reduceMul, Nat.reduceLeDiff, Nat.reduceLT, Int.reduceLT, Int.reduceLE, Int.reduceEq, Int.reduceToNat, reduceCtorEq, int_lt_irrefl, List.drop_length, tot, mkL, Int.natCast_zero, Int.add_zero]
    · rintro i h x rest a rfl rfl ⟨hy, a1, a2⟩ ih
      have hi : (i : Int) < (xs.length : Int) := by omega
      have hd : xs.drop i = xs[i] :: xs.drop (i + 1) := List.drop_eq_getElem_cons h
      have ht : tot ct1 (xs.drop i) = ct1 xs[i] + tot ct1 (xs.drop (i + 1)) := by rw [hd]; rfl
      have hc : ct1 xs[i] = 1 := rfl
      have hlm : i < ((a.1 ++ xs.drop i).map cI).length := by rw [mid_len hy h]; exact h
      have hll : i < a.1.length + (xs.drop i).length := by rw [List.length_drop]; omega
      have hg := mid_get (c := cI) hy h
      have hf := mid_set (c := cI) hy h (x := a.2) rfl
      have hk : (a.2 + 1) = a.2 + ((ct1 xs[i] : Nat) : Int) := by rw [hc]; omega
      simp only [cI] at hf
      rw [loopV_by B0_laws_markIntS.eq_1]
      simp (disch := first | assumption | omega) only [EG, EL, ↓reduceIte, Nat.reduceEqDiff, Nat.reduceAdd, Nat.reduceSub, Nat.reduceMul, Nat.reduceLeDiff, Nat.reduceLT, Int.reduceLT, Int.reduceLE, Int.reduceEq, Int.reduceToNat, reduceCtorEq, set_cI, set_cS, set_cB, splice_eq, seg_mkL, mkL_length, seg_nil, seg_one, seg_tail, seg_tailM, pos_succ, Nat.add_sub_cancel, seg_full, seg_map, take_map_len, take_len, flat_cI, flat_cS, flat_cB, solid_cI, solid_cS, solid_cB, solid_cGate, hi, h, hg, hlm, hll, cx_laws_markIntS, wrapI, splice_eq, set_getD, set_set, hf]
      rw [show ((i : Nat) : Int) + 1 = ((i + 1 : Nat) : Int) by omega]
      have hih := ih (a.1 ++ [a.2], (a.2 + 1)) ⟨by simp [hy], by show 1 ≤ (a.2 + 1); omega, by show (a.2 + 1) + _ ≤ _; omega⟩
      simp only [eq_self] at hih
      rw [hih]
      simp only [hk, tot, mkL, List.append_assoc, List.singleton_append]
      rw [show a.2 + ((ct1 xs[i] : Nat) : Int) + ((tot ct1 (xs.drop (i + 1)) : Nat) : Int) = a.2 + ((ct1 xs[i] + tot ct1 (xs.drop (i + 1)) : Nat) : Int) by omega]
      try rfl
  rw [sg_laws_markIntS, sem_goM]
  simp (disch := first | assumption | omega) only [F_laws_markIntS, params, EG, EL, ↓reduceIte, Nat.reduceEqDiff, Nat.reduceAdd, Nat.reduceSub, Nat.reduceMul, Nat.reduceLeDiff, Nat.reduceLT, Int.reduceLT, Int.reduceLE, Int.reduceEq, Int.reduceToNat, reduceCtorEq, set_cI, set_cS, set_cB, splice_eq, seg_mkL, mkL_length, seg_nil, seg_one, seg_tail, seg_tailM, pos_succ, Nat.add_sub_cancel, seg_full, seg_map, take_map_len, take_len, flat_cI, flat_cS, flat_cB, solid_cI, solid_cS, solid_cB, solid_cGate, cx_laws_markIntS, loop]
theorem sem_laws_heldIntS (xs : List Int) (k : Int) (h1 : 1 ≤ k) (h2 : k + (tot ct1 xs : Nat) ≤ 4611686018427387000) : S_laws_heldIntS.sem [.tree 1 ((mkL mkI ct1 xs k).map cI), .int .i64 k] = some (.int .i64 (k + (tot ct1 xs : Nat)), []) := by
  have hlen : xs.length ≤ tot ct1 xs := len_ct1
  have hML : (mkL mkI ct1 xs k).length = xs.length := mkL_length
  have loop : loopV X_laws_heldIntS 0 [0, 1, 5] [(1, [1]), (0, [4])] B0_laws_heldIntS ⟨[(0, .tree 1 ((mkL mkI ct1 xs k).map cI)), (1, .int .i64 k), (5, .int .i64 0)], []⟩ = some (Ex.exit 0, (⟨[(1, .int .i64 (k + (tot ct1 xs : Nat)))], []⟩ : St)) := by
    refine loop_list xs (fun i (m : Int) => m = k + (tot ct1 (xs.take i) : Nat)) (fun i m => ⟨[(0, .tree 1 ((mkL mkI ct1 xs k).map cI)), (1, .int .i64 m), (5, .int .i64 ((i : Nat) : Int))], []⟩) (fun rest a => some (Ex.exit 0, (⟨[(1, .int .i64 (k + (tot ct1 xs : Nat)))], []⟩ : St))) ?_ ?_ k (by simp [tot])
    · rintro m rfl
      rw [loopV_by B0_laws_heldIntS.eq_1]
      simp only [EG, EL, ↓reduceIte, Nat.reduceEqDiff, Nat.reduceAdd, Nat.reduceSub, Nat.reduceMul, Nat.reduceLeDiff, Nat.reduceLT, Int.reduceLT, Int.reduceLE, Int.reduceEq, Int.reduceToNat, reduceCtorEq, int_lt_irrefl, hML, tot_take_end]
    · rintro i h x rest m rfl rfl hm ih
      have hi : (i : Int) < (xs.length : Int) := by omega
      have ht := tot_take_le (f := ct1) h
      have hs := tot_take1 (f := ct1) h
      have hc : ct1 xs[i] = 1 := rfl
      have hg : ((mkL mkI ct1 xs k).map cI).getD i [] = cI (mkI xs[i] m) := by
        have h' : i < (mkL mkI ct1 xs k).length := by omega
        rw [getRow _ _ h', mkL_get h, hm]
      simp only [cI, mkI] at hg
      rw [loopV_by B0_laws_heldIntS.eq_1]
      simp (disch := first | assumption | omega) only [EG, EL, ↓reduceIte, Nat.reduceEqDiff, Nat.reduceAdd, Nat.reduceSub, Nat.reduceMul, Nat.reduceLeDiff, Nat.reduceLT, Int.reduceLT, Int.reduceLE, Int.reduceEq, Int.reduceToNat, reduceCtorEq, set_cI, set_cS, set_cB, splice_eq, seg_mkL, mkL_length, seg_nil, seg_one, seg_tail, seg_tailM, pos_succ, Nat.add_sub_cancel, seg_full, seg_map, take_map_len, take_len, flat_cI, flat_cS, flat_cB, solid_cI, solid_cS, solid_cB, solid_cGate, hi, hML, hg, cx_laws_heldIntS, wrapI]
      repeat rw [if_neg (by omega)]
      rw [show ((i : Nat) : Int) + 1 = ((i + 1 : Nat) : Int) by omega]
      exact ih _ (by omega)
  rw [sg_laws_heldIntS, sem_go]
  simp (disch := first | assumption | omega) only [F_laws_heldIntS, params, EG, EL, ↓reduceIte, Nat.reduceEqDiff, Nat.reduceAdd, Nat.reduceSub, Nat.reduceMul, Nat.reduceLeDiff, Nat.reduceLT, Int.reduceLT, Int.reduceLE, Int.reduceEq, Int.reduceToNat, reduceCtorEq, set_cI, set_cS, set_cB, splice_eq, seg_mkL, mkL_length, seg_nil, seg_one, seg_tail, seg_tailM, pos_succ, Nat.add_sub_cancel, seg_full, seg_map, take_map_len, take_len, flat_cI, flat_cS, flat_cB, solid_cI, solid_cS, solid_cB, solid_cGate, cx_laws_heldIntS, loop]
theorem sem_laws_heldGate (x : DGate) (k : Int) (h1 : 1 ≤ k) (h2 : k + (cwGate x : Nat) ≤ 4611686018427387000) : S_laws_heldGate.sem [.agg [.int .i64 x.Owner, .tree 1 ((mkL mkI ct1 x.Waits k).map cI), .tree 1 ((mkL mkI ct1 x.Queues (k + (tot ct1 x.Waits : Nat))).map cI)], .int .i64 k] = some (.int .i64 (k + (cwGate x : Nat)), []) := by
  show S_laws_heldGate.sem [.agg (cGate (mwGate x k)), .int .i64 k] = some (.int .i64 (k + (cwGate x : Nat)), [])
  have hc : cwGate x = tot ct1 x.Waits + tot ct1 x.Queues := rfl
  rw [sg_laws_heldGate, sem_go]
  simp (disch := first | assumption | omega) only [F_laws_heldGate, params, EG, EL, ↓reduceIte, Nat.reduceEqDiff, Nat.reduceAdd, Nat.reduceSub, Nat.reduceMul, Nat.reduceLeDiff, Nat.reduceLT, Int.reduceLT, Int.reduceLE, Int.reduceEq, Int.reduceToNat, reduceCtorEq, set_cI, set_cS, set_cB, splice_eq, seg_mkL, mkL_length, seg_nil, seg_one, seg_tail, seg_tailM, pos_succ, Nat.add_sub_cancel, seg_full, seg_map, take_map_len, take_len, flat_cI, flat_cS, flat_cB, solid_cI, solid_cS, solid_cB, solid_cGate, cx_laws_heldGate, cl_laws_heldIntS, sem_laws_heldIntS, mwGate]
  repeat rw [if_neg (by omega)]
  simp only [Option.some.injEq, Prod.mk.injEq, AV.int.injEq, AV.bool.injEq, AV.str.injEq, true_and, and_true]
  omega
/-! gates -/
/-- In line, each in 0 .. 3 and none of those seen. -/
def freshB (seen : List Int) : List Int → Bool
  | [] => true
  | x :: xs => decide (0 ≤ x ∧ x ≤ 3) && (decide (x ∉ seen) && freshB (seen ++ [x]) xs)
def qfreshB (seen : List Int) : List Int → Bool
  | [] => true
  | x :: xs => if x = -1 then qfreshB (seen ++ [x]) xs else decide (0 ≤ x ∧ x ≤ 3) && (decide (x ∉ seen) && qfreshB (seen ++ [x]) xs)
def somebody (xs : List Int) : List Int := xs.filter (fun x => decide (x ≠ -1))
theorem freshB_app : ∀ (xs ys seen : List Int), freshB seen (xs ++ ys) = (freshB seen xs && freshB (seen ++ xs) ys)
  | [], ys, seen => by simp [freshB]
  | x :: xs, ys, seen => by
    simp only [List.cons_append, freshB, freshB_app xs ys (seen ++ [x]), List.append_assoc, List.singleton_append, List.nil_append, Bool.and_assoc]
theorem freshB_mem : ∀ (xs seen : List Int), freshB seen xs = true → ∀ x ∈ xs, 0 ≤ x ∧ x ≤ 3
  | [], _, _, x, hx => by simp at hx
  | y :: ys, seen, h, x, hx => by
    unfold freshB at h
    simp only [Bool.and_eq_true, decide_eq_true_eq] at h
    rcases List.mem_cons.1 hx with rfl | hx
    · exact h.1
    · exact freshB_mem ys _ h.2.2 x hx
theorem qfreshB_eq : ∀ (xs seen : List Int), qfreshB seen xs = freshB (somebody seen) (somebody xs)
  | [], seen => rfl
  | x :: xs, seen => by
    unfold qfreshB
    rw [qfreshB_eq xs (seen ++ [x])]
    by_cases h : x = -1
    · subst h
      simp [somebody]
    · have hm : x ∈ somebody seen ↔ x ∈ seen := by simp [somebody, h]
      rw [if_neg h]
      have e : somebody (x :: xs) = x :: somebody xs := by simp [somebody, h]
      rw [e]
      have e2 : somebody (seen ++ [x]) = somebody seen ++ [x] := by simp [somebody, h]
      rw [e2]
      conv => rhs; unfold freshB
      simp only [hm]
/-- A right gate. -/
def gateOk (owner : Int) (waits queues : List Int) : Bool :=
  decide (queues.length ≤ 2) && (freshB [] ((if owner = -1 then [] else [owner]) ++ waits ++ somebody queues) && decide (owner ≠ -1 ∨ waits.length = 0))
theorem gateOk_low {owner : Int} {waits queues : List Int} (h : ¬ (-1 ≤ owner ∧ owner ≤ 3)) : gateOk owner waits queues = false := by
  unfold gateOk
  rw [if_neg (by omega)]
  simp only [List.cons_append, List.nil_append]
  unfold freshB
  have : ¬ (0 ≤ owner ∧ owner ≤ 3) := by omega
  simp [this]
def inGate (owner : Int) (waits queues : List Int) : List Int := (if owner = -1 then [] else [owner]) ++ waits ++ somebody queues
theorem inGate_len (owner : Int) (waits queues : List Int) : (inGate owner waits queues).length ≤ 1 + waits.length + queues.length := by
  unfold inGate somebody
  have := List.length_filter_le (fun x : Int => decide (x ≠ -1)) queues
  rw [List.length_append, List.length_append]
  split <;> simp only [List.length_nil, List.length_cons] <;> omega
/-- How the reference tells a right gate. -/
theorem gateOk_spec (owner : Int) (waits queues : List Int) : gateOk owner waits queues = (decide (-1 ≤ owner ∧ owner ≤ 3) && (decide (queues.length ≤ 2) && (!(decide (owner < 0) && decide (0 < waits.length)) && (freshB (if 0 ≤ owner then [owner] else []) waits && qfreshB ((if 0 ≤ owner then [owner] else []) ++ waits) queues)))) := by
  by_cases h1 : -1 ≤ owner ∧ owner ≤ 3
  · by_cases h3 : owner < 0
    · have ho : owner = -1 := by omega
      subst ho
      by_cases h4 : waits = []
      · subst h4
        rw [qfreshB_eq]
        simp [gateOk, freshB, somebody]
      · have : ¬ waits.length = 0 := by simpa using h4
        simp [gateOk, h4, List.length_pos_iff]
    · have ho : ¬ owner = -1 := by omega
      have ho2 : 0 ≤ owner ∧ owner ≤ 3 := by omega
      rw [if_pos ho2.1, qfreshB_eq]
      unfold gateOk
      rw [if_neg ho, freshB_app ([owner] ++ waits), freshB_app [owner]]
      have e1 : freshB [] [owner] = true := by simp [freshB, ho2]
      rw [e1]
      simp only [h1, h3, and_self, decide_true, decide_false, Bool.true_and, List.nil_append, ho, not_false_eq_true, true_or, ne_eq, Bool.and_true, Bool.false_and, Bool.not_false]
      cases hf : freshB [owner] waits with
      | false => simp
      | true =>
        have hm := freshB_mem _ _ hf
        have e2 : somebody ([owner] ++ waits) = [owner] ++ waits := by
          unfold somebody
          rw [List.filter_eq_self]
          intro x hx
          rcases List.mem_append.1 hx with hx | hx
          · have := List.mem_singleton.1 hx
            exact decide_eq_true (by omega)
          · have := hm x hx
            exact decide_eq_true (by omega)
        rw [e2]
  · rw [gateOk_low h1]
    simp [h1]
theorem map_cI_snoc {xs : List Int} {y : Int} : xs.map cI ++ [[.int .i64 y]] = (xs ++ [y]).map cI := by simp
theorem map_cI_app {xs ys : List Int} : xs.map cI ++ ys.map cI = (xs ++ ys).map cI := by simp
theorem map_cI_one {y : Int} : [[AV.int .i64 y]] = [y].map cI := rfl
/-- A loop that goes on, or gives false. -/
def okR (b : Bool) (e : Nat) (s : St) (t : Nat) : Option (Ex × St) := if b = true then some (.exit e, s) else some (.ret, ⟨[(t, .bool false)], []⟩)
theorem okR_true {e t : Nat} {s : St} : okR true e s t = some (.exit e, s) := rfl
theorem okR_false {e t : Nat} {s : St} : okR false e s t = some (.ret, ⟨[(t, .bool false)], []⟩) := rfl
theorem goE_okR {ctx : Ctx} {base : Nat} {b : Bool} {e t : Nat} {s : St} {K : List Fr} : goE ctx base (okR b e s t) K = if b = true then unw ctx base K (.exit e) s else unw ctx base K .ret ⟨[(t, .bool false)], []⟩ := by
  unfold okR; split <;> rfl
theorem mem_fIx {xs : List Int} {x : Int} : ∀ {i : Nat}, (0 ≤ fIx (fun y => decide (x = y)) xs i) = (x ∈ xs) := by
  induction xs with
  | nil => intro i; simp [fIx]
  | cons y ys ih =>
    intro i
    by_cases h : x = y
    · subst h; simp [fIx]
    · simp only [fIx, h, decide_false, Bool.false_eq_true, if_false, ih, List.mem_cons, false_or]
theorem sem_spec_l01In (a lo hi : Int) : S_spec_l01In.sem [.int .i64 a, .int .i64 lo, .int .i64 hi] = some (.bool (decide (lo ≤ a ∧ a ≤ hi)), []) := by
  rw [sg_spec_l01In, sem_go]
  simp (maxSteps := 10000000) (disch := first | assumption | omega) only [F_spec_l01In, params, EG, EL, ↓reduceIte, Nat.reduceEqDiff, Nat.reduceAdd, Nat.reduceSub, Nat.reduceMul, Nat.reduceLeDiff, Nat.reduceLT, Int.reduceLT, Int.reduceLE, Int.reduceEq, Int.reduceToNat, reduceCtorEq, set_cI, set_cS, set_cB, splice_eq, seg_mkL, mkL_length, seg_nil, seg_one, seg_tail, seg_tailM, pos_succ, Nat.add_sub_cancel, seg_full, seg_map, take_map_len, take_len, flat_cI, flat_cS, flat_cB, solid_cI, solid_cS, solid_cB, cx_spec_l01In]
  by_cases h1 : lo ≤ a <;> by_cases h2 : a ≤ hi <;> simp [h1, h2]
theorem sem_impl_within (a lo hi : Int) : S_impl_within.sem [.int .i64 a, .int .i64 lo, .int .i64 hi] = some (.bool (decide (lo ≤ a ∧ a ≤ hi)), []) := by
  rw [sg_impl_within, sem_go]
  simp (maxSteps := 10000000) (disch := first | assumption | omega) only [F_impl_within, params, EG, EL, ↓reduceIte, Nat.reduceEqDiff, Nat.reduceAdd, Nat.reduceSub, Nat.reduceMul, Nat.reduceLeDiff, Nat.reduceLT, Int.reduceLT, Int.reduceLE, Int.reduceEq, Int.reduceToNat, reduceCtorEq, set_cI, set_cS, set_cB, splice_eq, seg_mkL, mkL_length, seg_nil, seg_one, seg_tail, seg_tailM, pos_succ, Nat.add_sub_cancel, seg_full, seg_map, take_map_len, take_len, flat_cI, flat_cS, flat_cB, solid_cI, solid_cS, solid_cB, cx_impl_within]
  by_cases h1 : lo ≤ a <;> by_cases h2 : a ≤ hi <;> simp [h1, h2]
theorem sem_spec_l12In (xs : List Int) (x : Int) (hl : xs.length ≤ 140737488351232) : S_spec_l12In.sem [.tree 1 (xs.map cI), .int .i64 x] = some (.bool (decide (x ∈ xs)), []) := by
  have loop : loopV X_spec_l12In 0 [0, 1, 5] [(1, []), (0, [4])] B0_spec_l12In ⟨[(0, .tree 1 (xs.map cI)), (1, .int .i64 x), (5, .int .i64 0)], []⟩ = if x ∈ xs then some (.ret, ⟨[(4, .bool true)], []⟩) else some (.exit 0, ⟨[], []⟩) := by
    refine loop_list xs (fun _ (_ : Unit) => True) (fun i _ => ⟨[(0, .tree 1 (xs.map cI)), (1, .int .i64 x), (5, .int .i64 (i : Int))], []⟩) (fun rest _ => if x ∈ rest then some (.ret, ⟨[(4, .bool true)], []⟩) else some (.exit 0, ⟨[], []⟩)) ?_ ?_ () trivial
    · intro _ _
      rw [loopV_by B0_spec_l12In.eq_1]
      simp only [EG, EL, ↓reduceIte, Nat.reduceEqDiff, Nat.reduceAdd, Nat.reduceSub, Nat.reduceMul, Nat.reduceLeDiff, Nat.reduceLT, Int.reduceLT, Int.reduceLE, Int.reduceEq, Int.reduceToNat, reduceCtorEq, set_cI, set_cS, set_cB, splice_eq, seg_mkL, mkL_length, seg_nil, seg_one, seg_tail, seg_tailM, pos_succ, Nat.add_sub_cancel, seg_full, seg_map, take_map_len, take_len, flat_cI, flat_cS, flat_cB, solid_cI, solid_cS, solid_cB, int_lt_irrefl, List.not_mem_nil]
    · rintro i h y rest _ rfl rfl _ ih
      have hi : (i : Int) < (xs.length : Int) := by omega
      rw [loopV_by B0_spec_l12In.eq_1]
      simp (maxSteps := 10000000) (disch := first | assumption | omega) only [EG, EL, ↓reduceIte, Nat.reduceEqDiff, Nat.reduceAdd, Nat.reduceSub, Nat.reduceMul, Nat.reduceLeDiff, Nat.reduceLT, Int.reduceLT, Int.reduceLE, Int.reduceEq, Int.reduceToNat, reduceCtorEq, set_cI, set_cS, set_cB, splice_eq, seg_mkL, mkL_length, seg_nil, seg_one, seg_tail, seg_tailM, pos_succ, Nat.add_sub_cancel, seg_full, seg_map, take_map_len, take_len, flat_cI, flat_cS, flat_cB, solid_cI, solid_cS, solid_cB, hi, wrap_succ, getRow _ _ h, ih () trivial]
      by_cases h1 : xs[i] = x
      · simp [h1]
      · have h1' : ¬ x = xs[i] := fun e => h1 e.symm
        simp only [h1, h1', if_false, List.mem_cons, false_or]
  rw [sg_spec_l12In, sem_go]
  simp (maxSteps := 10000000) (disch := first | assumption | omega) only [F_spec_l12In, params, EG, EL, ↓reduceIte, Nat.reduceEqDiff, Nat.reduceAdd, Nat.reduceSub, Nat.reduceMul, Nat.reduceLeDiff, Nat.reduceLT, Int.reduceLT, Int.reduceLE, Int.reduceEq, Int.reduceToNat, reduceCtorEq, set_cI, set_cS, set_cB, splice_eq, seg_mkL, mkL_length, seg_nil, seg_one, seg_tail, seg_tailM, pos_succ, Nat.add_sub_cancel, seg_full, seg_map, take_map_len, take_len, flat_cI, flat_cS, flat_cB, solid_cI, solid_cS, solid_cB, loop]
  by_cases h : x ∈ xs <;> simp only [h, EG, EL, ↓reduceIte, Nat.reduceEqDiff, Nat.reduceAdd, Nat.reduceSub, Nat.reduceMul, Nat.reduceLeDiff, Nat.reduceLT, Int.reduceLT, Int.reduceLE, Int.reduceEq, Int.reduceToNat, reduceCtorEq, set_cI, set_cS, set_cB, splice_eq, seg_mkL, mkL_length, seg_nil, seg_one, seg_tail, seg_tailM, pos_succ, Nat.add_sub_cancel, seg_full, seg_map, take_map_len, take_len, flat_cI, flat_cS, flat_cB, solid_cI, solid_cS, solid_cB, decide_true, decide_false]
theorem sem_slices_Index_int_int (xs : List Int) (x : Int) (hl : xs.length ≤ 140737488351232) : S_slices_Index_int_int.sem [.tree 1 (xs.map cI), .int .i64 x] = some (.int .i64 (fIx (fun y => decide (x = y)) xs 0), []) := by
  have loop : loopV X_slices_Index_int_int 0 [0, 1, 7, 8] [(1, []), (0, [4])] B0_slices_Index_int_int ⟨[(0, .tree 1 (xs.map cI)), (1, .int .i64 x), (7, .int .i64 xs.length), (8, .int .i64 0)], []⟩ = fixR 4 (fIx (fun y => decide (x = y)) xs 0) := by
    refine loop_list xs (fun i a => a = i) (fun i a => ⟨[(0, .tree 1 (xs.map cI)), (1, .int .i64 x), (7, .int .i64 xs.length), (8, .int .i64 (i : Int))], []⟩) (fun rest a => fixR 4 (fIx (fun y => decide (x = y)) rest a)) ?_ ?_ 0 rfl
    · rintro a rfl
      rw [loopV_by B0_slices_Index_int_int.eq_1]
      simp only [EG, EL, ↓reduceIte, Nat.reduceEqDiff, Nat.reduceAdd, Nat.reduceSub, Nat.reduceMul, Nat.reduceLeDiff, Nat.reduceLT, Int.reduceLT, Int.reduceLE, Int.reduceEq, Int.reduceToNat, reduceCtorEq, set_cI, set_cS, set_cB, splice_eq, seg_mkL, mkL_length, seg_nil, seg_one, seg_tail, seg_tailM, pos_succ, Nat.add_sub_cancel, seg_full, seg_map, take_map_len, take_len, flat_cI, flat_cS, flat_cB, solid_cI, solid_cS, solid_cB, int_lt_irrefl]
      exact fixR_nil
    · rintro i h y rest a rfl rfl rfl ih
      have hi : (a : Int) < (xs.length : Int) := by omega
      rw [loopV_by B0_slices_Index_int_int.eq_1]
      simp (maxSteps := 10000000) (disch := first | assumption | omega) only [EG, EL, ↓reduceIte, Nat.reduceEqDiff, Nat.reduceAdd, Nat.reduceSub, Nat.reduceMul, Nat.reduceLeDiff, Nat.reduceLT, Int.reduceLT, Int.reduceLE, Int.reduceEq, Int.reduceToNat, reduceCtorEq, set_cI, set_cS, set_cB, splice_eq, seg_mkL, mkL_length, seg_nil, seg_one, seg_tail, seg_tailM, pos_succ, Nat.add_sub_cancel, seg_full, seg_map, take_map_len, take_len, flat_cI, flat_cS, flat_cB, solid_cI, solid_cS, solid_cB, hi, wrap_succ, getRow _ _ h, ih _ rfl]
      by_cases h1 : x = xs[a] <;> simp only [h1, if_true, if_false]
      · exact fixR_yes (by simp)
      · exact fixR_no (by simp [h1])
  rw [sg_slices_Index_int_int, sem_go]
  simp (maxSteps := 10000000) (disch := first | assumption | omega) only [F_slices_Index_int_int, params, EG, EL, ↓reduceIte, Nat.reduceEqDiff, Nat.reduceAdd, Nat.reduceSub, Nat.reduceMul, Nat.reduceLeDiff, Nat.reduceLT, Int.reduceLT, Int.reduceLE, Int.reduceEq, Int.reduceToNat, reduceCtorEq, set_cI, set_cS, set_cB, splice_eq, seg_mkL, mkL_length, seg_nil, seg_one, seg_tail, seg_tailM, pos_succ, Nat.add_sub_cancel, seg_full, seg_map, take_map_len, take_len, flat_cI, flat_cS, flat_cB, solid_cI, solid_cS, solid_cB, loop, goE_fixR]
  rcases @fIx_ge _ (fun y => decide (x = y)) xs 0 with h | h
  · simp [h]
  · rw [if_neg (by omega)]
theorem sem_slices_Contains_int_int (xs : List Int) (x : Int) (hl : xs.length ≤ 140737488351232) : S_slices_Contains_int_int.sem [.tree 1 (xs.map cI), .int .i64 x] = some (.bool (decide (x ∈ xs)), []) := by
  rw [sg_slices_Contains_int_int, sem_go]
  simp (maxSteps := 10000000) (disch := first | assumption | omega) only [F_slices_Contains_int_int, params, EG, EL, ↓reduceIte, Nat.reduceEqDiff, Nat.reduceAdd, Nat.reduceSub, Nat.reduceMul, Nat.reduceLeDiff, Nat.reduceLT, Int.reduceLT, Int.reduceLE, Int.reduceEq, Int.reduceToNat, reduceCtorEq, set_cI, set_cS, set_cB, splice_eq, seg_mkL, mkL_length, seg_nil, seg_one, seg_tail, seg_tailM, pos_succ, Nat.add_sub_cancel, seg_full, seg_map, take_map_len, take_len, flat_cI, flat_cS, flat_cB, solid_cI, solid_cS, solid_cB, cx_slices_Contains_int_int, cl_slices_Index_int_int, sem_slices_Index_int_int, mem_fIx]
theorem sem_spec_l12Copy (x : DGate) (h : x.Waits.length + x.Queues.length ≤ 1099511627776) : S_spec_l12Copy.sem [.agg (cGate x)] = some (.agg (cGate x), []) := by
  have h1 : x.Waits.length * 8 ≤ 70368744177664 := by omega
  have h2 : x.Queues.length * 8 ≤ 70368744177664 := by omega
  rw [sg_spec_l12Copy, sem_go]
  simp (maxSteps := 10000000) (disch := first | assumption | omega) only [F_spec_l12Copy, params, EG, EL, ↓reduceIte, Nat.reduceEqDiff, Nat.reduceAdd, Nat.reduceSub, Nat.reduceMul, Nat.reduceLeDiff, Nat.reduceLT, Int.reduceLT, Int.reduceLE, Int.reduceEq, Int.reduceToNat, reduceCtorEq, set_cI, set_cS, set_cB, splice_eq, seg_mkL, mkL_length, seg_nil, seg_one, seg_tail, seg_tailM, pos_succ, Nat.add_sub_cancel, seg_full, seg_map, take_map_len, take_len, flat_cI, flat_cS, flat_cB, solid_cI, solid_cS, solid_cB, ED, cx_spec_l12Copy, h1, h2]
theorem sem_impl_copyGate (x : DGate) (h : x.Waits.length + x.Queues.length ≤ 1099511627776) : S_impl_copyGate.sem [.agg (cGate x)] = some (.agg (cGate x), []) := by
  have h1 : x.Waits.length * 8 ≤ 70368744177664 := by omega
  have h2 : x.Queues.length * 8 ≤ 70368744177664 := by omega
  rw [sg_impl_copyGate, sem_go]
  simp (maxSteps := 10000000) (disch := first | assumption | omega) only [F_impl_copyGate, params, EG, EL, ↓reduceIte, Nat.reduceEqDiff, Nat.reduceAdd, Nat.reduceSub, Nat.reduceMul, Nat.reduceLeDiff, Nat.reduceLT, Int.reduceLT, Int.reduceLE, Int.reduceEq, Int.reduceToNat, reduceCtorEq, set_cI, set_cS, set_cB, splice_eq, seg_mkL, mkL_length, seg_nil, seg_one, seg_tail, seg_tailM, pos_succ, Nat.add_sub_cancel, seg_full, seg_map, take_map_len, take_len, flat_cI, flat_cS, flat_cB, solid_cI, solid_cS, solid_cB, ED, cx_impl_copyGate, h1, h2]
theorem sem_spec_GateOk (x : DGate) (h : x.Waits.length + x.Queues.length ≤ 1099511627776) : S_spec_GateOk.sem [.agg (cGate x)] = some (.bool (gateOk x.Owner x.Waits x.Queues), []) := by
  have loop0 : ∀ all : List Int, all.length ≤ 1 → loopV X_spec_GateOk 0 [1, 3, 4] [(1, [1, 3]), (0, [2])] B0_spec_GateOk ⟨[(1, .ptr ⟨0, none, 0⟩ 3 0 0), (3, .sl ⟨1, none, 0⟩ 1 0 all.length), (4, .int .i64 0)], [some ⟨true, 0, 3, [cGate x]⟩, some ⟨false, 0, 1, all.map cI⟩]⟩ = okR (freshB all x.Waits) 0 ⟨[(1, .ptr ⟨0, none, 0⟩ 3 0 0), (3, .sl ⟨1, none, 0⟩ 1 0 (all ++ x.Waits).length)], [some ⟨true, 0, 3, [cGate x]⟩, some ⟨false, 0, 1, (all ++ x.Waits).map cI⟩]⟩ 2 := by
    intro all hall
    refine loop_list x.Waits (fun i (a : List Int) => a.length ≤ 1 + i) (fun i a => ⟨[(1, .ptr ⟨0, none, 0⟩ 3 0 0), (3, .sl ⟨1, none, 0⟩ 1 0 a.length), (4, .int .i64 ((i : Nat) : Int))], [some ⟨true, 0, 3, [cGate x]⟩, some ⟨false, 0, 1, a.map cI⟩]⟩) (fun rest a => okR (freshB a rest) 0 ⟨[(1, .ptr ⟨0, none, 0⟩ 3 0 0), (3, .sl ⟨1, none, 0⟩ 1 0 (a ++ rest).length)], [some ⟨true, 0, 3, [cGate x]⟩, some ⟨false, 0, 1, (a ++ rest).map cI⟩]⟩ 2) ?_ ?_ all hall
    · intro a _
      rw [loopV_by B0_spec_GateOk.eq_1]
      simp only [EG, EL, ↓reduceIte, Nat.reduceEqDiff, Nat.reduceAdd, Nat.reduceSub, Nat.reduceMul, Nat.reduceLeDiff, Nat.reduceLT, Int.reduceLT, Int.reduceLE, Int.reduceEq, Int.reduceToNat, reduceCtorEq, set_cI, set_cS, set_cB, splice_eq, seg_mkL, mkL_length, seg_nil, seg_one, seg_tail, seg_tailM, pos_succ, Nat.add_sub_cancel, seg_full, seg_map, take_map_len, take_len, flat_cI, flat_cS, flat_cB, solid_cI, solid_cS, solid_cB, int_lt_irrefl, freshB, okR_true]
    · rintro i hi0 y rest a rfl rfl ha ih
      have hi : (i : Int) < (x.Waits.length : Int) := by omega
      have hc : (a.length + 1) * 8 ≤ 70368744177664 := by omega
      have hm : a.length ≤ 140737488351232 := by omega
      rw [loopV_by B0_spec_GateOk.eq_1]
      simp (maxSteps := 10000000) (disch := first | assumption | omega) only [EG, EL, ↓reduceIte, Nat.reduceEqDiff, Nat.reduceAdd, Nat.reduceSub, Nat.reduceMul, Nat.reduceLeDiff, Nat.reduceLT, Int.reduceLT, Int.reduceLE, Int.reduceEq, Int.reduceToNat, reduceCtorEq, set_cI, set_cS, set_cB, splice_eq, seg_mkL, mkL_length, seg_nil, seg_one, seg_tail, seg_tailM, pos_succ, Nat.add_sub_cancel, seg_full, seg_map, take_map_len, take_len, flat_cI, flat_cS, flat_cB, solid_cI, solid_cS, solid_cB, hi, wrap_succ, getRow _ _ hi0, hc, cx_spec_GateOk, cl_spec_l01In, sem_spec_l01In, cl_spec_l12In, sem_spec_l12In, map_cI_snoc, freshB]
      by_cases h1 : 0 ≤ x.Waits[i] ∧ x.Waits[i] ≤ 3
      · by_cases h2 : x.Waits[i] ∈ a
        · simp only [h1, h2, EG, EL, ↓reduceIte, Nat.reduceEqDiff, Nat.reduceAdd, Nat.reduceSub, Nat.reduceMul, Nat.reduceLeDiff, Nat.reduceLT, Int.reduceLT, Int.reduceLE, Int.reduceEq, Int.reduceToNat, reduceCtorEq, set_cI, set_cS, set_cB, splice_eq, seg_mkL, mkL_length, seg_nil, seg_one, seg_tail, seg_tailM, pos_succ, Nat.add_sub_cancel, seg_full, seg_map, take_map_len, take_len, flat_cI, flat_cS, flat_cB, solid_cI, solid_cS, solid_cB, not_true_eq_false, okR_false, Bool.false_and, Bool.and_false, decide_true]
        · have := ih (a ++ [x.Waits[i]]) (by simp; omega)
          simp only [EG, EL, ↓reduceIte, Nat.reduceEqDiff, Nat.reduceAdd, Nat.reduceSub, Nat.reduceMul, Nat.reduceLeDiff, Nat.reduceLT, Int.reduceLT, Int.reduceLE, Int.reduceEq, Int.reduceToNat, reduceCtorEq, set_cI, set_cS, set_cB, splice_eq, seg_mkL, mkL_length, seg_nil, seg_one, seg_tail, seg_tailM, pos_succ, Nat.add_sub_cancel, seg_full, seg_map, take_map_len, take_len, flat_cI, flat_cS, flat_cB, solid_cI, solid_cS, solid_cB, List.append_assoc] at this
          simp only [h1, h2, EG, EL, ↓reduceIte, Nat.reduceEqDiff, Nat.reduceAdd, Nat.reduceSub, Nat.reduceMul, Nat.reduceLeDiff, Nat.reduceLT, Int.reduceLT, Int.reduceLE, Int.reduceEq, Int.reduceToNat, reduceCtorEq, set_cI, set_cS, set_cB, splice_eq, seg_mkL, mkL_length, seg_nil, seg_one, seg_tail, seg_tailM, pos_succ, Nat.add_sub_cancel, seg_full, seg_map, take_map_len, take_len, flat_cI, flat_cS, flat_cB, solid_cI, solid_cS, solid_cB, this, decide_true, not_false_eq_true, List.append_assoc]
      · simp only [h1, EG, EL, ↓reduceIte, Nat.reduceEqDiff, Nat.reduceAdd, Nat.reduceSub, Nat.reduceMul, Nat.reduceLeDiff, Nat.reduceLT, Int.reduceLT, Int.reduceLE, Int.reduceEq, Int.reduceToNat, reduceCtorEq, set_cI, set_cS, set_cB, splice_eq, seg_mkL, mkL_length, seg_nil, seg_one, seg_tail, seg_tailM, pos_succ, Nat.add_sub_cancel, seg_full, seg_map, take_map_len, take_len, flat_cI, flat_cS, flat_cB, solid_cI, solid_cS, solid_cB, okR_false, Bool.false_and, decide_false]
  have loop1 : ∀ all : List Int, all.length ≤ 1 + x.Waits.length → loopV X_spec_GateOk 0 [1, 3, 5] [(3, []), (0, [2])] B1_spec_GateOk ⟨[(1, .ptr ⟨0, none, 0⟩ 3 0 0), (3, .sl ⟨1, none, 0⟩ 1 0 all.length), (5, .int .i64 0)], [some ⟨true, 0, 3, [cGate x]⟩, some ⟨false, 0, 1, all.map cI⟩]⟩ = okR (qfreshB all x.Queues) 2 ⟨[], []⟩ 2 := by
    intro all hall
    refine loop_list x.Queues (fun i (a : List Int) => a.length ≤ 1 + x.Waits.length + i) (fun i a => ⟨[(1, .ptr ⟨0, none, 0⟩ 3 0 0), (3, .sl ⟨1, none, 0⟩ 1 0 a.length), (5, .int .i64 ((i : Nat) : Int))], [some ⟨true, 0, 3, [cGate x]⟩, some ⟨false, 0, 1, a.map cI⟩]⟩) (fun rest a => okR (qfreshB a rest) 2 ⟨[], []⟩ 2) ?_ ?_ all hall
    · intro a _
      rw [loopV_by B1_spec_GateOk.eq_1]
      simp only [EG, EL, ↓reduceIte, Nat.reduceEqDiff, Nat.reduceAdd, Nat.reduceSub, Nat.reduceMul, Nat.reduceLeDiff, Nat.reduceLT, Int.reduceLT, Int.reduceLE, Int.reduceEq, Int.reduceToNat, reduceCtorEq, set_cI, set_cS, set_cB, splice_eq, seg_mkL, mkL_length, seg_nil, seg_one, seg_tail, seg_tailM, pos_succ, Nat.add_sub_cancel, seg_full, seg_map, take_map_len, take_len, flat_cI, flat_cS, flat_cB, solid_cI, solid_cS, solid_cB, int_lt_irrefl, qfreshB, okR_true]
    · rintro i hi0 y rest a rfl rfl ha ih
      have hi : (i : Int) < (x.Queues.length : Int) := by omega
      have hc : (a.length + 1) * 8 ≤ 70368744177664 := by omega
      have hm : a.length ≤ 140737488351232 := by omega
      have := ih (a ++ [x.Queues[i]]) (by simp; omega)
      simp only [EG, EL, ↓reduceIte, Nat.reduceEqDiff, Nat.reduceAdd, Nat.reduceSub, Nat.reduceMul, Nat.reduceLeDiff, Nat.reduceLT, Int.reduceLT, Int.reduceLE, Int.reduceEq, Int.reduceToNat, reduceCtorEq, set_cI, set_cS, set_cB, splice_eq, seg_mkL, mkL_length, seg_nil, seg_one, seg_tail, seg_tailM, pos_succ, Nat.add_sub_cancel, seg_full, seg_map, take_map_len, take_len, flat_cI, flat_cS, flat_cB, solid_cI, solid_cS, solid_cB, List.append_assoc] at this
      rw [loopV_by B1_spec_GateOk.eq_1]
      simp (maxSteps := 10000000) (disch := first | assumption | omega) only [EG, EL, ↓reduceIte, Nat.reduceEqDiff, Nat.reduceAdd, Nat.reduceSub, Nat.reduceMul, Nat.reduceLeDiff, Nat.reduceLT, Int.reduceLT, Int.reduceLE, Int.reduceEq, Int.reduceToNat, reduceCtorEq, set_cI, set_cS, set_cB, splice_eq, seg_mkL, mkL_length, seg_nil, seg_one, seg_tail, seg_tailM, pos_succ, Nat.add_sub_cancel, seg_full, seg_map, take_map_len, take_len, flat_cI, flat_cS, flat_cB, solid_cI, solid_cS, solid_cB, hi, wrap_succ, getRow _ _ hi0, hc, cx_spec_GateOk, cl_spec_l01In, sem_spec_l01In, cl_spec_l12In, sem_spec_l12In, map_cI_snoc, qfreshB, this]
      by_cases h0 : x.Queues[i] = -1
      · simp only [h0, EG, EL, ↓reduceIte, Nat.reduceEqDiff, Nat.reduceAdd, Nat.reduceSub, Nat.reduceMul, Nat.reduceLeDiff, Nat.reduceLT, Int.reduceLT, Int.reduceLE, Int.reduceEq, Int.reduceToNat, reduceCtorEq, set_cI, set_cS, set_cB, splice_eq, seg_mkL, mkL_length, seg_nil, seg_one, seg_tail, seg_tailM, pos_succ, Nat.add_sub_cancel, seg_full, seg_map, take_map_len, take_len, flat_cI, flat_cS, flat_cB, solid_cI, solid_cS, solid_cB]
      · simp only [h0, if_false]
        by_cases h1 : 0 ≤ x.Queues[i] ∧ x.Queues[i] ≤ 3
        · have h3 : -1 ≤ x.Queues[i] := by omega
          by_cases h2 : x.Queues[i] ∈ a
          · simp only [h1, h2, h3, EG, EL, ↓reduceIte, Nat.reduceEqDiff, Nat.reduceAdd, Nat.reduceSub, Nat.reduceMul, Nat.reduceLeDiff, Nat.reduceLT, Int.reduceLT, Int.reduceLE, Int.reduceEq, Int.reduceToNat, reduceCtorEq, set_cI, set_cS, set_cB, splice_eq, seg_mkL, mkL_length, seg_nil, seg_one, seg_tail, seg_tailM, pos_succ, Nat.add_sub_cancel, seg_full, seg_map, take_map_len, take_len, flat_cI, flat_cS, flat_cB, solid_cI, solid_cS, solid_cB, not_true_eq_false, okR_false, Bool.false_and, Bool.and_false, decide_true]
          · simp only [h1, h2, h3, EG, EL, ↓reduceIte, Nat.reduceEqDiff, Nat.reduceAdd, Nat.reduceSub, Nat.reduceMul, Nat.reduceLeDiff, Nat.reduceLT, Int.reduceLT, Int.reduceLE, Int.reduceEq, Int.reduceToNat, reduceCtorEq, set_cI, set_cS, set_cB, splice_eq, seg_mkL, mkL_length, seg_nil, seg_one, seg_tail, seg_tailM, pos_succ, Nat.add_sub_cancel, seg_full, seg_map, take_map_len, take_len, flat_cI, flat_cS, flat_cB, solid_cI, solid_cS, solid_cB, decide_true, not_false_eq_true]
        · have h3 : ¬ (-1 ≤ x.Queues[i] ∧ x.Queues[i] ≤ 3) := by omega
          simp only [h1, h3, EG, EL, ↓reduceIte, Nat.reduceEqDiff, Nat.reduceAdd, Nat.reduceSub, Nat.reduceMul, Nat.reduceLeDiff, Nat.reduceLT, Int.reduceLT, Int.reduceLE, Int.reduceEq, Int.reduceToNat, reduceCtorEq, set_cI, set_cS, set_cB, splice_eq, seg_mkL, mkL_length, seg_nil, seg_one, seg_tail, seg_tailM, pos_succ, Nat.add_sub_cancel, seg_full, seg_map, take_map_len, take_len, flat_cI, flat_cS, flat_cB, solid_cI, solid_cS, solid_cB, okR_false, Bool.false_and, decide_false]
  rw [sg_spec_GateOk, sem_go, gateOk_spec]
  simp (maxSteps := 10000000) (disch := first | assumption | omega) only [F_spec_GateOk, params, EG, EL, ↓reduceIte, Nat.reduceEqDiff, Nat.reduceAdd, Nat.reduceSub, Nat.reduceMul, Nat.reduceLeDiff, Nat.reduceLT, Int.reduceLT, Int.reduceLE, Int.reduceEq, Int.reduceToNat, reduceCtorEq, set_cI, set_cS, set_cB, splice_eq, seg_mkL, mkL_length, seg_nil, seg_one, seg_tail, seg_tailM, pos_succ, Nat.add_sub_cancel, seg_full, seg_map, take_map_len, take_len, flat_cI, flat_cS, flat_cB, solid_cI, solid_cS, solid_cB, cx_spec_GateOk, cl_spec_l01In, sem_spec_l01In]
  by_cases h1 : -1 ≤ x.Owner ∧ x.Owner ≤ 3
  · by_cases h2 : x.Queues.length ≤ 2
    · have h2' : ¬ (2 : Int) < (x.Queues.length : Int) := by omega
      by_cases h3 : x.Owner < 0
      · have h3' : ¬ 0 ≤ x.Owner := by omega
        by_cases h4 : 0 < x.Waits.length
        · have h4' : (0 : Int) < (x.Waits.length : Int) := by omega
          simp only [h1, h2, h2', h3, h4, h4', EG, EL, ↓reduceIte, Nat.reduceEqDiff, Nat.reduceAdd, Nat.reduceSub, Nat.reduceMul, Nat.reduceLeDiff, Nat.reduceLT, Int.reduceLT, Int.reduceLE, Int.reduceEq, Int.reduceToNat, reduceCtorEq, set_cI, set_cS, set_cB, splice_eq, seg_mkL, mkL_length, seg_nil, seg_one, seg_tail, seg_tailM, pos_succ, Nat.add_sub_cancel, seg_full, seg_map, take_map_len, take_len, flat_cI, flat_cS, flat_cB, solid_cI, solid_cS, solid_cB, decide_true, Bool.not_true, Bool.false_and]
        · have h4' : ¬ (0 : Int) < (x.Waits.length : Int) := by omega
          have l0 := loop0 [] (by simp)
          have l1 := loop1 ([] ++ x.Waits) (by simp)
          simp only [EG, EL, ↓reduceIte, Nat.reduceEqDiff, Nat.reduceAdd, Nat.reduceSub, Nat.reduceMul, Nat.reduceLeDiff, Nat.reduceLT, Int.reduceLT, Int.reduceLE, Int.reduceEq, Int.reduceToNat, reduceCtorEq, set_cI, set_cS, set_cB, splice_eq, seg_mkL, mkL_length, seg_nil, seg_one, seg_tail, seg_tailM, pos_succ, Nat.add_sub_cancel, seg_full, seg_map, take_map_len, take_len, flat_cI, flat_cS, flat_cB, solid_cI, solid_cS, solid_cB] at l0 l1
          simp only [h1, h2, h2', h3, h3', h4, h4', EG, EL, ↓reduceIte, Nat.reduceEqDiff, Nat.reduceAdd, Nat.reduceSub, Nat.reduceMul, Nat.reduceLeDiff, Nat.reduceLT, Int.reduceLT, Int.reduceLE, Int.reduceEq, Int.reduceToNat, reduceCtorEq, set_cI, set_cS, set_cB, splice_eq, seg_mkL, mkL_length, seg_nil, seg_one, seg_tail, seg_tailM, pos_succ, Nat.add_sub_cancel, seg_full, seg_map, take_map_len, take_len, flat_cI, flat_cS, flat_cB, solid_cI, solid_cS, solid_cB, decide_true, decide_false, l0, goE_okR]
          cases freshB [] x.Waits <;> simp only [EG, EL, ↓reduceIte, Nat.reduceEqDiff, Nat.reduceAdd, Nat.reduceSub, Nat.reduceMul, Nat.reduceLeDiff, Nat.reduceLT, Int.reduceLT, Int.reduceLE, Int.reduceEq, Int.reduceToNat, reduceCtorEq, set_cI, set_cS, set_cB, splice_eq, seg_mkL, mkL_length, seg_nil, seg_one, seg_tail, seg_tailM, pos_succ, Nat.add_sub_cancel, seg_full, seg_map, take_map_len, take_len, flat_cI, flat_cS, flat_cB, solid_cI, solid_cS, solid_cB, l1, goE_okR]
          cases qfreshB x.Waits x.Queues <;> simp only [EG, EL, ↓reduceIte, Nat.reduceEqDiff, Nat.reduceAdd, Nat.reduceSub, Nat.reduceMul, Nat.reduceLeDiff, Nat.reduceLT, Int.reduceLT, Int.reduceLE, Int.reduceEq, Int.reduceToNat, reduceCtorEq, set_cI, set_cS, set_cB, splice_eq, seg_mkL, mkL_length, seg_nil, seg_one, seg_tail, seg_tailM, pos_succ, Nat.add_sub_cancel, seg_full, seg_map, take_map_len, take_len, flat_cI, flat_cS, flat_cB, solid_cI, solid_cS, solid_cB]
      · have h3' : 0 ≤ x.Owner := by omega
        have l0 := loop0 [x.Owner] (by simp)
        have l1 := loop1 ([x.Owner] ++ x.Waits) (by simp; omega)
        simp only [EG, EL, ↓reduceIte, Nat.reduceEqDiff, Nat.reduceAdd, Nat.reduceSub, Nat.reduceMul, Nat.reduceLeDiff, Nat.reduceLT, Int.reduceLT, Int.reduceLE, Int.reduceEq, Int.reduceToNat, reduceCtorEq, set_cI, set_cS, set_cB, splice_eq, seg_mkL, mkL_length, seg_nil, seg_one, seg_tail, seg_tailM, pos_succ, Nat.add_sub_cancel, seg_full, seg_map, take_map_len, take_len, flat_cI, flat_cS, flat_cB, solid_cI, solid_cS, solid_cB] at l0 l1
        simp only [h1, h2, h2', h3, h3', EG, EL, ↓reduceIte, Nat.reduceEqDiff, Nat.reduceAdd, Nat.reduceSub, Nat.reduceMul, Nat.reduceLeDiff, Nat.reduceLT, Int.reduceLT, Int.reduceLE, Int.reduceEq, Int.reduceToNat, reduceCtorEq, set_cI, set_cS, set_cB, splice_eq, seg_mkL, mkL_length, seg_nil, seg_one, seg_tail, seg_tailM, pos_succ, Nat.add_sub_cancel, seg_full, seg_map, take_map_len, take_len, flat_cI, flat_cS, flat_cB, solid_cI, solid_cS, solid_cB, decide_true, decide_false, Bool.false_and, l0, goE_okR]
        cases freshB [x.Owner] x.Waits <;> simp only [EG, EL, ↓reduceIte, Nat.reduceEqDiff, Nat.reduceAdd, Nat.reduceSub, Nat.reduceMul, Nat.reduceLeDiff, Nat.reduceLT, Int.reduceLT, Int.reduceLE, Int.reduceEq, Int.reduceToNat, reduceCtorEq, set_cI, set_cS, set_cB, splice_eq, seg_mkL, mkL_length, seg_nil, seg_one, seg_tail, seg_tailM, pos_succ, Nat.add_sub_cancel, seg_full, seg_map, take_map_len, take_len, flat_cI, flat_cS, flat_cB, solid_cI, solid_cS, solid_cB, l1, goE_okR]
        cases qfreshB (x.Owner :: x.Waits) x.Queues <;> simp only [EG, EL, ↓reduceIte, Nat.reduceEqDiff, Nat.reduceAdd, Nat.reduceSub, Nat.reduceMul, Nat.reduceLeDiff, Nat.reduceLT, Int.reduceLT, Int.reduceLE, Int.reduceEq, Int.reduceToNat, reduceCtorEq, set_cI, set_cS, set_cB, splice_eq, seg_mkL, mkL_length, seg_nil, seg_one, seg_tail, seg_tailM, pos_succ, Nat.add_sub_cancel, seg_full, seg_map, take_map_len, take_len, flat_cI, flat_cS, flat_cB, solid_cI, solid_cS, solid_cB]
    · have h2' : (2 : Int) < (x.Queues.length : Int) := by omega
      simp only [h1, h2, h2', EG, EL, ↓reduceIte, Nat.reduceEqDiff, Nat.reduceAdd, Nat.reduceSub, Nat.reduceMul, Nat.reduceLeDiff, Nat.reduceLT, Int.reduceLT, Int.reduceLE, Int.reduceEq, Int.reduceToNat, reduceCtorEq, set_cI, set_cS, set_cB, splice_eq, seg_mkL, mkL_length, seg_nil, seg_one, seg_tail, seg_tailM, pos_succ, Nat.add_sub_cancel, seg_full, seg_map, take_map_len, take_len, flat_cI, flat_cS, flat_cB, solid_cI, solid_cS, solid_cB, decide_true, decide_false, Bool.false_and]
  · simp only [h1, EG, EL, ↓reduceIte, Nat.reduceEqDiff, Nat.reduceAdd, Nat.reduceSub, Nat.reduceMul, Nat.reduceLeDiff, Nat.reduceLT, Int.reduceLT, Int.reduceLE, Int.reduceEq, Int.reduceToNat, reduceCtorEq, set_cI, set_cS, set_cB, splice_eq, seg_mkL, mkL_length, seg_nil, seg_one, seg_tail, seg_tailM, pos_succ, Nat.add_sub_cancel, seg_full, seg_map, take_map_len, take_len, flat_cI, flat_cS, flat_cB, solid_cI, solid_cS, solid_cB, decide_false, Bool.false_and]
theorem sem_impl_inGate (x : DGate) (h : x.Waits.length + x.Queues.length ≤ 1099511627776) : S_impl_inGate.sem [.agg (cGate x)] = some (.tree 1 ((inGate x.Owner x.Waits x.Queues).map cI), []) := by
  have loop : ∀ all : List Int, all.length ≤ 1 + x.Waits.length → loopV X_impl_inGate 0 [3, 19, 20, 21] [(1, [3])] B0_impl_inGate ⟨[(3, .sl ⟨0, none, 0⟩ 1 0 all.length), (19, .tree 1 (x.Queues.map cI)), (20, .int .i64 x.Queues.length), (21, .int .i64 0)], [some ⟨false, 0, 1, all.map cI⟩]⟩ = some (.exit 0, ⟨[(3, .sl ⟨0, none, 0⟩ 1 0 (all ++ somebody x.Queues).length)], [some ⟨false, 0, 1, (all ++ somebody x.Queues).map cI⟩]⟩) := by
    intro all hall
    refine loop_list x.Queues (fun i (a : List Int) => a.length ≤ 1 + x.Waits.length + i) (fun i a => ⟨[(3, .sl ⟨0, none, 0⟩ 1 0 a.length), (19, .tree 1 (x.Queues.map cI)), (20, .int .i64 x.Queues.length), (21, .int .i64 ((i : Nat) : Int))], [some ⟨false, 0, 1, a.map cI⟩]⟩) (fun rest a => some (.exit 0, ⟨[(3, .sl ⟨0, none, 0⟩ 1 0 (a ++ somebody rest).length)], [some ⟨false, 0, 1, (a ++ somebody rest).map cI⟩]⟩)) ?_ ?_ all hall
    · intro a _
      rw [loopV_by B0_impl_inGate.eq_1]
      simp only [EG, EL, ↓reduceIte, Nat.reduceEqDiff, Nat.reduceAdd, Nat.reduceSub, Nat.reduceMul, Nat.reduceLeDiff, Nat.reduceLT, Int.reduceLT, Int.reduceLE, Int.reduceEq, Int.reduceToNat, reduceCtorEq, set_cI, set_cS, set_cB, splice_eq, seg_mkL, mkL_length, seg_nil, seg_one, seg_tail, seg_tailM, pos_succ, Nat.add_sub_cancel, seg_full, seg_map, take_map_len, take_len, flat_cI, flat_cS, flat_cB, solid_cI, solid_cS, solid_cB, int_lt_irrefl, somebody, List.filter_nil]
    · rintro i hi0 y rest a rfl rfl ha ih
      have hi : (i : Int) < (x.Queues.length : Int) := by omega
      have hc : (a.length + 1) * 8 ≤ 70368744177664 := by omega
      have i1 := ih (a ++ [x.Queues[i]]) (by simp; omega)
      have i2 := ih a (by omega)
      simp only [EG, EL, ↓reduceIte, Nat.reduceEqDiff, Nat.reduceAdd, Nat.reduceSub, Nat.reduceMul, Nat.reduceLeDiff, Nat.reduceLT, Int.reduceLT, Int.reduceLE, Int.reduceEq, Int.reduceToNat, reduceCtorEq, set_cI, set_cS, set_cB, splice_eq, seg_mkL, mkL_length, seg_nil, seg_one, seg_tail, seg_tailM, pos_succ, Nat.add_sub_cancel, seg_full, seg_map, take_map_len, take_len, flat_cI, flat_cS, flat_cB, solid_cI, solid_cS, solid_cB, List.append_assoc] at i1 i2
      rw [loopV_by B0_impl_inGate.eq_1]
      simp (disch := first | assumption | omega) only [EG, EL, ↓reduceIte, Nat.reduceEqDiff, Nat.reduceAdd, Nat.reduceSub, Nat.reduceMul, Nat.reduceLeDiff, Nat.reduceLT, Int.reduceLT, Int.reduceLE, Int.reduceEq, Int.reduceToNat, reduceCtorEq, set_cI, set_cS, set_cB, splice_eq, seg_mkL, mkL_length, seg_nil, seg_one, seg_tail, seg_tailM, pos_succ, Nat.add_sub_cancel, seg_full, seg_map, take_map_len, take_len, flat_cI, flat_cS, flat_cB, solid_cI, solid_cS, solid_cB, hi, wrap_succ, getRow _ _ hi0, hc, map_cI_snoc]
      by_cases h0 : x.Queues[i] = -1
      · simp only [h0, EG, EL, ↓reduceIte, Nat.reduceEqDiff, Nat.reduceAdd, Nat.reduceSub, Nat.reduceMul, Nat.reduceLeDiff, Nat.reduceLT, Int.reduceLT, Int.reduceLE, Int.reduceEq, Int.reduceToNat, reduceCtorEq, set_cI, set_cS, set_cB, splice_eq, seg_mkL, mkL_length, seg_nil, seg_one, seg_tail, seg_tailM, pos_succ, Nat.add_sub_cancel, seg_full, seg_map, take_map_len, take_len, flat_cI, flat_cS, flat_cB, solid_cI, solid_cS, solid_cB] at i2 ⊢
        simp only [i2, somebody, List.filter_cons, ne_eq, not_true_eq_false, decide_false, Bool.false_eq_true, if_false]
      · simp only [h0, EG, EL, ↓reduceIte, Nat.reduceEqDiff, Nat.reduceAdd, Nat.reduceSub, Nat.reduceMul, Nat.reduceLeDiff, Nat.reduceLT, Int.reduceLT, Int.reduceLE, Int.reduceEq, Int.reduceToNat, reduceCtorEq, set_cI, set_cS, set_cB, splice_eq, seg_mkL, mkL_length, seg_nil, seg_one, seg_tail, seg_tailM, pos_succ, Nat.add_sub_cancel, seg_full, seg_map, take_map_len, take_len, flat_cI, flat_cS, flat_cB, solid_cI, solid_cS, solid_cB, i1, somebody, List.filter_cons, ne_eq, not_false_eq_true, decide_true]
  rw [sg_impl_inGate, sem_go]
  have c1 : (1 + x.Waits.length) * 8 ≤ 70368744177664 := by omega
  have c2 : x.Waits.length * 8 ≤ 70368744177664 := by omega
  by_cases ho : x.Owner = -1
  · have l := loop x.Waits (by omega)
    simp only [EG, EL, ↓reduceIte, Nat.reduceEqDiff, Nat.reduceAdd, Nat.reduceSub, Nat.reduceMul, Nat.reduceLeDiff, Nat.reduceLT, Int.reduceLT, Int.reduceLE, Int.reduceEq, Int.reduceToNat, reduceCtorEq, set_cI, set_cS, set_cB, splice_eq, seg_mkL, mkL_length, seg_nil, seg_one, seg_tail, seg_tailM, pos_succ, Nat.add_sub_cancel, seg_full, seg_map, take_map_len, take_len, flat_cI, flat_cS, flat_cB, solid_cI, solid_cS, solid_cB] at l
    simp (disch := first | assumption | omega) only [F_impl_inGate, params, EG, EL, ↓reduceIte, Nat.reduceEqDiff, Nat.reduceAdd, Nat.reduceSub, Nat.reduceMul, Nat.reduceLeDiff, Nat.reduceLT, Int.reduceLT, Int.reduceLE, Int.reduceEq, Int.reduceToNat, reduceCtorEq, set_cI, set_cS, set_cB, splice_eq, seg_mkL, mkL_length, seg_nil, seg_one, seg_tail, seg_tailM, pos_succ, Nat.add_sub_cancel, seg_full, seg_map, take_map_len, take_len, flat_cI, flat_cS, flat_cB, solid_cI, solid_cS, solid_cB, cx_impl_inGate, ho, c2, l, inGate]
  · have l := loop ([x.Owner] ++ x.Waits) (by simp; omega)
    simp only [EG, EL, ↓reduceIte, Nat.reduceEqDiff, Nat.reduceAdd, Nat.reduceSub, Nat.reduceMul, Nat.reduceLeDiff, Nat.reduceLT, Int.reduceLT, Int.reduceLE, Int.reduceEq, Int.reduceToNat, reduceCtorEq, set_cI, set_cS, set_cB, splice_eq, seg_mkL, mkL_length, seg_nil, seg_one, seg_tail, seg_tailM, pos_succ, Nat.add_sub_cancel, seg_full, seg_map, take_map_len, take_len, flat_cI, flat_cS, flat_cB, solid_cI, solid_cS, solid_cB] at l
    simp (disch := first | assumption | omega) only [F_impl_inGate, params, EG, EL, ↓reduceIte, Nat.reduceEqDiff, Nat.reduceAdd, Nat.reduceSub, Nat.reduceMul, Nat.reduceLeDiff, Nat.reduceLT, Int.reduceLT, Int.reduceLE, Int.reduceEq, Int.reduceToNat, reduceCtorEq, set_cI, set_cS, set_cB, splice_eq, seg_mkL, mkL_length, seg_nil, seg_one, seg_tail, seg_tailM, pos_succ, Nat.add_sub_cancel, seg_full, seg_map, take_map_len, take_len, flat_cI, flat_cS, flat_cB, solid_cI, solid_cS, solid_cB, cx_impl_inGate, ho, c1, Nat.add_comm, l, inGate]
    rw [if_pos (by omega)]
theorem sem_impl_GateOk (x : DGate) (h : x.Waits.length + x.Queues.length ≤ 1099511627776) : S_impl_GateOk.sem [.agg (cGate x)] = some (.bool (gateOk x.Owner x.Waits x.Queues), []) := by
  have hlen := inGate_len x.Owner x.Waits x.Queues
  have hg : gateOk x.Owner x.Waits x.Queues = (freshB [] (inGate x.Owner x.Waits x.Queues) && (decide (x.Queues.length ≤ 2) && decide (x.Owner ≠ -1 ∨ x.Waits.length = 0))) := by
    unfold gateOk inGate
    cases freshB [] ((if x.Owner = -1 then [] else [x.Owner]) ++ x.Waits ++ somebody x.Queues) <;> simp
  rw [hg]
  generalize hall : inGate x.Owner x.Waits x.Queues = all at hlen
  have loop : loopV X_impl_GateOk 0 [1, 3, 8, 9, 10] [(1, [1]), (0, [2])] B0_impl_GateOk ⟨[(1, .ptr ⟨0, none, 0⟩ 3 0 0), (3, .sl ⟨1, none, 0⟩ 1 0 all.length), (8, .sl ⟨1, none, 0⟩ 1 0 all.length), (9, .int .i64 all.length), (10, .int .i64 0)], [some ⟨true, 0, 3, [cGate x]⟩, some ⟨false, 0, 1, all.map cI⟩]⟩ = okR (freshB [] all) 0 ⟨[(1, .ptr ⟨0, none, 0⟩ 3 0 0)], [some ⟨true, 0, 3, [cGate x]⟩]⟩ 2 := by
    refine loop_list all (fun i (a : List Int) => a = all.take i) (fun i a => ⟨[(1, .ptr ⟨0, none, 0⟩ 3 0 0), (3, .sl ⟨1, none, 0⟩ 1 0 all.length), (8, .sl ⟨1, none, 0⟩ 1 0 all.length), (9, .int .i64 all.length), (10, .int .i64 ((i : Nat) : Int))], [some ⟨true, 0, 3, [cGate x]⟩, some ⟨false, 0, 1, all.map cI⟩]⟩) (fun rest a => okR (freshB a rest) 0 ⟨[(1, .ptr ⟨0, none, 0⟩ 3 0 0)], [some ⟨true, 0, 3, [cGate x]⟩]⟩ 2) ?_ ?_ [] (by simp)
    · rintro a rfl
      rw [loopV_by B0_impl_GateOk.eq_1]
      simp only [EG, EL, ↓reduceIte, Nat.reduceEqDiff, Nat.reduceAdd, Nat.reduceSub, Nat.reduceMul, Nat.reduceLeDiff, Nat.reduceLT, Int.reduceLT, Int.reduceLE, Int.reduceEq, Int.reduceToNat, reduceCtorEq, set_cI, set_cS, set_cB, splice_eq, seg_mkL, mkL_length, seg_nil, seg_one, seg_tail, seg_tailM, pos_succ, Nat.add_sub_cancel, seg_full, seg_map, take_map_len, take_len, flat_cI, flat_cS, flat_cB, solid_cI, solid_cS, solid_cB, int_lt_irrefl, freshB, okR_true]
    · rintro i hi0 y rest a rfl rfl rfl ih
      have hi : (i : Int) < (all.length : Int) := by omega
      have hi1 : (i : Int) ≤ (all.length : Int) := by omega
      have hm : (all.take i).length = i := by rw [List.length_take]; omega
      have hm2 : (all.take i).length ≤ 140737488351232 := by omega
      have i1 := ih (all.take i ++ [all[i]]) (by rw [List.take_succ_eq_append_getElem hi0])
      rw [loopV_by B0_impl_GateOk.eq_1]
      simp (disch := first | assumption | omega) only [EG, EL, ↓reduceIte, Nat.reduceEqDiff, Nat.reduceAdd, Nat.reduceSub, Nat.reduceMul, Nat.reduceLeDiff, Nat.reduceLT, Int.reduceLT, Int.reduceLE, Int.reduceEq, Int.reduceToNat, reduceCtorEq, set_cI, set_cS, set_cB, splice_eq, seg_mkL, mkL_length, seg_nil, seg_one, seg_tail, seg_tailM, pos_succ, Nat.add_sub_cancel, seg_full, seg_map, take_map_len, take_len, flat_cI, flat_cS, flat_cB, solid_cI, solid_cS, solid_cB, hi, hi0, hi1, hm, wrap_succ, getRow _ _ hi0, cx_impl_GateOk, cl_impl_within, sem_impl_within, seg_take, cl_slices_Contains_int_int, sem_slices_Contains_int_int, Nat.sub_zero]
      by_cases h1 : 0 ≤ all[i] ∧ all[i] ≤ 3
      · by_cases h2 : all[i] ∈ all.take i
        · simp only [h1, h2, EG, EL, ↓reduceIte, Nat.reduceEqDiff, Nat.reduceAdd, Nat.reduceSub, Nat.reduceMul, Nat.reduceLeDiff, Nat.reduceLT, Int.reduceLT, Int.reduceLE, Int.reduceEq, Int.reduceToNat, reduceCtorEq, set_cI, set_cS, set_cB, splice_eq, seg_mkL, mkL_length, seg_nil, seg_one, seg_tail, seg_tailM, pos_succ, Nat.add_sub_cancel, seg_full, seg_map, take_map_len, take_len, flat_cI, flat_cS, flat_cB, solid_cI, solid_cS, solid_cB, freshB, not_true_eq_false, okR_false, decide_true, decide_false]
        · simp only [h1, h2, EG, EL, ↓reduceIte, Nat.reduceEqDiff, Nat.reduceAdd, Nat.reduceSub, Nat.reduceMul, Nat.reduceLeDiff, Nat.reduceLT, Int.reduceLT, Int.reduceLE, Int.reduceEq, Int.reduceToNat, reduceCtorEq, set_cI, set_cS, set_cB, splice_eq, seg_mkL, mkL_length, seg_nil, seg_one, seg_tail, seg_tailM, pos_succ, Nat.add_sub_cancel, seg_full, seg_map, take_map_len, take_len, flat_cI, flat_cS, flat_cB, solid_cI, solid_cS, solid_cB, freshB, i1, not_false_eq_true, decide_true]
      · simp only [h1, EG, EL, ↓reduceIte, Nat.reduceEqDiff, Nat.reduceAdd, Nat.reduceSub, Nat.reduceMul, Nat.reduceLeDiff, Nat.reduceLT, Int.reduceLT, Int.reduceLE, Int.reduceEq, Int.reduceToNat, reduceCtorEq, set_cI, set_cS, set_cB, splice_eq, seg_mkL, mkL_length, seg_nil, seg_one, seg_tail, seg_tailM, pos_succ, Nat.add_sub_cancel, seg_full, seg_map, take_map_len, take_len, flat_cI, flat_cS, flat_cB, solid_cI, solid_cS, solid_cB, freshB, okR_false, decide_false]
  rw [sg_impl_GateOk, sem_go]
  simp (disch := first | assumption | omega) only [F_impl_GateOk, params, EG, EL, ↓reduceIte, Nat.reduceEqDiff, Nat.reduceAdd, Nat.reduceSub, Nat.reduceMul, Nat.reduceLeDiff, Nat.reduceLT, Int.reduceLT, Int.reduceLE, Int.reduceEq, Int.reduceToNat, reduceCtorEq, set_cI, set_cS, set_cB, splice_eq, seg_mkL, mkL_length, seg_nil, seg_one, seg_tail, seg_tailM, pos_succ, Nat.add_sub_cancel, seg_full, seg_map, take_map_len, take_len, flat_cI, flat_cS, flat_cB, solid_cI, solid_cS, solid_cB, cx_impl_GateOk, cl_impl_inGate, sem_impl_inGate, hall, loop, goE_okR]
  cases freshB [] all
  · simp only [EG, EL, ↓reduceIte, Nat.reduceEqDiff, Nat.reduceAdd, Nat.reduceSub, Nat.reduceMul, Nat.reduceLeDiff, Nat.reduceLT, Int.reduceLT, Int.reduceLE, Int.reduceEq, Int.reduceToNat, reduceCtorEq, set_cI, set_cS, set_cB, splice_eq, seg_mkL, mkL_length, seg_nil, seg_one, seg_tail, seg_tailM, pos_succ, Nat.add_sub_cancel, seg_full, seg_map, take_map_len, take_len, flat_cI, flat_cS, flat_cB, solid_cI, solid_cS, solid_cB]
  · by_cases h1 : x.Queues.length ≤ 2
    · have h1' : (x.Queues.length : Int) ≤ 2 := by omega
      by_cases h2 : x.Owner = -1
      · by_cases h3 : x.Waits.length = 0
        · have h3' : (x.Waits.length : Int) = 0 := by omega
          simp only [h1, h1', h2, h3, h3', EG, EL, ↓reduceIte, Nat.reduceEqDiff, Nat.reduceAdd, Nat.reduceSub, Nat.reduceMul, Nat.reduceLeDiff, Nat.reduceLT, Int.reduceLT, Int.reduceLE, Int.reduceEq, Int.reduceToNat, reduceCtorEq, set_cI, set_cS, set_cB, splice_eq, seg_mkL, mkL_length, seg_nil, seg_one, seg_tail, seg_tailM, pos_succ, Nat.add_sub_cancel, seg_full, seg_map, take_map_len, take_len, flat_cI, flat_cS, flat_cB, solid_cI, solid_cS, solid_cB, not_true_eq_false, false_or, decide_true]
        · have h3' : ¬ (x.Waits.length : Int) = 0 := by omega
          simp only [h1, h1', h2, h3, h3', EG, EL, ↓reduceIte, Nat.reduceEqDiff, Nat.reduceAdd, Nat.reduceSub, Nat.reduceMul, Nat.reduceLeDiff, Nat.reduceLT, Int.reduceLT, Int.reduceLE, Int.reduceEq, Int.reduceToNat, reduceCtorEq, set_cI, set_cS, set_cB, splice_eq, seg_mkL, mkL_length, seg_nil, seg_one, seg_tail, seg_tailM, pos_succ, Nat.add_sub_cancel, seg_full, seg_map, take_map_len, take_len, flat_cI, flat_cS, flat_cB, solid_cI, solid_cS, solid_cB, not_true_eq_false, false_or, decide_true, decide_false]
      · simp only [h1, h1', h2, EG, EL, ↓reduceIte, Nat.reduceEqDiff, Nat.reduceAdd, Nat.reduceSub, Nat.reduceMul, Nat.reduceLeDiff, Nat.reduceLT, Int.reduceLT, Int.reduceLE, Int.reduceEq, Int.reduceToNat, reduceCtorEq, set_cI, set_cS, set_cB, splice_eq, seg_mkL, mkL_length, seg_nil, seg_one, seg_tail, seg_tailM, pos_succ, Nat.add_sub_cancel, seg_full, seg_map, take_map_len, take_len, flat_cI, flat_cS, flat_cB, solid_cI, solid_cS, solid_cB, not_false_eq_true, true_or, decide_true]
    · have h1' : ¬ (x.Queues.length : Int) ≤ 2 := by omega
      simp only [h1, h1', EG, EL, ↓reduceIte, Nat.reduceEqDiff, Nat.reduceAdd, Nat.reduceSub, Nat.reduceMul, Nat.reduceLeDiff, Nat.reduceLT, Int.reduceLT, Int.reduceLE, Int.reduceEq, Int.reduceToNat, reduceCtorEq, set_cI, set_cS, set_cB, splice_eq, seg_mkL, mkL_length, seg_nil, seg_one, seg_tail, seg_tailM, pos_succ, Nat.add_sub_cancel, seg_full, seg_map, take_map_len, take_len, flat_cI, flat_cS, flat_cB, solid_cI, solid_cS, solid_cB, decide_false]
def nextG (x : DGate) : DGate := match x.Waits with | [] => { x with Owner := -1 } | w :: ws => { x with Owner := w, Waits := ws }
def leaveG (x : DGate) : DGate × Int := if gateOk x.Owner x.Waits x.Queues = true ∧ x.Owner ≠ -1 then (nextG x, (nextG x).Owner) else (x, -1)
theorem gateOk_range {o : Int} {w q : List Int} (h : gateOk o w q = true) : -1 ≤ o ∧ o ≤ 3 := by
  by_cases h1 : -1 ≤ o ∧ o ≤ 3
  · exact h1
  · rw [gateOk_low h1] at h; cases h
theorem sem_impl_Leave (x : DGate) (h : x.Waits.length + x.Queues.length ≤ 1099511627776) : S_impl_Leave.sem [.agg (cGate x)] = some (.tup [.agg (cGate (leaveG x).1), .int .i64 (leaveG x).2], []) := by
  rw [sg_impl_Leave, sem_go]
  have hc := sem_impl_copyGate x h
  have hk := sem_impl_GateOk x h
  obtain ⟨o, w, q⟩ := x
  simp only at h hc hk
  cases hg : gateOk o w q
  · simp (disch := first | assumption | omega) only [cGate, F_impl_Leave, params, EG, EL, ↓reduceIte, Nat.reduceEqDiff, Nat.reduceAdd, Nat.reduceSub, Nat.reduceMul, Nat.reduceLeDiff, Nat.reduceLT, Int.reduceLT, Int.reduceLE, Int.reduceEq, Int.reduceToNat, reduceCtorEq, set_cI, set_cS, set_cB, splice_eq, seg_mkL, mkL_length, seg_nil, seg_one, seg_tail, seg_tailM, pos_succ, Nat.add_sub_cancel, seg_full, seg_map, take_map_len, take_len, flat_cI, flat_cS, flat_cB, solid_cI, solid_cS, solid_cB, cx_impl_Leave, cl_impl_copyGate, hc, cl_impl_GateOk, hk, hg, leaveG, false_and]
  · have hr := gateOk_range hg
    by_cases ho : o = -1
    · subst ho
      simp (disch := first | assumption | omega) only [cGate, F_impl_Leave, params, EG, EL, ↓reduceIte, Nat.reduceEqDiff, Nat.reduceAdd, Nat.reduceSub, Nat.reduceMul, Nat.reduceLeDiff, Nat.reduceLT, Int.reduceLT, Int.reduceLE, Int.reduceEq, Int.reduceToNat, reduceCtorEq, set_cI, set_cS, set_cB, splice_eq, seg_mkL, mkL_length, seg_nil, seg_one, seg_tail, seg_tailM, pos_succ, Nat.add_sub_cancel, seg_full, seg_map, take_map_len, take_len, flat_cI, flat_cS, flat_cB, solid_cI, solid_cS, solid_cB, cx_impl_Leave, cl_impl_copyGate, hc, cl_impl_GateOk, hk, hg, leaveG]
    · cases w with
      | nil =>
        simp only [cGate, List.map_nil] at hc hk
        simp (disch := first | assumption | omega) only [cGate, F_impl_Leave, params, EG, EL, ↓reduceIte, Nat.reduceEqDiff, Nat.reduceAdd, Nat.reduceSub, Nat.reduceMul, Nat.reduceLeDiff, Nat.reduceLT, Int.reduceLT, Int.reduceLE, Int.reduceEq, Int.reduceToNat, reduceCtorEq, set_cI, set_cS, set_cB, splice_eq, seg_mkL, mkL_length, seg_nil, seg_one, seg_tail, seg_tailM, pos_succ, Nat.add_sub_cancel, seg_full, seg_map, take_map_len, take_len, flat_cI, flat_cS, flat_cB, solid_cI, solid_cS, solid_cB, ED, cx_impl_Leave, cl_impl_copyGate, hc, cl_impl_GateOk, hk, hg, leaveG, nextG, ho]
      | cons y ys =>
        simp only [List.length_cons] at h
        simp only [cGate, List.map_cons] at hc hk
        have h1 : (0 : Int) < ((ys.length + 1 : Nat) : Int) := by omega
        have h2 : (1 : Int) ≤ ((ys.length + 1 : Nat) : Int) := by omega
        have h3 : ys.length * 8 ≤ 70368744177664 := by omega
        have h4 : 1 + ys.length ≤ ys.length + 1 := by omega
        simp (disch := first | assumption | omega) only [h4, cGate, F_impl_Leave, params, EG, EL, ↓reduceIte, Nat.reduceEqDiff, Nat.reduceAdd, Nat.reduceSub, Nat.reduceMul, Nat.reduceLeDiff, Nat.reduceLT, Int.reduceLT, Int.reduceLE, Int.reduceEq, Int.reduceToNat, reduceCtorEq, set_cI, set_cS, set_cB, splice_eq, seg_mkL, mkL_length, seg_nil, seg_one, seg_tail, seg_tailM, pos_succ, Nat.add_sub_cancel, seg_full, seg_map, take_map_len, take_len, flat_cI, flat_cS, flat_cB, solid_cI, solid_cS, solid_cB, ED, cx_impl_Leave, cl_impl_copyGate, hc, cl_impl_GateOk, hk, hg, leaveG, nextG, ho, h1, h2, h3]
def delayG (x : DGate) (q : Int) : DGate × Int × Bool := if gateOk x.Owner x.Waits x.Queues = true ∧ x.Owner ≠ -1 ∧ (0 ≤ q ∧ q ≤ (x.Queues.length : Int) - 1) ∧ x.Queues.getD q.toNat 0 = -1 then ({ nextG x with Queues := x.Queues.set q.toNat x.Owner }, (nextG x).Owner, true) else (x, -1, false)
def contG (x : DGate) (q : Int) : DGate × Int := if gateOk x.Owner x.Waits x.Queues = true ∧ x.Owner ≠ -1 ∧ (0 ≤ q ∧ q ≤ (x.Queues.length : Int) - 1) then (if x.Queues.getD q.toNat 0 = -1 then (nextG x, (nextG x).Owner) else ({ x with Owner := x.Queues.getD q.toNat 0, Queues := x.Queues.set q.toNat (-1) }, x.Queues.getD q.toNat 0)) else (x, -1)
theorem gateOk_queue {o : Int} {w q : List Int} (h : gateOk o w q = true) {i : Nat} (hi : i < q.length) : q[i] = -1 ∨ (0 ≤ q[i] ∧ q[i] ≤ 3) := by
  unfold gateOk at h
  simp only [Bool.and_eq_true] at h
  by_cases h1 : q[i] = -1
  · exact .inl h1
  · right
    refine freshB_mem _ _ h.2.1 _ ?_
    simp only [List.mem_append]
    right
    unfold somebody
    rw [List.mem_filter]
    exact ⟨List.getElem_mem hi, by simpa using h1⟩
theorem sem_spec_ContinueAt (x : DGate) (h : x.Waits.length + x.Queues.length ≤ 1099511627776) (q : Int) : S_spec_ContinueAt.sem [.agg (cGate x), .int .i64 q] = some (.tup [.agg (cGate (contG x q).1), .int .i64 (contG x q).2], []) := by
  rw [sg_spec_ContinueAt, sem_go]
  have hc := sem_spec_l12Copy x h
  have hk := sem_spec_GateOk x h
  skip
  obtain ⟨o, w, qs⟩ := x
  simp only at h hc hk
  cases hg : gateOk o w qs
  · simp (disch := first | assumption | omega) only [cGate, F_spec_ContinueAt, params, EG, EL, ↓reduceIte, Nat.reduceEqDiff, Nat.reduceAdd, Nat.reduceSub, Nat.reduceMul, Nat.reduceLeDiff, Nat.reduceLT, Int.reduceLT, Int.reduceLE, Int.reduceEq, Int.reduceToNat, reduceCtorEq, set_cI, set_cS, set_cB, splice_eq, seg_mkL, mkL_length, seg_nil, seg_one, seg_tail, seg_tailM, pos_succ, Nat.add_sub_cancel, seg_full, seg_map, take_map_len, take_len, flat_cI, flat_cS, flat_cB, solid_cI, solid_cS, solid_cB, ED, cx_spec_ContinueAt, cl_spec_l12Copy, hc, cl_spec_GateOk, hk, hg, cl_spec_l01In, sem_spec_l01In, contG, wrapI, false_and]
  · have hr := gateOk_range hg
    by_cases ho : o = -1
    · subst ho
      simp (disch := first | assumption | omega) only [cGate, F_spec_ContinueAt, params, EG, EL, ↓reduceIte, Nat.reduceEqDiff, Nat.reduceAdd, Nat.reduceSub, Nat.reduceMul, Nat.reduceLeDiff, Nat.reduceLT, Int.reduceLT, Int.reduceLE, Int.reduceEq, Int.reduceToNat, reduceCtorEq, set_cI, set_cS, set_cB, splice_eq, seg_mkL, mkL_length, seg_nil, seg_one, seg_tail, seg_tailM, pos_succ, Nat.add_sub_cancel, seg_full, seg_map, take_map_len, take_len, flat_cI, flat_cS, flat_cB, solid_cI, solid_cS, solid_cB, ED, cx_spec_ContinueAt, cl_spec_l12Copy, hc, cl_spec_GateOk, hk, hg, cl_spec_l01In, sem_spec_l01In, contG, wrapI]
    · have ho' : ¬ o < 0 := by omega
      by_cases hq : 0 ≤ q ∧ q ≤ (qs.length : Int) - 1
      · obtain ⟨n, rfl⟩ : ∃ n : Nat, q = (n : Int) := ⟨q.toNat, by omega⟩
        have hn : n < qs.length := by omega
        have hn' : (n : Int) < (qs.length : Int) := by omega
        have hgd : qs.getD n 0 = qs[n] := by simp [List.getD_eq_getElem?_getD, hn]
        have hrng := gateOk_queue hg hn
        by_cases hv : qs[n] = -1
        · have hv' : qs[n] < 0 := by omega
          have hv2 : ¬ 0 ≤ qs[n] := by omega
          cases w with
          | nil =>
            simp only [cGate, List.map_nil] at hc hk
            simp (disch := first | assumption | omega) only [cGate, F_spec_ContinueAt, params, EG, EL, ↓reduceIte, Nat.reduceEqDiff, Nat.reduceAdd, Nat.reduceSub, Nat.reduceMul, Nat.reduceLeDiff, Nat.reduceLT, Int.reduceLT, Int.reduceLE, Int.reduceEq, Int.reduceToNat, reduceCtorEq, set_cI, set_cS, set_cB, splice_eq, seg_mkL, mkL_length, seg_nil, seg_one, seg_tail, seg_tailM, pos_succ, Nat.add_sub_cancel, seg_full, seg_map, take_map_len, take_len, flat_cI, flat_cS, flat_cB, solid_cI, solid_cS, solid_cB, ED, cx_spec_ContinueAt, cl_spec_l12Copy, hc, cl_spec_GateOk, hk, hg, cl_spec_l01In, sem_spec_l01In, contG, wrapI, ho, ho', hq, hn, hn', hgd, hv, hv', hv2, getRow _ _ hn, nextG, cl_spec_l12Next, run_goF, F_spec_l12Next, cx_spec_l12Next]
          | cons y ys =>
            simp only [List.length_cons] at h
            simp only [cGate, List.map_cons] at hc hk
            have h1 : (0 : Int) < ((ys.length + 1 : Nat) : Int) := by omega
            have h2 : (1 : Int) ≤ ((ys.length + 1 : Nat) : Int) := by omega
            have h3 : ys.length * 8 ≤ 70368744177664 := by omega
            have h4 : 1 + ys.length ≤ ys.length + 1 := by omega
            simp (disch := first | assumption | omega) only [cGate, F_spec_ContinueAt, params, EG, EL, ↓reduceIte, Nat.reduceEqDiff, Nat.reduceAdd, Nat.reduceSub, Nat.reduceMul, Nat.reduceLeDiff, Nat.reduceLT, Int.reduceLT, Int.reduceLE, Int.reduceEq, Int.reduceToNat, reduceCtorEq, set_cI, set_cS, set_cB, splice_eq, seg_mkL, mkL_length, seg_nil, seg_one, seg_tail, seg_tailM, pos_succ, Nat.add_sub_cancel, seg_full, seg_map, take_map_len, take_len, flat_cI, flat_cS, flat_cB, solid_cI, solid_cS, solid_cB, ED, cx_spec_ContinueAt, cl_spec_l12Copy, hc, cl_spec_GateOk, hk, hg, cl_spec_l01In, sem_spec_l01In, contG, wrapI, ho, ho', hq, hn, hn', hgd, hv, hv', hv2, getRow _ _ hn, nextG, h1, h2, h3, h4, cl_spec_l12Next, run_goF, F_spec_l12Next, cx_spec_l12Next]
        · have hv' : ¬ qs[n] < 0 := by omega
          have hv2 : 0 ≤ qs[n] := by omega
          simp (disch := first | assumption | omega) only [cGate, F_spec_ContinueAt, params, EG, EL, ↓reduceIte, Nat.reduceEqDiff, Nat.reduceAdd, Nat.reduceSub, Nat.reduceMul, Nat.reduceLeDiff, Nat.reduceLT, Int.reduceLT, Int.reduceLE, Int.reduceEq, Int.reduceToNat, reduceCtorEq, set_cI, set_cS, set_cB, splice_eq, seg_mkL, mkL_length, seg_nil, seg_one, seg_tail, seg_tailM, pos_succ, Nat.add_sub_cancel, seg_full, seg_map, take_map_len, take_len, flat_cI, flat_cS, flat_cB, solid_cI, solid_cS, solid_cB, ED, cx_spec_ContinueAt, cl_spec_l12Copy, hc, cl_spec_GateOk, hk, hg, cl_spec_l01In, sem_spec_l01In, contG, wrapI, ho, ho', hq, hn, hn', hgd, hv, hv', hv2, getRow _ _ hn]
      · simp (disch := first | assumption | omega) only [cGate, F_spec_ContinueAt, params, EG, EL, ↓reduceIte, Nat.reduceEqDiff, Nat.reduceAdd, Nat.reduceSub, Nat.reduceMul, Nat.reduceLeDiff, Nat.reduceLT, Int.reduceLT, Int.reduceLE, Int.reduceEq, Int.reduceToNat, reduceCtorEq, set_cI, set_cS, set_cB, splice_eq, seg_mkL, mkL_length, seg_nil, seg_one, seg_tail, seg_tailM, pos_succ, Nat.add_sub_cancel, seg_full, seg_map, take_map_len, take_len, flat_cI, flat_cS, flat_cB, solid_cI, solid_cS, solid_cB, ED, cx_spec_ContinueAt, cl_spec_l12Copy, hc, cl_spec_GateOk, hk, hg, cl_spec_l01In, sem_spec_l01In, contG, wrapI, ho, ho', hq]
theorem sem_impl_ContinueAt (x : DGate) (h : x.Waits.length + x.Queues.length ≤ 1099511627776) (q : Int) : S_impl_ContinueAt.sem [.agg (cGate x), .int .i64 q] = some (.tup [.agg (cGate (contG x q).1), .int .i64 (contG x q).2], []) := by
  rw [sg_impl_ContinueAt, sem_go]
  have hc := sem_impl_copyGate x h
  have hk := sem_impl_GateOk x h
  have hl := sem_impl_Leave x h
  obtain ⟨o, w, qs⟩ := x
  simp only at h hc hk hl
  cases hg : gateOk o w qs
  · simp (disch := first | assumption | omega) only [cGate, F_impl_ContinueAt, params, EG, EL, ↓reduceIte, Nat.reduceEqDiff, Nat.reduceAdd, Nat.reduceSub, Nat.reduceMul, Nat.reduceLeDiff, Nat.reduceLT, Int.reduceLT, Int.reduceLE, Int.reduceEq, Int.reduceToNat, reduceCtorEq, set_cI, set_cS, set_cB, splice_eq, seg_mkL, mkL_length, seg_nil, seg_one, seg_tail, seg_tailM, pos_succ, Nat.add_sub_cancel, seg_full, seg_map, take_map_len, take_len, flat_cI, flat_cS, flat_cB, solid_cI, solid_cS, solid_cB, ED, cx_impl_ContinueAt, cl_impl_copyGate, hc, cl_impl_GateOk, hk, hg, cl_impl_within, sem_impl_within, contG, wrapI, false_and]
  · have hr := gateOk_range hg
    by_cases ho : o = -1
    · subst ho
      simp (disch := first | assumption | omega) only [cGate, F_impl_ContinueAt, params, EG, EL, ↓reduceIte, Nat.reduceEqDiff, Nat.reduceAdd, Nat.reduceSub, Nat.reduceMul, Nat.reduceLeDiff, Nat.reduceLT, Int.reduceLT, Int.reduceLE, Int.reduceEq, Int.reduceToNat, reduceCtorEq, set_cI, set_cS, set_cB, splice_eq, seg_mkL, mkL_length, seg_nil, seg_one, seg_tail, seg_tailM, pos_succ, Nat.add_sub_cancel, seg_full, seg_map, take_map_len, take_len, flat_cI, flat_cS, flat_cB, solid_cI, solid_cS, solid_cB, ED, cx_impl_ContinueAt, cl_impl_copyGate, hc, cl_impl_GateOk, hk, hg, cl_impl_within, sem_impl_within, contG, wrapI]
    · have ho' : ¬ o < 0 := by omega
      by_cases hq : 0 ≤ q ∧ q ≤ (qs.length : Int) - 1
      · obtain ⟨n, rfl⟩ : ∃ n : Nat, q = (n : Int) := ⟨q.toNat, by omega⟩
        have hn : n < qs.length := by omega
        have hn' : (n : Int) < (qs.length : Int) := by omega
        have hgd : qs.getD n 0 = qs[n] := by simp [List.getD_eq_getElem?_getD, hn]
        have hrng := gateOk_queue hg hn
        by_cases hv : qs[n] = -1
        · have hv' : qs[n] < 0 := by omega
          have hv2 : ¬ 0 ≤ qs[n] := by omega
          cases w with
          | nil =>
            simp only [cGate, List.map_nil, leaveG, nextG, hg] at hc hk hl
            simp (disch := first | assumption | omega) only [cGate, F_impl_ContinueAt, params, EG, EL, ↓reduceIte, Nat.reduceEqDiff, Nat.reduceAdd, Nat.reduceSub, Nat.reduceMul, Nat.reduceLeDiff, Nat.reduceLT, Int.reduceLT, Int.reduceLE, Int.reduceEq, Int.reduceToNat, reduceCtorEq, set_cI, set_cS, set_cB, splice_eq, seg_mkL, mkL_length, seg_nil, seg_one, seg_tail, seg_tailM, pos_succ, Nat.add_sub_cancel, seg_full, seg_map, take_map_len, take_len, flat_cI, flat_cS, flat_cB, solid_cI, solid_cS, solid_cB, ED, cx_impl_ContinueAt, cl_impl_copyGate, hc, cl_impl_GateOk, hk, hg, cl_impl_within, sem_impl_within, contG, wrapI, ho, ho', hq, hn, hn', hgd, hv, hv', hv2, getRow _ _ hn, nextG, hl, cl_impl_Leave, sem_impl_Leave, leaveG, hg]
          | cons y ys =>
            simp only [List.length_cons] at h
            simp only [cGate, List.map_cons, leaveG, nextG, hg] at hc hk hl
            have h1 : (0 : Int) < ((ys.length + 1 : Nat) : Int) := by omega
            have h2 : (1 : Int) ≤ ((ys.length + 1 : Nat) : Int) := by omega
            have h3 : ys.length * 8 ≤ 70368744177664 := by omega
            have h4 : 1 + ys.length ≤ ys.length + 1 := by omega
            simp (disch := first | assumption | omega) only [cGate, F_impl_ContinueAt, params, EG, EL, ↓reduceIte, Nat.reduceEqDiff, Nat.reduceAdd, Nat.reduceSub, Nat.reduceMul, Nat.reduceLeDiff, Nat.reduceLT, Int.reduceLT, Int.reduceLE, Int.reduceEq, Int.reduceToNat, reduceCtorEq, set_cI, set_cS, set_cB, splice_eq, seg_mkL, mkL_length, seg_nil, seg_one, seg_tail, seg_tailM, pos_succ, Nat.add_sub_cancel, seg_full, seg_map, take_map_len, take_len, flat_cI, flat_cS, flat_cB, solid_cI, solid_cS, solid_cB, ED, cx_impl_ContinueAt, cl_impl_copyGate, hc, cl_impl_GateOk, hk, hg, cl_impl_within, sem_impl_within, contG, wrapI, ho, ho', hq, hn, hn', hgd, hv, hv', hv2, getRow _ _ hn, nextG, h1, h2, h3, h4, hl, cl_impl_Leave, sem_impl_Leave, leaveG, hg]
        · have hv' : ¬ qs[n] < 0 := by omega
          have hv2 : 0 ≤ qs[n] := by omega
          simp (disch := first | assumption | omega) only [cGate, F_impl_ContinueAt, params, EG, EL, ↓reduceIte, Nat.reduceEqDiff, Nat.reduceAdd, Nat.reduceSub, Nat.reduceMul, Nat.reduceLeDiff, Nat.reduceLT, Int.reduceLT, Int.reduceLE, Int.reduceEq, Int.reduceToNat, reduceCtorEq, set_cI, set_cS, set_cB, splice_eq, seg_mkL, mkL_length, seg_nil, seg_one, seg_tail, seg_tailM, pos_succ, Nat.add_sub_cancel, seg_full, seg_map, take_map_len, take_len, flat_cI, flat_cS, flat_cB, solid_cI, solid_cS, solid_cB, ED, cx_impl_ContinueAt, cl_impl_copyGate, hc, cl_impl_GateOk, hk, hg, cl_impl_within, sem_impl_within, contG, wrapI, ho, ho', hq, hn, hn', hgd, hv, hv', hv2, getRow _ _ hn]
      · simp (disch := first | assumption | omega) only [cGate, F_impl_ContinueAt, params, EG, EL, ↓reduceIte, Nat.reduceEqDiff, Nat.reduceAdd, Nat.reduceSub, Nat.reduceMul, Nat.reduceLeDiff, Nat.reduceLT, Int.reduceLT, Int.reduceLE, Int.reduceEq, Int.reduceToNat, reduceCtorEq, set_cI, set_cS, set_cB, splice_eq, seg_mkL, mkL_length, seg_nil, seg_one, seg_tail, seg_tailM, pos_succ, Nat.add_sub_cancel, seg_full, seg_map, take_map_len, take_len, flat_cI, flat_cS, flat_cB, solid_cI, solid_cS, solid_cB, ED, cx_impl_ContinueAt, cl_impl_copyGate, hc, cl_impl_GateOk, hk, hg, cl_impl_within, sem_impl_within, contG, wrapI, ho, ho', hq]
theorem law_FnExactContinueAt (x : DGate) (g : gdGate x) (q : Int) (gq : i64 q) : tru F_laws_FnExactContinueAt.res (go X_laws_FnExactContinueAt 0 [.c F_laws_FnExactContinueAt.body] ⟨params 0 [.agg (cGate x), .int .i64 q], []⟩) := by
  by_cases h2 : wtGate x ≤ 1048576
  · have h3 : ¬ lft 1048576 (wtGate x) < 0 := by unfold lft; split <;> omega
    have h4 : x.Waits.length + x.Queues.length ≤ 1099511627776 := by unfold wtGate at h2; omega
    have h5 : wtGate (contG x q).1 ≤ 1048576 := by
      unfold wtGate at h2 ⊢
      unfold contG nextG
      cases hw : x.Waits <;> (repeat' split) <;> simp_all <;> omega
    have e1 := tot_ct1 x.Waits
    have e2 := tot_ct1 x.Queues
    have e3 := tot_ct1 (contG x q).1.Waits
    have e4 := tot_ct1 (contG x q).1.Queues
    have e5 : cwGate (contG x q).1 = tot ct1 (contG x q).1.Waits + tot ct1 (contG x q).1.Queues := rfl
    have h6 := h5
    unfold wtGate at h6
    simp (maxSteps := 10000000) (disch := first | assumption | omega) only [F_laws_FnExactContinueAt, params, EG, EL, ↓reduceIte, Nat.reduceEqDiff, Nat.reduceAdd, Nat.reduceSub, Nat.reduceMul, Nat.reduceLeDiff, Nat.reduceLT, Int.reduceLT, Int.reduceLE, Int.reduceEq, Int.reduceToNat, reduceCtorEq, set_cI, set_cS, set_cB, splice_eq, seg_mkL, mkL_length, seg_nil, seg_one, seg_tail, seg_tailM, pos_succ, Nat.add_sub_cancel, seg_full, seg_map, take_map_len, take_len, flat_cI, flat_cS, flat_cB, solid_cI, solid_cS, solid_cB, ED, tru_ret, tru_ite, h3, cx_laws_FnExactContinueAt, cl_laws_szGate, sem_laws_szGate, cl_laws_toGate, sem_laws_toGate, cl_spec_ContinueAt, sem_spec_ContinueAt, cl_impl_ContinueAt, sem_impl_ContinueAt, cl_laws_eqGate, sem_laws_eqGate, cl_laws_markGate, run_goF, F_laws_markGate, cx_laws_markGate, cl_laws_markIntS, sem_laws_markIntS, cl_laws_heldGate, sem_laws_heldGate]
    repeat (first | rw [if_neg (by omega)] | rw [if_pos (by omega)])
    trivial
  · have h3 : lft 1048576 (wtGate x) < 0 := by unfold lft; split <;> omega
    simp (maxSteps := 10000000) (disch := first | assumption | omega) only [F_laws_FnExactContinueAt, params, EG, EL, ↓reduceIte, Nat.reduceEqDiff, Nat.reduceAdd, Nat.reduceSub, Nat.reduceMul, Nat.reduceLeDiff, Nat.reduceLT, Int.reduceLT, Int.reduceLE, Int.reduceEq, Int.reduceToNat, reduceCtorEq, set_cI, set_cS, set_cB, splice_eq, seg_mkL, mkL_length, seg_nil, seg_one, seg_tail, seg_tailM, pos_succ, Nat.add_sub_cancel, seg_full, seg_map, take_map_len, take_len, flat_cI, flat_cS, flat_cB, solid_cI, solid_cS, solid_cB, tru_ret, tru_ite, h3, cx_laws_FnExactContinueAt, cl_laws_szGate, sem_laws_szGate]

end Go.Proofs.Ytdbomppmpkjmhaa.AI
