/- What these functions give, and that the law FnExactPlaceOf gives true. -/
import Derived.Test.YtcappoimcdfggaaCFnExactPlaceOf
namespace Go.Proofs.Ytcappoimcdfggaa.AI
open Go.Proofs
set_option linter.all false
set_option maxRecDepth 100000
attribute [local congr] ite_congr
structure DIns where
  Op : Int
  A : Int
  B : Int
  C : Int
abbrev cIns (x : DIns) : List AV := [.int .i64 x.Op, .int .i64 x.A, .int .i64 x.B, .int .i64 x.C]
def gdIns (x : DIns) : Prop := i64 x.Op ∧ i64 x.A ∧ i64 x.B ∧ i64 x.C
theorem flat_cIns {xs : List DIns} : flat (xs.map cIns) = true := flat_map fun _ => rfl
theorem solid_cIns {xs : List DIns} : solid (xs.map cIns) = true := solid_map fun _ => rfl
structure DLine where
  Label : ByteArray
  Ins : DIns
  Target : ByteArray
abbrev cLine (x : DLine) : List AV := [.str x.Label, .int .i64 x.Ins.Op, .int .i64 x.Ins.A, .int .i64 x.Ins.B, .int .i64 x.Ins.C, .str x.Target]
def wtLine (x : DLine) : Nat := x.Label.size + x.Target.size
def gdLine (x : DLine) : Prop := gdS x.Label ∧ gdIns x.Ins ∧ gdS x.Target
theorem flat_cLine {xs : List DLine} : flat (xs.map cLine) = true := flat_map fun _ => rfl
theorem solid_cLine {xs : List DLine} : solid (xs.map cLine) = true := solid_map fun _ => rfl
theorem sem_laws_szLine (x : DLine) (g : gdLine x) (n : Int) (h1 : -1 ≤ n) (h2 : n ≤ 4611686018427387904) : S_laws_szLine.sem [.agg (cLine x), .int .i64 n] = some (.int .i64 (lft n (wtLine x)), []) := by
  obtain ⟨g0, g1, g2⟩ := (show gdS x.Label ∧ gdIns x.Ins ∧ gdS x.Target from g)
  simp only [gdS] at *
  rw [sg_laws_szLine, sem_go]
  simp +contextual (disch := first | assumption | omega | (have := @lft_lt; omega)) only [F_laws_szLine, params, EG, EL, ↓reduceIte, Nat.reduceEqDiff, Nat.reduceAdd, Nat.reduceSub, Nat.reduceLeDiff, Nat.reduceLT, seg_full, seg_map, take_map_len, take_len, flat_cI, flat_cS, flat_cB, solid_cI, solid_cS, solid_cB, solid_cIns, solid_cLine, flat_cIns, flat_cLine, cx_laws_szLine, wrapI]
  unfold wtLine
  unfold lft
  (repeat' split) <;> first | rfl | omega | (simp only [Option.some.injEq, Prod.mk.injEq, AV.int.injEq, AV.bool.injEq, AV.str.injEq, true_and, and_true]; omega)
theorem loop_laws_szLineS (xs : List DLine) (g : ∀ y ∈ xs, gdLine y) (hl : xs.length ≤ 140737488351232) (n : Int) (h1 : 0 ≤ n) (h2 : n ≤ 4611686018427387904) :
    loopV X_laws_szLineS 0 [0, 1, 5] [(1, [1]), (0, [4])] B0_laws_szLineS ⟨[(0, .tree 6 (xs.map cLine)), (1, .int .i64 n), (5, .int .i64 0)], []⟩ = szR 4 n (tot wtLine xs) := by
  refine loop_list xs (fun _ m => 0 ≤ m ∧ m ≤ 4611686018427387904) (fun i (m : Int) => ⟨[(0, .tree 6 (xs.map cLine)), (1, .int .i64 m), (5, .int .i64 ((i : Nat) : Int))], []⟩) (fun rest m => szR 4 m (tot wtLine rest)) ?_ ?_ n ⟨h1, h2⟩
  · rintro m ⟨m1, m2⟩
    rw [loopV_by B0_laws_szLineS.eq_1]
    simp only [EG, EL, ↓reduceIte, Nat.reduceEqDiff, Nat.reduceAdd, Nat.reduceSub, Nat.reduceLeDiff, Nat.reduceLT, int_lt_irrefl]
    exact szR_zero m1
  · rintro i h x rest m rfl rfl ⟨m1, m2⟩ ih
    have hi : (i : Int) < (xs.length : Int) := by omega
    have hx := g _ (List.getElem_mem h)
    skip
    rw [loopV_by B0_laws_szLineS.eq_1]
    by_cases hc : m - ((wtLine xs[i] : Nat) : Int) < 0
    · have hq : lft m (wtLine xs[i]) = -1 := if_pos hc
      simp (disch := first | assumption | omega) only [EG, EL, ↓reduceIte, Nat.reduceEqDiff, Nat.reduceAdd, Nat.reduceSub, Nat.reduceLeDiff, Nat.reduceLT, seg_full, seg_map, take_map_len, take_len, flat_cI, flat_cS, flat_cB, solid_cI, solid_cS, solid_cB, solid_cIns, solid_cLine, flat_cIns, flat_cLine, hi, wrap_succ, getRow _ _ h, cx_laws_szLineS, cl_laws_szLine, sem_laws_szLine, hc, hq, neg1_lt]
      exact szR_neg hc
    · have hq : lft m (wtLine xs[i]) = m - ((wtLine xs[i] : Nat) : Int) := if_neg hc
      simp (disch := first | assumption | omega) only [EG, EL, ↓reduceIte, Nat.reduceEqDiff, Nat.reduceAdd, Nat.reduceSub, Nat.reduceLeDiff, Nat.reduceLT, seg_full, seg_map, take_map_len, take_len, flat_cI, flat_cS, flat_cB, solid_cI, solid_cS, solid_cB, solid_cIns, solid_cLine, flat_cIns, flat_cLine, hi, wrap_succ, getRow _ _ h, cx_laws_szLineS, cl_laws_szLine, sem_laws_szLine, hc, hq, neg1_lt]
      rw [ih _ ⟨by omega, by omega⟩]
      exact szR_pos
theorem sem_laws_szLineS (xs : List DLine) (h : xs.length ≤ 140737488351232) (g : ∀ y ∈ xs, gdLine y) (n : Int) (h1 : -1 ≤ n) (h2 : n ≤ 4611686018427387904) : S_laws_szLineS.sem [.tree 6 (xs.map cLine), .int .i64 n] = some (.int .i64 (lft n (xs.length + tot wtLine xs)), []) := by
  rw [sg_laws_szLineS, sem_go]
  by_cases hc : n - (xs.length : Int) < 0
  · simp (disch := omega) only [F_laws_szLineS, params, EG, EL, ↓reduceIte, Nat.reduceEqDiff, Nat.reduceAdd, Nat.reduceSub, Nat.reduceLeDiff, Nat.reduceLT, seg_full, seg_map, take_map_len, take_len, flat_cI, flat_cS, flat_cB, solid_cI, solid_cS, solid_cB, solid_cIns, solid_cLine, flat_cIns, flat_cLine, cx_laws_szLineS, cl_laws_szLine, sem_laws_szLine, wrapI, hc, lft]
    rw [if_pos (by omega)]
  · simp (disch := first | assumption | omega) only [F_laws_szLineS, params, EG, EL, ↓reduceIte, Nat.reduceEqDiff, Nat.reduceAdd, Nat.reduceSub, Nat.reduceLeDiff, Nat.reduceLT, seg_full, seg_map, take_map_len, take_len, flat_cI, flat_cS, flat_cB, solid_cI, solid_cS, solid_cB, solid_cIns, solid_cLine, flat_cIns, flat_cLine, cx_laws_szLineS, cl_laws_szLine, sem_laws_szLine, wrapI, hc, loop_laws_szLineS, goE_szR]
    unfold lft
    (repeat' split) <;> first | rfl | omega | (simp only [Option.some.injEq, Prod.mk.injEq, AV.int.injEq, AV.bool.injEq, AV.str.injEq, true_and, and_true]; omega)
theorem sem_laws_toIns (x : DIns) : S_laws_toIns.sem [.agg (cIns x)] = some (.agg (cIns x), []) := by
  skip
  rw [sg_laws_toIns, sem_go]
  simp (disch := omega) only [F_laws_toIns, params, EG, EL, ↓reduceIte, Nat.reduceEqDiff, Nat.reduceAdd, Nat.reduceSub, Nat.reduceLeDiff, Nat.reduceLT, seg_full, seg_map, take_map_len, take_len, flat_cI, flat_cS, flat_cB, solid_cI, solid_cS, solid_cB, solid_cIns, solid_cLine, flat_cIns, flat_cLine, cx_laws_toIns]
theorem sem_laws_toLine (x : DLine) (h : wtLine x ≤ 1048576) : S_laws_toLine.sem [.agg (cLine x)] = some (.agg (cLine x), []) := by
  unfold wtLine at h
  rw [sg_laws_toLine, sem_go]
  simp (disch := omega) only [F_laws_toLine, params, EG, EL, ↓reduceIte, Nat.reduceEqDiff, Nat.reduceAdd, Nat.reduceSub, Nat.reduceLeDiff, Nat.reduceLT, seg_full, seg_map, take_map_len, take_len, flat_cI, flat_cS, flat_cB, solid_cI, solid_cS, solid_cB, solid_cIns, solid_cLine, flat_cIns, flat_cLine, cx_laws_toLine, cl_laws_toIns, sem_laws_toIns]
theorem loop_laws_toLineS (xs : List DLine) (hl : xs.length + tot wtLine xs ≤ 1048576) :
    loopV X_laws_toLineS 0 [0, 3, 4] [(1, [3])] B0_laws_toLineS ⟨[(0, .tree 6 (xs.map cLine)), (3, .sl ⟨0, none, 0⟩ 6 0 xs.length), (4, .int .i64 0)], [some ⟨false, 0, 6, fillR cLine [.str ⟨#[]⟩, .int .i64 0, .int .i64 0, .int .i64 0, .int .i64 0, .str ⟨#[]⟩] xs 0⟩]⟩ = some (.exit 0, ⟨[(3, .sl ⟨0, none, 0⟩ 6 0 xs.length)], [some ⟨false, 0, 6, xs.map cLine⟩]⟩) := by
  refine loop_list xs (fun _ (_ : Unit) => True) (fun i _ => ⟨[(0, .tree 6 (xs.map cLine)), (3, .sl ⟨0, none, 0⟩ 6 0 xs.length), (4, .int .i64 ((i : Nat) : Int))], [some ⟨false, 0, 6, fillR cLine [.str ⟨#[]⟩, .int .i64 0, .int .i64 0, .int .i64 0, .int .i64 0, .str ⟨#[]⟩] xs i⟩]⟩) (fun _ _ => some (.exit 0, ⟨[(3, .sl ⟨0, none, 0⟩ 6 0 xs.length)], [some ⟨false, 0, 6, xs.map cLine⟩]⟩)) ?_ ?_ () trivial
  · intro _ _
    rw [loopV_by B0_laws_toLineS.eq_1]
    simp only [EG, EL, ↓reduceIte, Nat.reduceEqDiff, Nat.reduceAdd, Nat.reduceSub, Nat.reduceLeDiff, Nat.reduceLT, int_lt_irrefl, fillR_end]
  · rintro i h x rest _ rfl rfl _ ih
    have hi : (i : Int) < (xs.length : Int) := by omega
    have hx : wtLine xs[i] ≤ 1048576 := by have := le_tot wtLine (List.getElem_mem h); omega
    have hf := fillR_set (c := cLine) (z := [.str ⟨#[]⟩, .int .i64 0, .int .i64 0, .int .i64 0, .int .i64 0, .str ⟨#[]⟩]) h rfl
    simp only [cLine] at hf
    rw [loopV_by B0_laws_toLineS.eq_1]
    simp (disch := first | assumption | omega) only [EG, EL, ↓reduceIte, Nat.reduceEqDiff, Nat.reduceAdd, Nat.reduceSub, Nat.reduceLeDiff, Nat.reduceLT, seg_full, seg_map, take_map_len, take_len, flat_cI, flat_cS, flat_cB, solid_cI, solid_cS, solid_cB, solid_cIns, solid_cLine, flat_cIns, flat_cLine, hi, h, wrap_succ, getRow _ _ h, fillR_get h, fillR_length (Nat.le_of_lt h), cx_laws_toLineS, cl_laws_toLine, sem_laws_toLine]
    simp only [splice_eq, EG, EL, ↓reduceIte, Nat.reduceEqDiff, Nat.reduceAdd, Nat.reduceSub, Nat.reduceLeDiff, Nat.reduceLT, hf]
    exact ih () trivial
theorem sem_laws_toLineS (xs : List DLine) (h : xs.length + tot wtLine xs ≤ 1048576) : S_laws_toLineS.sem [.tree 6 (xs.map cLine)] = some (.tree 6 (xs.map cLine), []) := by
  rw [sg_laws_toLineS, sem_go]
  simp (disch := omega) only [F_laws_toLineS, params, EG, EL, ↓reduceIte, Nat.reduceEqDiff, Nat.reduceAdd, Nat.reduceSub, Nat.reduceLeDiff, Nat.reduceLT, seg_full, seg_map, take_map_len, take_len, flat_cI, flat_cS, flat_cB, solid_cI, solid_cS, solid_cB, solid_cIns, solid_cLine, flat_cIns, flat_cLine, cx_laws_toLineS, cl_laws_toLine, sem_laws_toLine, fillR_zero cLine, loop_laws_toLineS xs h]
  rw [if_pos (by omega)]
theorem sem_laws_eqIns (x : DIns) : S_laws_eqIns.sem [.agg (cIns x), .agg (cIns x)] = some (.bool true, []) := by
  skip
  rw [sg_laws_eqIns, sem_go]
  simp (disch := omega) only [F_laws_eqIns, params, EG, EL, ↓reduceIte, Nat.reduceEqDiff, Nat.reduceAdd, Nat.reduceSub, Nat.reduceLeDiff, Nat.reduceLT, seg_full, seg_map, take_map_len, take_len, flat_cI, flat_cS, flat_cB, solid_cI, solid_cS, solid_cB, solid_cIns, solid_cLine, flat_cIns, flat_cLine, cx_laws_eqIns]
theorem sem_laws_eqLine (x : DLine) (h : wtLine x ≤ 1048576) : S_laws_eqLine.sem [.agg (cLine x), .agg (cLine x)] = some (.bool true, []) := by
  unfold wtLine at h
  rw [sg_laws_eqLine, sem_go]
  simp (disch := omega) only [F_laws_eqLine, params, EG, EL, ↓reduceIte, Nat.reduceEqDiff, Nat.reduceAdd, Nat.reduceSub, Nat.reduceLeDiff, Nat.reduceLT, seg_full, seg_map, take_map_len, take_len, flat_cI, flat_cS, flat_cB, solid_cI, solid_cS, solid_cB, solid_cIns, solid_cLine, flat_cIns, flat_cLine, cx_laws_eqLine, cl_laws_eqIns, sem_laws_eqIns]
theorem loop_laws_eqLineS (xs : List DLine) (hl : xs.length + tot wtLine xs ≤ 1048576) :
    loopV X_laws_eqLineS 0 [0, 1, 5] [(1, []), (0, [4])] B0_laws_eqLineS ⟨[(0, .tree 6 (xs.map cLine)), (1, .tree 6 (xs.map cLine)), (5, .int .i64 0)], []⟩ = some (.exit 0, ⟨[], []⟩) := by
  refine loop_list xs (fun _ (_ : Unit) => True) (fun i _ => ⟨[(0, .tree 6 (xs.map cLine)), (1, .tree 6 (xs.map cLine)), (5, .int .i64 ((i : Nat) : Int))], []⟩) (fun _ _ => some (.exit 0, ⟨[], []⟩)) ?_ ?_ () trivial
  · intro _ _
    rw [loopV_by B0_laws_eqLineS.eq_1]
    simp only [EG, EL, ↓reduceIte, Nat.reduceEqDiff, Nat.reduceAdd, Nat.reduceSub, Nat.reduceLeDiff, Nat.reduceLT, int_lt_irrefl]
  · rintro i h x rest _ rfl rfl _ ih
    have hi : (i : Int) < (xs.length : Int) := by omega
    have hx : wtLine xs[i] ≤ 1048576 := by have := le_tot wtLine (List.getElem_mem h); omega
    rw [loopV_by B0_laws_eqLineS.eq_1]
    simp (disch := first | assumption | omega) only [EG, EL, ↓reduceIte, Nat.reduceEqDiff, Nat.reduceAdd, Nat.reduceSub, Nat.reduceLeDiff, Nat.reduceLT, seg_full, seg_map, take_map_len, take_len, flat_cI, flat_cS, flat_cB, solid_cI, solid_cS, solid_cB, solid_cIns, solid_cLine, flat_cIns, flat_cLine, hi, wrap_succ, getRow _ _ h, cx_laws_eqLineS, cl_laws_eqLine, sem_laws_eqLine]
    exact ih () trivial
theorem sem_laws_eqLineS (xs : List DLine) (h : xs.length + tot wtLine xs ≤ 1048576) : S_laws_eqLineS.sem [.tree 6 (xs.map cLine), .tree 6 (xs.map cLine)] = some (.bool true, []) := by
  rw [sg_laws_eqLineS, sem_go]
  simp (disch := omega) only [F_laws_eqLineS, params, EG, EL, ↓reduceIte, Nat.reduceEqDiff, Nat.reduceAdd, Nat.reduceSub, Nat.reduceLeDiff, Nat.reduceLT, seg_full, seg_map, take_map_len, take_len, flat_cI, flat_cS, flat_cB, solid_cI, solid_cS, solid_cB, solid_cIns, solid_cLine, flat_cIns, flat_cLine, cx_laws_eqLineS, cl_laws_eqLine, sem_laws_eqLine, loop_laws_eqLineS xs h]
def isLab (l : ByteArray) (x : DLine) : Bool := decide (x.Ins.Op = 0) && decide (x.Label = l)
def isIns (x : DLine) : Bool := !decide (x.Ins.Op = 0)
theorem sem_spec_l16First (xs : List DLine) (l : ByteArray) (hl : xs.length ≤ 140737488351232) : S_spec_l16First.sem [.tree 6 (xs.map cLine), .str l] = some (.int .i64 (fIx (isLab l) xs 0), []) := by
  have loop : loopV X_spec_l16First 0 [0, 1, 5] [(1, []), (0, [4])] B0_spec_l16First ⟨[(0, .tree 6 (xs.map cLine)), (1, .str l), (5, .int .i64 0)], []⟩ = fixR 4 (fIx (isLab l) xs 0) := by
    refine loop_list xs (fun i a => a = i) (fun i a => ⟨[(0, .tree 6 (xs.map cLine)), (1, .str l), (5, .int .i64 (i : Int))], []⟩) (fun rest a => fixR 4 (fIx (isLab l) rest a)) ?_ ?_ 0 rfl
    · rintro a rfl
      rw [loopV_by B0_spec_l16First.eq_1]
      simp only [EG, EL, ↓reduceIte, Nat.reduceEqDiff, Nat.reduceAdd, Nat.reduceSub, Nat.reduceLeDiff, Nat.reduceLT, int_lt_irrefl]
      exact fixR_nil
    · rintro i h x rest a rfl rfl rfl ih
      have hi : (a : Int) < (xs.length : Int) := by omega
      rw [loopV_by B0_spec_l16First.eq_1]
      simp (disch := first | assumption | omega) only [EG, EL, ↓reduceIte, Nat.reduceEqDiff, Nat.reduceAdd, Nat.reduceSub, Nat.reduceLeDiff, Nat.reduceLT, hi, wrap_succ, getRow _ _ h, ih _ rfl]
      by_cases h1 : xs[a].Ins.Op = 0 <;> by_cases h2 : xs[a].Label = l <;> simp only [h1, h2, if_true, if_false]
      · exact fixR_yes (by simp [isLab, h1, h2])
      all_goals exact fixR_no (by simp [isLab, h1, h2])
  rw [sg_spec_l16First, sem_go]
  simp (disch := first | assumption | omega) only [F_spec_l16First, params, EG, EL, ↓reduceIte, Nat.reduceEqDiff, Nat.reduceAdd, Nat.reduceSub, Nat.reduceLeDiff, Nat.reduceLT, loop, goE_fixR]
  rcases @fIx_ge _ (isLab l) xs 0 with h | h
  · simp [h]
  · rw [if_neg (by omega)]
theorem sem_spec_CountOf (xs : List DLine) (hl : xs.length ≤ 140737488351232) : S_spec_CountOf.sem [.tree 6 (xs.map cLine)] = some (.int .i64 (cnt isIns xs), []) := by
  have loop : loopV X_spec_CountOf 0 [0, 3, 4] [(1, [3])] B0_spec_CountOf ⟨[(0, .tree 6 (xs.map cLine)), (3, .int .i64 0), (4, .int .i64 0)], []⟩ = some (.exit 0, ⟨[(3, .int .i64 ((0 + cnt isIns xs : Nat) : Int))], []⟩) := by
    refine loop_list xs (fun i a => a ≤ i) (fun i a => ⟨[(0, .tree 6 (xs.map cLine)), (3, .int .i64 (a : Int)), (4, .int .i64 (i : Int))], []⟩) (fun rest a => some (.exit 0, ⟨[(3, .int .i64 ((a + cnt isIns rest : Nat) : Int))], []⟩)) ?_ ?_ 0 (Nat.le_refl _)
    · intro a ha
      rw [loopV_by B0_spec_CountOf.eq_1]
      simp only [EG, EL, ↓reduceIte, Nat.reduceEqDiff, Nat.reduceAdd, Nat.reduceSub, Nat.reduceLeDiff, Nat.reduceLT, int_lt_irrefl, cnt]
    · rintro i h x rest a rfl rfl ha ih
      have hi : (i : Int) < (xs.length : Int) := by omega
      rw [loopV_by B0_spec_CountOf.eq_1]
      simp (disch := first | assumption | omega) only [EG, EL, ↓reduceIte, Nat.reduceEqDiff, Nat.reduceAdd, Nat.reduceSub, Nat.reduceLeDiff, Nat.reduceLT, hi, wrap_succ, getRow _ _ h, cnt, isIns]
      by_cases h1 : xs[i].Ins.Op = 0 <;> simp only [h1, if_true, if_false, Bool.false_eq_true, decide_true, decide_false, Bool.not_true, Bool.not_false]
      · rw [ih _ (by omega), Nat.zero_add]
      · rw [ih _ (by omega), Nat.add_assoc]
  rw [sg_spec_CountOf, sem_go]
  simp (disch := first | assumption | omega) only [F_spec_CountOf, params, EG, EL, ↓reduceIte, Nat.reduceEqDiff, Nat.reduceAdd, Nat.reduceSub, Nat.reduceLeDiff, Nat.reduceLT, loop]
theorem sem_spec_PlaceOf (xs : List DLine) (l : ByteArray) (hl : xs.length ≤ 140737488351232) : S_spec_PlaceOf.sem [.tree 6 (xs.map cLine), .str l] = some (.int .i64 (if fIx (isLab l) xs 0 < 0 then -1 else cnt isIns (xs.take (fIx (isLab l) xs 0).toNat)), []) := by
  rw [sg_spec_PlaceOf, sem_go]
  rcases @fIx_ge _ (isLab l) xs 0 with h | h
  · simp (disch := first | assumption | omega) only [F_spec_PlaceOf, params, EG, EL, ↓reduceIte, Nat.reduceEqDiff, Nat.reduceAdd, Nat.reduceSub, Nat.reduceLeDiff, Nat.reduceLT, cx_spec_PlaceOf, cl_spec_l16First, sem_spec_l16First, h, neg1_lt]
  · have h0 : ¬ fIx (isLab l) xs 0 < 0 := by omega
    have h1 : 0 ≤ fIx (isLab l) xs 0 := by omega
    have h2 : fIx (isLab l) xs 0 ≤ xs.length := by omega
    have h3 : (xs.take (fIx (isLab l) xs 0).toNat).length ≤ 140737488351232 := by rw [List.length_take]; omega
    simp (disch := first | assumption | omega) only [F_spec_PlaceOf, params, EG, EL, ↓reduceIte, Nat.reduceEqDiff, Nat.reduceAdd, Nat.reduceSub, Nat.reduceLeDiff, Nat.reduceLT, cx_spec_PlaceOf, cl_spec_l16First, sem_spec_l16First, h0, h1, h2, seg_mapD, Nat.sub_zero, cl_spec_CountOf, sem_spec_CountOf]
theorem sem_slices_IndexFunc_impl_Line_impl_Line (xs : List DLine) (l : ByteArray) (hl : xs.length ≤ 140737488351232) : S_slices_IndexFunc_impl_Line_impl_Line.sem [.tree 6 (xs.map cLine), .fn 92 [.rp [.str l] 0]] = some (.int .i64 (fIx (isLab l) xs 0), []) := by
  have loop : loopV X_slices_IndexFunc_impl_Line_impl_Line 0 [0, 1, 7, 8] [(1, []), (0, [4])] B0_slices_IndexFunc_impl_Line_impl_Line ⟨[(0, .tree 6 (xs.map cLine)), (1, .fn 92 [.rp [.str l] 0]), (7, .int .i64 xs.length), (8, .int .i64 0)], []⟩ = fixR 4 (fIx (isLab l) xs 0) := by
    refine loop_list xs (fun i a => a = i) (fun i a => ⟨[(0, .tree 6 (xs.map cLine)), (1, .fn 92 [.rp [.str l] 0]), (7, .int .i64 xs.length), (8, .int .i64 (i : Int))], []⟩) (fun rest a => fixR 4 (fIx (isLab l) rest a)) ?_ ?_ 0 rfl
    · rintro a rfl
      rw [loopV_by B0_slices_IndexFunc_impl_Line_impl_Line.eq_1]
      simp only [EG, EL, ↓reduceIte, Nat.reduceEqDiff, Nat.reduceAdd, Nat.reduceSub, Nat.reduceLeDiff, Nat.reduceLT, int_lt_irrefl]
      exact fixR_nil
    · rintro i h x rest a rfl rfl rfl ih
      have hi : (a : Int) < (xs.length : Int) := by omega
      rw [loopV_by B0_slices_IndexFunc_impl_Line_impl_Line.eq_1]
      simp (disch := first | assumption | omega) only [EG, EL, ↓reduceIte, Nat.reduceEqDiff, Nat.reduceAdd, Nat.reduceSub, Nat.reduceLeDiff, Nat.reduceLT, hi, wrap_succ, getRow _ _ h, ih _ rfl, cx_slices_IndexFunc_impl_Line_impl_Line, cl_impl_labelAt_1, run_goF, F_impl_labelAt_1, params]
      by_cases h1 : xs[a].Ins.Op = 0 <;> by_cases h2 : xs[a].Label = l <;> simp only [h1, h2, if_true, if_false]
      · exact fixR_yes (by simp [isLab, h1, h2])
      all_goals exact fixR_no (by simp [isLab, h1, h2])
  rw [sg_slices_IndexFunc_impl_Line_impl_Line, sem_go]
  simp (disch := first | assumption | omega) only [F_slices_IndexFunc_impl_Line_impl_Line, params, EG, EL, ↓reduceIte, Nat.reduceEqDiff, Nat.reduceAdd, Nat.reduceSub, Nat.reduceLeDiff, Nat.reduceLT, loop, goE_fixR]
  rcases @fIx_ge _ (isLab l) xs 0 with h | h
  · simp [h]
  · rw [if_neg (by omega)]
theorem sem_impl_labelAt (xs : List DLine) (l : ByteArray) (hl : xs.length ≤ 140737488351232) : S_impl_labelAt.sem [.tree 6 (xs.map cLine), .str l] = some (.int .i64 (fIx (isLab l) xs 0), []) := by
  rw [sg_impl_labelAt, sem_go]
  simp (disch := first | assumption | omega) only [F_impl_labelAt, params, EG, EL, ↓reduceIte, Nat.reduceEqDiff, Nat.reduceAdd, Nat.reduceSub, Nat.reduceLeDiff, Nat.reduceLT, cx_impl_labelAt, cl_slices_IndexFunc_impl_Line_impl_Line, sem_slices_IndexFunc_impl_Line_impl_Line]
theorem sem_impl_CountOf (xs : List DLine) (hl : xs.length ≤ 140737488351232) : S_impl_CountOf.sem [.tree 6 (xs.map cLine)] = some (.int .i64 (cnt isIns xs), []) := by
  have loop : loopV X_impl_CountOf 0 [3, 6, 7, 8] [(1, [3])] B0_impl_CountOf ⟨[(3, .int .i64 0), (6, .tree 6 (xs.map cLine)), (7, .int .i64 xs.length), (8, .int .i64 0)], []⟩ = some (.exit 0, ⟨[(3, .int .i64 ((0 + cnt isIns xs : Nat) : Int))], []⟩) := by
    refine loop_list xs (fun i a => a ≤ i) (fun i a => ⟨[(3, .int .i64 (a : Int)), (6, .tree 6 (xs.map cLine)), (7, .int .i64 xs.length), (8, .int .i64 (i : Int))], []⟩) (fun rest a => some (.exit 0, ⟨[(3, .int .i64 ((a + cnt isIns rest : Nat) : Int))], []⟩)) ?_ ?_ 0 (Nat.le_refl _)
    · intro a ha
      rw [loopV_by B0_impl_CountOf.eq_1]
      simp only [EG, EL, ↓reduceIte, Nat.reduceEqDiff, Nat.reduceAdd, Nat.reduceSub, Nat.reduceLeDiff, Nat.reduceLT, int_lt_irrefl, cnt]
    · rintro i h x rest a rfl rfl ha ih
      have hi : (i : Int) < (xs.length : Int) := by omega
      rw [loopV_by B0_impl_CountOf.eq_1]
      simp (disch := first | assumption | omega) only [EG, EL, ↓reduceIte, Nat.reduceEqDiff, Nat.reduceAdd, Nat.reduceSub, Nat.reduceLeDiff, Nat.reduceLT, hi, wrap_succ, getRow _ _ h, cnt, isIns]
      by_cases h1 : xs[i].Ins.Op = 0 <;> simp only [h1, if_true, if_false, Bool.false_eq_true, decide_true, decide_false, Bool.not_true, Bool.not_false]
      · rw [ih _ (by omega), Nat.zero_add]
      · rw [ih _ (by omega), Nat.add_assoc]
  rw [sg_impl_CountOf, sem_go]
  simp (disch := first | assumption | omega) only [F_impl_CountOf, params, EG, EL, ↓reduceIte, Nat.reduceEqDiff, Nat.reduceAdd, Nat.reduceSub, Nat.reduceLeDiff, Nat.reduceLT, loop]
theorem sem_impl_PlaceOf (xs : List DLine) (l : ByteArray) (hl : xs.length ≤ 140737488351232) : S_impl_PlaceOf.sem [.tree 6 (xs.map cLine), .str l] = some (.int .i64 (if fIx (isLab l) xs 0 < 0 then -1 else cnt isIns (xs.take (fIx (isLab l) xs 0).toNat)), []) := by
  rw [sg_impl_PlaceOf, sem_go]
  rcases @fIx_ge _ (isLab l) xs 0 with h | h
  · simp (disch := first | assumption | omega) only [F_impl_PlaceOf, params, EG, EL, ↓reduceIte, Nat.reduceEqDiff, Nat.reduceAdd, Nat.reduceSub, Nat.reduceLeDiff, Nat.reduceLT, cx_impl_PlaceOf, cl_impl_labelAt, sem_impl_labelAt, h, neg1_lt]
  · have h0 : ¬ fIx (isLab l) xs 0 < 0 := by omega
    have h1 : 0 ≤ fIx (isLab l) xs 0 := by omega
    have h2 : fIx (isLab l) xs 0 ≤ xs.length := by omega
    have h3 : (xs.take (fIx (isLab l) xs 0).toNat).length ≤ 140737488351232 := by rw [List.length_take]; omega
    simp (disch := first | assumption | omega) only [F_impl_PlaceOf, params, EG, EL, ↓reduceIte, Nat.reduceEqDiff, Nat.reduceAdd, Nat.reduceSub, Nat.reduceLeDiff, Nat.reduceLT, cx_impl_PlaceOf, cl_impl_labelAt, sem_impl_labelAt, h0, h1, h2, seg_mapD, Nat.sub_zero, cl_impl_CountOf, sem_impl_CountOf]
theorem law_FnExactPlaceOf (xs : List DLine) (g : xs.length ≤ 140737488351232 ∧ ∀ y ∈ xs, gdLine y) (l : ByteArray) (gl : gdS l) : tru F_laws_FnExactPlaceOf.res (go X_laws_FnExactPlaceOf 0 [.c F_laws_FnExactPlaceOf.body] ⟨params 0 [.tree 6 (xs.map cLine), .str l], []⟩) := by
  obtain ⟨hl, g⟩ := g
  by_cases h1 : (1048576 : Int) < (l.size : Int)
  · simp (disch := first | assumption | omega) only [F_laws_FnExactPlaceOf, params, EG, EL, ↓reduceIte, Nat.reduceEqDiff, Nat.reduceAdd, Nat.reduceSub, Nat.reduceLeDiff, Nat.reduceLT, tru_ret, tru_ite, h1]
  by_cases h2 : xs.length + tot wtLine xs ≤ 1048576
  · have h3 : ¬ lft 1048576 (xs.length + tot wtLine xs) < 0 := by unfold lft; split <;> omega
    simp (disch := first | assumption | omega) only [F_laws_FnExactPlaceOf, params, EG, EL, ↓reduceIte, Nat.reduceEqDiff, Nat.reduceAdd, Nat.reduceSub, Nat.reduceLeDiff, Nat.reduceLT, tru_ret, tru_ite, h1, h3, cx_laws_FnExactPlaceOf, cl_laws_szLineS, sem_laws_szLineS, cl_laws_toLineS, sem_laws_toLineS, cl_spec_PlaceOf, sem_spec_PlaceOf, cl_impl_PlaceOf, sem_impl_PlaceOf, cl_laws_eqLineS, sem_laws_eqLineS, seg_full, seg_map, solid_cLine]
  · have h3 : lft 1048576 (xs.length + tot wtLine xs) < 0 := by unfold lft; split <;> omega
    simp (disch := first | assumption | omega) only [F_laws_FnExactPlaceOf, params, EG, EL, ↓reduceIte, Nat.reduceEqDiff, Nat.reduceAdd, Nat.reduceSub, Nat.reduceLeDiff, Nat.reduceLT, tru_ret, tru_ite, h1, h3, cx_laws_FnExactPlaceOf, cl_laws_szLineS, sem_laws_szLineS]

end Go.Proofs.Ytcappoimcdfggaa.AI
