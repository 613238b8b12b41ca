/- What these functions give, and that the law FnExactPick gives true. -/
import Derived.Test.YthdbglhdadinkaaCFnExactPick
namespace Go.Proofs.Ythdbglhdadinkaa.AI
open Go.Proofs
set_option linter.all false
set_option maxRecDepth 100000
structure DGate where
  Owner : Int
  Waits : List (Int)
  Queues : List (Int)
abbrev cGate (x : DGate) : List AV := [.int .i64 x.Owner, .tree 1 (x.Waits.map cI), .tree 1 (x.Queues.map cI)]
def wtGate (x : DGate) : Nat := x.Waits.length + x.Queues.length
def gdGate (x : DGate) : Prop := i64 x.Owner ∧ (x.Waits.length ≤ 140737488351232 ∧ ∀ y ∈ x.Waits, i64 y) ∧ (x.Queues.length ≤ 140737488351232 ∧ ∀ y ∈ x.Queues, i64 y)
def mkGate (x : DGate) (k : Int) : DGate := { Owner := k, Waits := mkL mkI ct1 x.Waits (k + 1), Queues := mkL mkI ct1 x.Queues ((k + 1) + (tot ct1 x.Waits : Nat)) }
def ctGate (x : DGate) : Nat := 1 + tot ct1 x.Waits + tot ct1 x.Queues
theorem ctle_Gate (x : DGate) : ctGate x ≤ 1 * (1 + wtGate x) := by
  have h0 := tot_ct1 x.Waits
  have h1 := tot_ct1 x.Queues
  unfold ctGate
  simp only [wtGate] at *
  omega
theorem tctle_Gate (xs : List DGate) : tot ctGate xs ≤ 1 * (xs.length + tot wtGate xs) := tot_ct_le ctle_Gate xs
def mwGate (x : DGate) (k : Int) : DGate := { Owner := x.Owner, Waits := mkL mkI ct1 x.Waits k, Queues := mkL mkI ct1 x.Queues (k + (tot ct1 x.Waits : Nat)) }
def cwGate (x : DGate) : Nat := tot ct1 x.Waits + tot ct1 x.Queues
theorem set_cGate {xs : List DGate} {n : Nat} {x : DGate} : (xs.map cGate).set n [.int .i64 x.Owner, .tree 1 (x.Waits.map cI), .tree 1 (x.Queues.map cI)] = (xs.set n x).map cGate := by rw [List.map_set]
theorem snoc_cGate {xs : List DGate} {x : DGate} : xs.map cGate ++ [[.int .i64 x.Owner, .tree 1 (x.Waits.map cI), .tree 1 (x.Queues.map cI)]] = (xs ++ [x]).map cGate := by simp
theorem solid_cGate {xs : List DGate} : solid (xs.map cGate) = true := solid_map fun _ => rfl
structure DCore where
  Regs : List (Int)
  Pc : Int
  Process : Int
abbrev cCore (x : DCore) : List AV := [.tree 1 (x.Regs.map cI), .int .i64 x.Pc, .int .i64 x.Process]
def wtCore (x : DCore) : Nat := x.Regs.length
def gdCore (x : DCore) : Prop := (x.Regs.length ≤ 140737488351232 ∧ ∀ y ∈ x.Regs, i64 y) ∧ i64 x.Pc ∧ i64 x.Process
def mkCore (x : DCore) (k : Int) : DCore := { Regs := mkL mkI ct1 x.Regs k, Pc := (k + (tot ct1 x.Regs : Nat)), Process := ((k + (tot ct1 x.Regs : Nat)) + 1) }
def ctCore (x : DCore) : Nat := tot ct1 x.Regs + 1 + 1
theorem ctle_Core (x : DCore) : ctCore x ≤ 2 * (1 + wtCore x) := by
  have h0 := tot_ct1 x.Regs
  unfold ctCore
  simp only [wtCore] at *
  omega
theorem tctle_Core (xs : List DCore) : tot ctCore xs ≤ 2 * (xs.length + tot wtCore xs) := tot_ct_le ctle_Core xs
def mwCore (x : DCore) (k : Int) : DCore := { Regs := mkL mkI ct1 x.Regs k, Pc := x.Pc, Process := x.Process }
def cwCore (x : DCore) : Nat := tot ct1 x.Regs
theorem set_cCore {xs : List DCore} {n : Nat} {x : DCore} : (xs.map cCore).set n [.tree 1 (x.Regs.map cI), .int .i64 x.Pc, .int .i64 x.Process] = (xs.set n x).map cCore := by rw [List.map_set]
theorem snoc_cCore {xs : List DCore} {x : DCore} : xs.map cCore ++ [[.tree 1 (x.Regs.map cI), .int .i64 x.Pc, .int .i64 x.Process]] = (xs ++ [x]).map cCore := by simp
theorem solid_cCore {xs : List DCore} : solid (xs.map cCore) = true := solid_map fun _ => rfl
structure DKernel where
  Gates : List (DGate)
  Ready : List (Int)
  Saved : List (DCore)
  Over : List (Bool)
abbrev cKernel (x : DKernel) : List AV := [.tree 3 (x.Gates.map cGate), .tree 1 (x.Ready.map cI), .tree 3 (x.Saved.map cCore), .tree 1 (x.Over.map cB)]
def wtKernel (x : DKernel) : Nat := (x.Gates.length + tot wtGate x.Gates) + x.Ready.length + (x.Saved.length + tot wtCore x.Saved) + x.Over.length
def gdKernel (x : DKernel) : Prop := (x.Gates.length ≤ 140737488351232 ∧ ∀ y ∈ x.Gates, gdGate y) ∧ (x.Ready.length ≤ 140737488351232 ∧ ∀ y ∈ x.Ready, i64 y) ∧ (x.Saved.length ≤ 140737488351232 ∧ ∀ y ∈ x.Saved, gdCore y) ∧ (x.Over.length ≤ 140737488351232)
def mkKernel (x : DKernel) (k : Int) : DKernel := { Gates := mkL mkGate ctGate x.Gates k, Ready := mkL mkI ct1 x.Ready (k + (tot ctGate x.Gates : Nat)), Saved := mkL mkCore ctCore x.Saved ((k + (tot ctGate x.Gates : Nat)) + (tot ct1 x.Ready : Nat)), Over := mkL mkB ct1 x.Over (((k + (tot ctGate x.Gates : Nat)) + (tot ct1 x.Ready : Nat)) + (tot ctCore x.Saved : Nat)) }
def ctKernel (x : DKernel) : Nat := tot ctGate x.Gates + tot ct1 x.Ready + tot ctCore x.Saved + tot ct1 x.Over
theorem ctle_Kernel (x : DKernel) : ctKernel x ≤ 2 * (1 + wtKernel x) := by
  have h0 := tctle_Gate x.Gates
  have h1 := tot_ct1 x.Ready
  have h2 := tctle_Core x.Saved
  have h3 := tot_ct1 x.Over
  unfold ctKernel
  simp only [wtKernel] at *
  omega
theorem tctle_Kernel (xs : List DKernel) : tot ctKernel xs ≤ 2 * (xs.length + tot wtKernel xs) := tot_ct_le ctle_Kernel xs
def mwKernel (x : DKernel) (k : Int) : DKernel := { Gates := mkL mkGate ctGate x.Gates k, Ready := mkL mkI ct1 x.Ready (k + (tot ctGate x.Gates : Nat)), Saved := mkL mkCore ctCore x.Saved ((k + (tot ctGate x.Gates : Nat)) + (tot ct1 x.Ready : Nat)), Over := mkL mkB ct1 x.Over (((k + (tot ctGate x.Gates : Nat)) + (tot ct1 x.Ready : Nat)) + (tot ctCore x.Saved : Nat)) }
def cwKernel (x : DKernel) : Nat := tot ctGate x.Gates + tot ct1 x.Ready + tot ctCore x.Saved + tot ct1 x.Over
theorem set_cKernel {xs : List DKernel} {n : Nat} {x : DKernel} : (xs.map cKernel).set n [.tree 3 (x.Gates.map cGate), .tree 1 (x.Ready.map cI), .tree 3 (x.Saved.map cCore), .tree 1 (x.Over.map cB)] = (xs.set n x).map cKernel := by rw [List.map_set]
theorem snoc_cKernel {xs : List DKernel} {x : DKernel} : xs.map cKernel ++ [[.tree 3 (x.Gates.map cGate), .tree 1 (x.Ready.map cI), .tree 3 (x.Saved.map cCore), .tree 1 (x.Over.map cB)]] = (xs ++ [x]).map cKernel := by simp
theorem solid_cKernel {xs : List DKernel} : solid (xs.map cKernel) = true := solid_map fun _ => rfl
def FT := (And.intro (And.intro (And.intro @solid_cGate @solid_cCore) (And.intro @solid_cKernel @snoc_cGate)) (And.intro (And.intro @snoc_cCore @snoc_cKernel) (And.intro @set_cGate (And.intro @set_cCore @set_cKernel))))
theorem sem_laws_szIntS (xs : List Int) (h : xs.length ≤ 140737488351232) (n : Int) (h1 : -1 ≤ n) (h2 : n ≤ 4611686018427387904) : S_laws_szIntS.sem [.tree 1 (xs.map cI), .int .i64 n] = some (.int .i64 (lft n xs.length), []) := by
  rw [sg_laws_szIntS, sem_go]
  simp +contextual (maxSteps := 10000000) (disch := omega) only [F_laws_szIntS, params, EG, EL, ↓reduceIte, Nat.reduceEqDiff, Nat.reduceAdd, Nat.reduceSub, Nat.reduceMul, Nat.reduceLeDiff, Nat.reduceLT, Int.reduceLT, Int.reduceLE, Int.reduceEq, Int.reduceToNat, reduceCtorEq, FB, FT, cx_laws_szIntS, wrapI]
  unfold lft
  split <;> rfl
theorem sem_laws_szGate (x : DGate) (g : gdGate x) (n : Int) (h1 : -1 ≤ n) (h2 : n ≤ 4611686018427387904) : S_laws_szGate.sem [.agg (cGate x), .int .i64 n] = some (.int .i64 (lft n (wtGate x)), []) := by
  obtain ⟨g0, ⟨g1, g1e⟩, ⟨g2, g2e⟩⟩ := (show i64 x.Owner ∧ (x.Waits.length ≤ 140737488351232 ∧ ∀ y ∈ x.Waits, i64 y) ∧ (x.Queues.length ≤ 140737488351232 ∧ ∀ y ∈ x.Queues, i64 y) from g)
  skip
  unfold wtGate
  have kW := lft_or n (x.Waits.length + x.Queues.length)
  rw [sg_laws_szGate, sem_go]
  rcases lft_or (n) (x.Waits.length) with ⟨e0, f0⟩ | ⟨e0, f0⟩
  · simp (maxSteps := 10000000) (disch := first | assumption | omega) only [F_laws_szGate, params, EG, EL, ↓reduceIte, Nat.reduceEqDiff, Nat.reduceAdd, Nat.reduceSub, Nat.reduceMul, Nat.reduceLeDiff, Nat.reduceLT, Int.reduceLT, Int.reduceLE, Int.reduceEq, Int.reduceToNat, reduceCtorEq, FB, FT, cx_laws_szGate, cl_laws_szIntS, sem_laws_szIntS, wrapI, neg1_lt, e0]
    first | done | (simp only [Option.some.injEq, Prod.mk.injEq, AV.int.injEq, AV.bool.injEq, AV.str.injEq, true_and, and_true]; omega)
  · have c0 : ¬ n - ((x.Waits.length : Nat) : Int) < 0 := by omega
    rcases lft_or (n - ((x.Waits.length : Nat) : Int)) (x.Queues.length) with ⟨e1, f1⟩ | ⟨e1, f1⟩
    · simp (maxSteps := 10000000) (disch := first | assumption | omega) only [F_laws_szGate, params, EG, EL, ↓reduceIte, Nat.reduceEqDiff, Nat.reduceAdd, Nat.reduceSub, Nat.reduceMul, Nat.reduceLeDiff, Nat.reduceLT, Int.reduceLT, Int.reduceLE, Int.reduceEq, Int.reduceToNat, reduceCtorEq, FB, FT, cx_laws_szGate, cl_laws_szIntS, sem_laws_szIntS, wrapI, neg1_lt, e0, c0, e1]
      first | done | (simp only [Option.some.injEq, Prod.mk.injEq, AV.int.injEq, AV.bool.injEq, AV.str.injEq, true_and, and_true]; omega)
    · have c1 : ¬ n - ((x.Waits.length : Nat) : Int) - ((x.Queues.length : Nat) : Int) < 0 := by omega
      simp (maxSteps := 10000000) (disch := first | assumption | omega) only [F_laws_szGate, params, EG, EL, ↓reduceIte, Nat.reduceEqDiff, Nat.reduceAdd, Nat.reduceSub, Nat.reduceMul, Nat.reduceLeDiff, Nat.reduceLT, Int.reduceLT, Int.reduceLE, Int.reduceEq, Int.reduceToNat, reduceCtorEq, FB, FT, cx_laws_szGate, cl_laws_szIntS, sem_laws_szIntS, wrapI, neg1_lt, e0, c0, e1, c1]
      first | done | rfl | (simp only [Option.some.injEq, Prod.mk.injEq, AV.int.injEq, AV.bool.injEq, AV.str.injEq, true_and, and_true]; omega)
theorem loop_laws_szGateS (xs : List DGate) (g : ∀ y ∈ xs, gdGate y) (hl : xs.length ≤ 140737488351232) (n : Int) (h1 : 0 ≤ n) (h2 : n ≤ 4611686018427387904) :
    loopV X_laws_szGateS 0 [0, 1, 5] [(1, [1]), (0, [4])] B0_laws_szGateS ⟨[(0, .tree 3 (xs.map cGate)), (1, .int .i64 n), (5, .int .i64 0)], []⟩ = szR 4 n (tot wtGate xs) := by
  refine loop_list xs (fun _ m => 0 ≤ m ∧ m ≤ 4611686018427387904) (fun i (m : Int) => ⟨[(0, .tree 3 (xs.map cGate)), (1, .int .i64 m), (5, .int .i64 ((i : Nat) : Int))], []⟩) (fun rest m => szR 4 m (tot wtGate rest)) ?_ ?_ n ⟨h1, h2⟩
  · rintro m ⟨m1, m2⟩
    rw [loopV_by B0_laws_szGateS.eq_1]
    simp only [EG, EL, ↓reduceIte, Nat.reduceEqDiff, Nat.reduceAdd, Nat.reduceSub, Nat.reduceMul, Nat.reduceLeDiff, Nat.reduceLT, Int.reduceLT, Int.reduceLE, Int.reduceEq, Int.reduceToNat, reduceCtorEq, int_lt_irrefl]
    exact szR_zero m1
  · rintro i h x rest m rfl rfl ⟨m1, m2⟩ ih
    have hi : (i : Int) < (xs.length : Int) := by omega
    have hx := g _ (List.getElem_mem h)
    skip
    rw [loopV_by B0_laws_szGateS.eq_1]
    by_cases hc : m - ((wtGate xs[i] : Nat) : Int) < 0
    · have hq : lft m (wtGate xs[i]) = -1 := if_pos hc
      simp (maxSteps := 10000000) (disch := first | assumption | omega) only [EG, EL, ↓reduceIte, Nat.reduceEqDiff, Nat.reduceAdd, Nat.reduceSub, Nat.reduceMul, Nat.reduceLeDiff, Nat.reduceLT, Int.reduceLT, Int.reduceLE, Int.reduceEq, Int.reduceToNat, reduceCtorEq, FB, FT, hi, wrap_succ, getRow _ _ h, cx_laws_szGateS, cl_laws_szGate, sem_laws_szGate, hc, hq, neg1_lt]
      exact szR_neg hc
    · have hq : lft m (wtGate xs[i]) = m - ((wtGate xs[i] : Nat) : Int) := if_neg hc
      simp (maxSteps := 10000000) (disch := first | assumption | omega) only [EG, EL, ↓reduceIte, Nat.reduceEqDiff, Nat.reduceAdd, Nat.reduceSub, Nat.reduceMul, Nat.reduceLeDiff, Nat.reduceLT, Int.reduceLT, Int.reduceLE, Int.reduceEq, Int.reduceToNat, reduceCtorEq, FB, FT, hi, wrap_succ, getRow _ _ h, cx_laws_szGateS, cl_laws_szGate, sem_laws_szGate, hc, hq, neg1_lt]
      skip
      rw [ih _ ⟨by omega, by omega⟩]
      exact szR_pos
theorem sem_laws_szGateS (xs : List DGate) (h : xs.length ≤ 140737488351232) (g : ∀ y ∈ xs, gdGate y) (n : Int) (h1 : -1 ≤ n) (h2 : n ≤ 4611686018427387904) : S_laws_szGateS.sem [.tree 3 (xs.map cGate), .int .i64 n] = some (.int .i64 (lft n (xs.length + tot wtGate xs)), []) := by
  rw [sg_laws_szGateS, sem_go]
  by_cases hc : n - (xs.length : Int) < 0
  · simp (maxSteps := 10000000) (disch := omega) only [F_laws_szGateS, params, EG, EL, ↓reduceIte, Nat.reduceEqDiff, Nat.reduceAdd, Nat.reduceSub, Nat.reduceMul, Nat.reduceLeDiff, Nat.reduceLT, Int.reduceLT, Int.reduceLE, Int.reduceEq, Int.reduceToNat, reduceCtorEq, FB, FT, cx_laws_szGateS, cl_laws_szGate, sem_laws_szGate, wrapI, hc, lft]
    rw [if_pos (by omega)]
  · simp (maxSteps := 10000000) (disch := first | assumption | omega) only [F_laws_szGateS, params, EG, EL, ↓reduceIte, Nat.reduceEqDiff, Nat.reduceAdd, Nat.reduceSub, Nat.reduceMul, Nat.reduceLeDiff, Nat.reduceLT, Int.reduceLT, Int.reduceLE, Int.reduceEq, Int.reduceToNat, reduceCtorEq, FB, FT, cx_laws_szGateS, cl_laws_szGate, sem_laws_szGate, wrapI, hc, loop_laws_szGateS, goE_szR]
    unfold lft
    (repeat' split) <;> first | rfl | omega | (simp only [Option.some.injEq, Prod.mk.injEq, AV.int.injEq, AV.bool.injEq, AV.str.injEq, true_and, and_true]; omega)
theorem sem_laws_szCore (x : DCore) (g : gdCore x) (n : Int) (h1 : -1 ≤ n) (h2 : n ≤ 4611686018427387904) : S_laws_szCore.sem [.agg (cCore x), .int .i64 n] = some (.int .i64 (lft n (wtCore x)), []) := by
  obtain ⟨⟨g0, g0e⟩, g1, g2⟩ := (show (x.Regs.length ≤ 140737488351232 ∧ ∀ y ∈ x.Regs, i64 y) ∧ i64 x.Pc ∧ i64 x.Process from g)
  skip
  unfold wtCore
  have kW := lft_or n (x.Regs.length)
  rw [sg_laws_szCore, sem_go]
  rcases lft_or (n) (x.Regs.length) with ⟨e0, f0⟩ | ⟨e0, f0⟩
  · simp (maxSteps := 10000000) (disch := first | assumption | omega) only [F_laws_szCore, params, EG, EL, ↓reduceIte, Nat.reduceEqDiff, Nat.reduceAdd, Nat.reduceSub, Nat.reduceMul, Nat.reduceLeDiff, Nat.reduceLT, Int.reduceLT, Int.reduceLE, Int.reduceEq, Int.reduceToNat, reduceCtorEq, FB, FT, cx_laws_szCore, cl_laws_szIntS, sem_laws_szIntS, wrapI, neg1_lt, e0]
    first | done | (simp only [Option.some.injEq, Prod.mk.injEq, AV.int.injEq, AV.bool.injEq, AV.str.injEq, true_and, and_true]; omega)
  · have c0 : ¬ n - ((x.Regs.length : Nat) : Int) < 0 := by omega
    simp (maxSteps := 10000000) (disch := first | assumption | omega) only [F_laws_szCore, params, EG, EL, ↓reduceIte, Nat.reduceEqDiff, Nat.reduceAdd, Nat.reduceSub, Nat.reduceMul, Nat.reduceLeDiff, Nat.reduceLT, Int.reduceLT, Int.reduceLE, Int.reduceEq, Int.reduceToNat, reduceCtorEq, FB, FT, cx_laws_szCore, cl_laws_szIntS, sem_laws_szIntS, wrapI, neg1_lt, e0, c0]
    first | done | rfl | (simp only [Option.some.injEq, Prod.mk.injEq, AV.int.injEq, AV.bool.injEq, AV.str.injEq, true_and, and_true]; omega)
theorem loop_laws_szCoreS (xs : List DCore) (g : ∀ y ∈ xs, gdCore y) (hl : xs.length ≤ 140737488351232) (n : Int) (h1 : 0 ≤ n) (h2 : n ≤ 4611686018427387904) :
    loopV X_laws_szCoreS 0 [0, 1, 5] [(1, [1]), (0, [4])] B0_laws_szCoreS ⟨[(0, .tree 3 (xs.map cCore)), (1, .int .i64 n), (5, .int .i64 0)], []⟩ = szR 4 n (tot wtCore xs) := by
  refine loop_list xs (fun _ m => 0 ≤ m ∧ m ≤ 4611686018427387904) (fun i (m : Int) => ⟨[(0, .tree 3 (xs.map cCore)), (1, .int .i64 m), (5, .int .i64 ((i : Nat) : Int))], []⟩) (fun rest m => szR 4 m (tot wtCore rest)) ?_ ?_ n ⟨h1, h2⟩
  · rintro m ⟨m1, m2⟩
    rw [loopV_by B0_laws_szCoreS.eq_1]
    simp only [EG, EL, ↓reduceIte, Nat.reduceEqDiff, Nat.reduceAdd, Nat.reduceSub, Nat.reduceMul, Nat.reduceLeDiff, Nat.reduceLT, Int.reduceLT, Int.reduceLE, Int.reduceEq, Int.reduceToNat, reduceCtorEq, int_lt_irrefl]
    exact szR_zero m1
  · rintro i h x rest m rfl rfl ⟨m1, m2⟩ ih
    have hi : (i : Int) < (xs.length : Int) := by omega
    have hx := g _ (List.getElem_mem h)
    skip
    rw [loopV_by B0_laws_szCoreS.eq_1]
    by_cases hc : m - ((wtCore xs[i] : Nat) : Int) < 0
    · have hq : lft m (wtCore xs[i]) = -1 := if_pos hc
      simp (maxSteps := 10000000) (disch := first | assumption | omega) only [EG, EL, ↓reduceIte, Nat.reduceEqDiff, Nat.reduceAdd, Nat.reduceSub, Nat.reduceMul, Nat.reduceLeDiff, Nat.reduceLT, Int.reduceLT, Int.reduceLE, Int.reduceEq, Int.reduceToNat, reduceCtorEq, FB, FT, hi, wrap_succ, getRow _ _ h, cx_laws_szCoreS, cl_laws_szCore, sem_laws_szCore, hc, hq, neg1_lt]
      exact szR_neg hc
    · have hq : lft m (wtCore xs[i]) = m - ((wtCore xs[i] : Nat) : Int) := if_neg hc
      simp (maxSteps := 10000000) (disch := first | assumption | omega) only [EG, EL, ↓reduceIte, Nat.reduceEqDiff, Nat.reduceAdd, Nat.reduceSub, Nat.reduceMul, Nat.reduceLeDiff, Nat.reduceLT, Int.reduceLT, Int.reduceLE, Int.reduceEq, Int.reduceToNat, reduceCtorEq, FB, FT, hi, wrap_succ, getRow _ _ h, cx_laws_szCoreS, cl_laws_szCore, sem_laws_szCore, hc, hq, neg1_lt]
      skip
      rw [ih _ ⟨by omega, by omega⟩]
      exact szR_pos
theorem sem_laws_szCoreS (xs : List DCore) (h : xs.length ≤ 140737488351232) (g : ∀ y ∈ xs, gdCore y) (n : Int) (h1 : -1 ≤ n) (h2 : n ≤ 4611686018427387904) : S_laws_szCoreS.sem [.tree 3 (xs.map cCore), .int .i64 n] = some (.int .i64 (lft n (xs.length + tot wtCore xs)), []) := by
  rw [sg_laws_szCoreS, sem_go]
  by_cases hc : n - (xs.length : Int) < 0
  · simp (maxSteps := 10000000) (disch := omega) only [F_laws_szCoreS, params, EG, EL, ↓reduceIte, Nat.reduceEqDiff, Nat.reduceAdd, Nat.reduceSub, Nat.reduceMul, Nat.reduceLeDiff, Nat.reduceLT, Int.reduceLT, Int.reduceLE, Int.reduceEq, Int.reduceToNat, reduceCtorEq, FB, FT, cx_laws_szCoreS, cl_laws_szCore, sem_laws_szCore, wrapI, hc, lft]
    rw [if_pos (by omega)]
  · simp (maxSteps := 10000000) (disch := first | assumption | omega) only [F_laws_szCoreS, params, EG, EL, ↓reduceIte, Nat.reduceEqDiff, Nat.reduceAdd, Nat.reduceSub, Nat.reduceMul, Nat.reduceLeDiff, Nat.reduceLT, Int.reduceLT, Int.reduceLE, Int.reduceEq, Int.reduceToNat, reduceCtorEq, FB, FT, cx_laws_szCoreS, cl_laws_szCore, sem_laws_szCore, wrapI, hc, loop_laws_szCoreS, goE_szR]
    unfold lft
    (repeat' split) <;> first | rfl | omega | (simp only [Option.some.injEq, Prod.mk.injEq, AV.int.injEq, AV.bool.injEq, AV.str.injEq, true_and, and_true]; omega)
theorem sem_laws_szBoolS (xs : List Bool) (h : xs.length ≤ 140737488351232) (n : Int) (h1 : -1 ≤ n) (h2 : n ≤ 4611686018427387904) : S_laws_szBoolS.sem [.tree 1 (xs.map cB), .int .i64 n] = some (.int .i64 (lft n xs.length), []) := by
  rw [sg_laws_szBoolS, sem_go]
  simp +contextual (maxSteps := 10000000) (disch := omega) only [F_laws_szBoolS, params, EG, EL, ↓reduceIte, Nat.reduceEqDiff, Nat.reduceAdd, Nat.reduceSub, Nat.reduceMul, Nat.reduceLeDiff, Nat.reduceLT, Int.reduceLT, Int.reduceLE, Int.reduceEq, Int.reduceToNat, reduceCtorEq, FB, FT, cx_laws_szBoolS, wrapI]
  unfold lft
  split <;> rfl
theorem sem_laws_szKernel (x : DKernel) (g : gdKernel x) (n : Int) (h1 : -1 ≤ n) (h2 : n ≤ 4611686018427387904) : S_laws_szKernel.sem [.agg (cKernel x), .int .i64 n] = some (.int .i64 (lft n (wtKernel x)), []) := by
  obtain ⟨⟨g0, g0e⟩, ⟨g1, g1e⟩, ⟨g2, g2e⟩, g3⟩ := (show (x.Gates.length ≤ 140737488351232 ∧ ∀ y ∈ x.Gates, gdGate y) ∧ (x.Ready.length ≤ 140737488351232 ∧ ∀ y ∈ x.Ready, i64 y) ∧ (x.Saved.length ≤ 140737488351232 ∧ ∀ y ∈ x.Saved, gdCore y) ∧ (x.Over.length ≤ 140737488351232) from g)
  skip
  unfold wtKernel
  have kW := lft_or n ((x.Gates.length + tot wtGate x.Gates) + x.Ready.length + (x.Saved.length + tot wtCore x.Saved) + x.Over.length)
  rw [sg_laws_szKernel, sem_go]
  rcases lft_or (n) (x.Gates.length + tot wtGate x.Gates) with ⟨e0, f0⟩ | ⟨e0, f0⟩
  · simp (maxSteps := 10000000) (disch := first | assumption | omega) only [F_laws_szKernel, params, EG, EL, ↓reduceIte, Nat.reduceEqDiff, Nat.reduceAdd, Nat.reduceSub, Nat.reduceMul, Nat.reduceLeDiff, Nat.reduceLT, Int.reduceLT, Int.reduceLE, Int.reduceEq, Int.reduceToNat, reduceCtorEq, FB, FT, cx_laws_szKernel, cl_laws_szGateS, sem_laws_szGateS, cl_laws_szIntS, sem_laws_szIntS, cl_laws_szCoreS, sem_laws_szCoreS, cl_laws_szBoolS, sem_laws_szBoolS, wrapI, neg1_lt, e0]
    first | done | (simp only [Option.some.injEq, Prod.mk.injEq, AV.int.injEq, AV.bool.injEq, AV.str.injEq, true_and, and_true]; omega)
  · have c0 : ¬ n - ((x.Gates.length + tot wtGate x.Gates : Nat) : Int) < 0 := by omega
    rcases lft_or (n - ((x.Gates.length + tot wtGate x.Gates : Nat) : Int)) (x.Ready.length) with ⟨e1, f1⟩ | ⟨e1, f1⟩
    · simp (maxSteps := 10000000) (disch := first | assumption | omega) only [F_laws_szKernel, params, EG, EL, ↓reduceIte, Nat.reduceEqDiff, Nat.reduceAdd, Nat.reduceSub, Nat.reduceMul, Nat.reduceLeDiff, Nat.reduceLT, Int.reduceLT, Int.reduceLE, Int.reduceEq, Int.reduceToNat, reduceCtorEq, FB, FT, cx_laws_szKernel, cl_laws_szGateS, sem_laws_szGateS, cl_laws_szIntS, sem_laws_szIntS, cl_laws_szCoreS, sem_laws_szCoreS, cl_laws_szBoolS, sem_laws_szBoolS, wrapI, neg1_lt, e0, c0, e1]
      first | done | (simp only [Option.some.injEq, Prod.mk.injEq, AV.int.injEq, AV.bool.injEq, AV.str.injEq, true_and, and_true]; omega)
    · have c1 : ¬ n - ((x.Gates.length + tot wtGate x.Gates : Nat) : Int) - ((x.Ready.length : Nat) : Int) < 0 := by omega
      rcases lft_or (n - ((x.Gates.length + tot wtGate x.Gates : Nat) : Int) - ((x.Ready.length : Nat) : Int)) (x.Saved.length + tot wtCore x.Saved) with ⟨e2, f2⟩ | ⟨e2, f2⟩
      · simp (maxSteps := 10000000) (disch := first | assumption | omega) only [F_laws_szKernel, params, EG, EL, ↓reduceIte, Nat.reduceEqDiff, Nat.reduceAdd, Nat.reduceSub, Nat.reduceMul, Nat.reduceLeDiff, Nat.reduceLT, Int.reduceLT, Int.reduceLE, Int.reduceEq, Int.reduceToNat, reduceCtorEq, FB, FT, cx_laws_szKernel, cl_laws_szGateS, sem_laws_szGateS, cl_laws_szIntS, sem_laws_szIntS, cl_laws_szCoreS, sem_laws_szCoreS, cl_laws_szBoolS, sem_laws_szBoolS, wrapI, neg1_lt, e0, c0, e1, c1, e2]
        first | done | (simp only [Option.some.injEq, Prod.mk.injEq, AV.int.injEq, AV.bool.injEq, AV.str.injEq, true_and, and_true]; omega)
      · have c2 : ¬ n - ((x.Gates.length + tot wtGate x.Gates : Nat) : Int) - ((x.Ready.length : Nat) : Int) - ((x.Saved.length + tot wtCore x.Saved : Nat) : Int) < 0 := by omega
        rcases lft_or (n - ((x.Gates.length + tot wtGate x.Gates : Nat) : Int) - ((x.Ready.length : Nat) : Int) - ((x.Saved.length + tot wtCore x.Saved : Nat) : Int)) (x.Over.length) with ⟨e3, f3⟩ | ⟨e3, f3⟩
        · simp (maxSteps := 10000000) (disch := first | assumption | omega) only [F_laws_szKernel, params, EG, EL, ↓reduceIte, Nat.reduceEqDiff, Nat.reduceAdd, Nat.reduceSub, Nat.reduceMul, Nat.reduceLeDiff, Nat.reduceLT, Int.reduceLT, Int.reduceLE, Int.reduceEq, Int.reduceToNat, reduceCtorEq, FB, FT, cx_laws_szKernel, cl_laws_szGateS, sem_laws_szGateS, cl_laws_szIntS, sem_laws_szIntS, cl_laws_szCoreS, sem_laws_szCoreS, cl_laws_szBoolS, sem_laws_szBoolS, wrapI, neg1_lt, e0, c0, e1, c1, e2, c2, e3]
          first | done | (simp only [Option.some.injEq, Prod.mk.injEq, AV.int.injEq, AV.bool.injEq, AV.str.injEq, true_and, and_true]; omega)
        · have c3 : ¬ n - ((x.Gates.length + tot wtGate x.Gates : Nat) : Int) - ((x.Ready.length : Nat) : Int) - ((x.Saved.length + tot wtCore x.Saved : Nat) : Int) - ((x.Over.length : Nat) : Int) < 0 := by omega
          simp (maxSteps := 10000000) (disch := first | assumption | omega) only [F_laws_szKernel, params, EG, EL, ↓reduceIte, Nat.reduceEqDiff, Nat.reduceAdd, Nat.reduceSub, Nat.reduceMul, Nat.reduceLeDiff, Nat.reduceLT, Int.reduceLT, Int.reduceLE, Int.reduceEq, Int.reduceToNat, reduceCtorEq, FB, FT, cx_laws_szKernel, cl_laws_szGateS, sem_laws_szGateS, cl_laws_szIntS, sem_laws_szIntS, cl_laws_szCoreS, sem_laws_szCoreS, cl_laws_szBoolS, sem_laws_szBoolS, wrapI, neg1_lt, e0, c0, e1, c1, e2, c2, e3, c3]
          first | done | rfl | (simp only [Option.some.injEq, Prod.mk.injEq, AV.int.injEq, AV.bool.injEq, AV.str.injEq, true_and, and_true]; omega)
theorem loop_laws_toIntS (xs : List Int) (hl : xs.length ≤ 1048576) :
    loopV X_laws_toIntS 0 [0, 3, 4] [(1, [3])] B0_laws_toIntS ⟨[(0, .tree 1 (xs.map cI)), (3, .sl ⟨0, none, 0⟩ 1 0 xs.length), (4, .int .i64 0)], [some ⟨false, 0, 1, fillR cI [.int .i64 0] xs 0⟩]⟩ = some (.exit 0, ⟨[(3, .sl ⟨0, none, 0⟩ 1 0 xs.length)], [some ⟨false, 0, 1, xs.map cI⟩]⟩) := by
  refine loop_list xs (fun _ (_ : Unit) => True) (fun i _ => ⟨[(0, .tree 1 (xs.map cI)), (3, .sl ⟨0, none, 0⟩ 1 0 xs.length), (4, .int .i64 ((i : Nat) : Int))], [some ⟨false, 0, 1, fillR cI [.int .i64 0] xs i⟩]⟩) (fun _ _ => some (.exit 0, ⟨[(3, .sl ⟨0, none, 0⟩ 1 0 xs.length)], [some ⟨false, 0, 1, xs.map cI⟩]⟩)) ?_ ?_ () trivial
  · intro _ _
    rw [loopV_by B0_laws_toIntS.eq_1]
    simp only [EG, EL, ↓reduceIte, Nat.reduceEqDiff, Nat.reduceAdd, Nat.reduceSub, Nat.reduceMul, Nat.reduceLeDiff, Nat.reduceLT, Int.reduceLT, Int.reduceLE, Int.reduceEq, Int.reduceToNat, reduceCtorEq, int_lt_irrefl, fillR_end]
  · rintro i h x rest _ rfl rfl _ ih
    have hi : (i : Int) < (xs.length : Int) := by omega
    skip
    have hf := fillR_set (c := cI) (z := [.int .i64 0]) h rfl
    simp only [cI] at hf
    rw [loopV_by B0_laws_toIntS.eq_1]
    simp (maxSteps := 10000000) (disch := first | assumption | omega) only [EG, EL, ↓reduceIte, Nat.reduceEqDiff, Nat.reduceAdd, Nat.reduceSub, Nat.reduceMul, Nat.reduceLeDiff, Nat.reduceLT, Int.reduceLT, Int.reduceLE, Int.reduceEq, Int.reduceToNat, reduceCtorEq, FB, FT, hi, h, wrap_succ, getRow _ _ h, fillR_get h, fillR_length (Nat.le_of_lt h), cx_laws_toIntS]
    simp only [splice_eq, EG, EL, ↓reduceIte, Nat.reduceEqDiff, Nat.reduceAdd, Nat.reduceSub, Nat.reduceMul, Nat.reduceLeDiff, Nat.reduceLT, Int.reduceLT, Int.reduceLE, Int.reduceEq, Int.reduceToNat, reduceCtorEq, hf]
    exact ih () trivial
theorem sem_laws_toIntS (xs : List Int) (h : xs.length ≤ 1048576) : S_laws_toIntS.sem [.tree 1 (xs.map cI)] = some (.tree 1 (xs.map cI), []) := by
  rw [sg_laws_toIntS, sem_go]
  simp (maxSteps := 10000000) (disch := omega) only [F_laws_toIntS, params, EG, EL, ↓reduceIte, Nat.reduceEqDiff, Nat.reduceAdd, Nat.reduceSub, Nat.reduceMul, Nat.reduceLeDiff, Nat.reduceLT, Int.reduceLT, Int.reduceLE, Int.reduceEq, Int.reduceToNat, reduceCtorEq, FB, FT, cx_laws_toIntS, fillR_zero cI, loop_laws_toIntS xs h]
  rw [if_pos (by omega)]
theorem sem_laws_toGate (x : DGate) (h : wtGate x ≤ 1048576) : S_laws_toGate.sem [.agg (cGate x)] = some (.agg (cGate x), []) := by
  unfold wtGate at h
  rw [sg_laws_toGate, sem_go]
  simp (maxSteps := 10000000) (disch := omega) only [F_laws_toGate, params, EG, EL, ↓reduceIte, Nat.reduceEqDiff, Nat.reduceAdd, Nat.reduceSub, Nat.reduceMul, Nat.reduceLeDiff, Nat.reduceLT, Int.reduceLT, Int.reduceLE, Int.reduceEq, Int.reduceToNat, reduceCtorEq, FB, FT, cx_laws_toGate, cl_laws_toIntS, sem_laws_toIntS]
theorem loop_laws_toGateS (xs : List DGate) (hl : xs.length + tot wtGate xs ≤ 1048576) :
    loopV X_laws_toGateS 0 [0, 3, 4] [(1, [3])] B0_laws_toGateS ⟨[(0, .tree 3 (xs.map cGate)), (3, .sl ⟨0, none, 0⟩ 3 0 xs.length), (4, .int .i64 0)], [some ⟨false, 0, 3, fillR cGate [.int .i64 0, .tree 1 [], .tree 1 []] xs 0⟩]⟩ = some (.exit 0, ⟨[(3, .sl ⟨0, none, 0⟩ 3 0 xs.length)], [some ⟨false, 0, 3, xs.map cGate⟩]⟩) := by
  refine loop_list xs (fun _ (_ : Unit) => True) (fun i _ => ⟨[(0, .tree 3 (xs.map cGate)), (3, .sl ⟨0, none, 0⟩ 3 0 xs.length), (4, .int .i64 ((i : Nat) : Int))], [some ⟨false, 0, 3, fillR cGate [.int .i64 0, .tree 1 [], .tree 1 []] xs i⟩]⟩) (fun _ _ => some (.exit 0, ⟨[(3, .sl ⟨0, none, 0⟩ 3 0 xs.length)], [some ⟨false, 0, 3, xs.map cGate⟩]⟩)) ?_ ?_ () trivial
  · intro _ _
    rw [loopV_by B0_laws_toGateS.eq_1]
    simp only [EG, EL, ↓reduceIte, Nat.reduceEqDiff, Nat.reduceAdd, Nat.reduceSub, Nat.reduceMul, Nat.reduceLeDiff, Nat.reduceLT, Int.reduceLT, Int.reduceLE, Int.reduceEq, Int.reduceToNat, reduceCtorEq, int_lt_irrefl, fillR_end]
  · rintro i h x rest _ rfl rfl _ ih
    have hi : (i : Int) < (xs.length : Int) := by omega
    have hx : wtGate xs[i] ≤ 1048576 := by have := le_tot wtGate (List.getElem_mem h); omega
    have hf := fillR_set (c := cGate) (z := [.int .i64 0, .tree 1 [], .tree 1 []]) h rfl
    simp only [cGate] at hf
    rw [loopV_by B0_laws_toGateS.eq_1]
    simp (maxSteps := 10000000) (disch := first | assumption | omega) only [EG, EL, ↓reduceIte, Nat.reduceEqDiff, Nat.reduceAdd, Nat.reduceSub, Nat.reduceMul, Nat.reduceLeDiff, Nat.reduceLT, Int.reduceLT, Int.reduceLE, Int.reduceEq, Int.reduceToNat, reduceCtorEq, FB, FT, hi, h, wrap_succ, getRow _ _ h, fillR_get h, fillR_length (Nat.le_of_lt h), cx_laws_toGateS, cl_laws_toGate, sem_laws_toGate]
    simp only [splice_eq, EG, EL, ↓reduceIte, Nat.reduceEqDiff, Nat.reduceAdd, Nat.reduceSub, Nat.reduceMul, Nat.reduceLeDiff, Nat.reduceLT, Int.reduceLT, Int.reduceLE, Int.reduceEq, Int.reduceToNat, reduceCtorEq, hf]
    exact ih () trivial
theorem sem_laws_toGateS (xs : List DGate) (h : xs.length + tot wtGate xs ≤ 1048576) : S_laws_toGateS.sem [.tree 3 (xs.map cGate)] = some (.tree 3 (xs.map cGate), []) := by
  rw [sg_laws_toGateS, sem_go]
  simp (maxSteps := 10000000) (disch := omega) only [F_laws_toGateS, params, EG, EL, ↓reduceIte, Nat.reduceEqDiff, Nat.reduceAdd, Nat.reduceSub, Nat.reduceMul, Nat.reduceLeDiff, Nat.reduceLT, Int.reduceLT, Int.reduceLE, Int.reduceEq, Int.reduceToNat, reduceCtorEq, FB, FT, cx_laws_toGateS, cl_laws_toGate, sem_laws_toGate, fillR_zero cGate, loop_laws_toGateS xs h]
  rw [if_pos (by omega)]
theorem sem_laws_toCore (x : DCore) (h : wtCore x ≤ 1048576) : S_laws_toCore.sem [.agg (cCore x)] = some (.agg (cCore x), []) := by
  unfold wtCore at h
  rw [sg_laws_toCore, sem_go]
  simp (maxSteps := 10000000) (disch := omega) only [F_laws_toCore, params, EG, EL, ↓reduceIte, Nat.reduceEqDiff, Nat.reduceAdd, Nat.reduceSub, Nat.reduceMul, Nat.reduceLeDiff, Nat.reduceLT, Int.reduceLT, Int.reduceLE, Int.reduceEq, Int.reduceToNat, reduceCtorEq, FB, FT, cx_laws_toCore, cl_laws_toIntS, sem_laws_toIntS]
theorem loop_laws_toCoreS (xs : List DCore) (hl : xs.length + tot wtCore xs ≤ 1048576) :
    loopV X_laws_toCoreS 0 [0, 3, 4] [(1, [3])] B0_laws_toCoreS ⟨[(0, .tree 3 (xs.map cCore)), (3, .sl ⟨0, none, 0⟩ 3 0 xs.length), (4, .int .i64 0)], [some ⟨false, 0, 3, fillR cCore [.tree 1 [], .int .i64 0, .int .i64 0] xs 0⟩]⟩ = some (.exit 0, ⟨[(3, .sl ⟨0, none, 0⟩ 3 0 xs.length)], [some ⟨false, 0, 3, xs.map cCore⟩]⟩) := by
  refine loop_list xs (fun _ (_ : Unit) => True) (fun i _ => ⟨[(0, .tree 3 (xs.map cCore)), (3, .sl ⟨0, none, 0⟩ 3 0 xs.length), (4, .int .i64 ((i : Nat) : Int))], [some ⟨false, 0, 3, fillR cCore [.tree 1 [], .int .i64 0, .int .i64 0] xs i⟩]⟩) (fun _ _ => some (.exit 0, ⟨[(3, .sl ⟨0, none, 0⟩ 3 0 xs.length)], [some ⟨false, 0, 3, xs.map cCore⟩]⟩)) ?_ ?_ () trivial
  · intro _ _
    rw [loopV_by B0_laws_toCoreS.eq_1]
    simp only [EG, EL, ↓reduceIte, Nat.reduceEqDiff, Nat.reduceAdd, Nat.reduceSub, Nat.reduceMul, Nat.reduceLeDiff, Nat.reduceLT, Int.reduceLT, Int.reduceLE, Int.reduceEq, Int.reduceToNat, reduceCtorEq, int_lt_irrefl, fillR_end]
  · rintro i h x rest _ rfl rfl _ ih
    have hi : (i : Int) < (xs.length : Int) := by omega
    have hx : wtCore xs[i] ≤ 1048576 := by have := le_tot wtCore (List.getElem_mem h); omega
    have hf := fillR_set (c := cCore) (z := [.tree 1 [], .int .i64 0, .int .i64 0]) h rfl
    simp only [cCore] at hf
    rw [loopV_by B0_laws_toCoreS.eq_1]
    simp (maxSteps := 10000000) (disch := first | assumption | omega) only [EG, EL, ↓reduceIte, Nat.reduceEqDiff, Nat.reduceAdd, Nat.reduceSub, Nat.reduceMul, Nat.reduceLeDiff, Nat.reduceLT, Int.reduceLT, Int.reduceLE, Int.reduceEq, Int.reduceToNat, reduceCtorEq, FB, FT, hi, h, wrap_succ, getRow _ _ h, fillR_get h, fillR_length (Nat.le_of_lt h), cx_laws_toCoreS, cl_laws_toCore, sem_laws_toCore]
    simp only [splice_eq, EG, EL, ↓reduceIte, Nat.reduceEqDiff, Nat.reduceAdd, Nat.reduceSub, Nat.reduceMul, Nat.reduceLeDiff, Nat.reduceLT, Int.reduceLT, Int.reduceLE, Int.reduceEq, Int.reduceToNat, reduceCtorEq, hf]
    exact ih () trivial
theorem sem_laws_toCoreS (xs : List DCore) (h : xs.length + tot wtCore xs ≤ 1048576) : S_laws_toCoreS.sem [.tree 3 (xs.map cCore)] = some (.tree 3 (xs.map cCore), []) := by
  rw [sg_laws_toCoreS, sem_go]
  simp (maxSteps := 10000000) (disch := omega) only [F_laws_toCoreS, params, EG, EL, ↓reduceIte, Nat.reduceEqDiff, Nat.reduceAdd, Nat.reduceSub, Nat.reduceMul, Nat.reduceLeDiff, Nat.reduceLT, Int.reduceLT, Int.reduceLE, Int.reduceEq, Int.reduceToNat, reduceCtorEq, FB, FT, cx_laws_toCoreS, cl_laws_toCore, sem_laws_toCore, fillR_zero cCore, loop_laws_toCoreS xs h]
  rw [if_pos (by omega)]
theorem loop_laws_toBoolS (xs : List Bool) (hl : xs.length ≤ 1048576) :
    loopV X_laws_toBoolS 0 [0, 3, 4] [(1, [3])] B0_laws_toBoolS ⟨[(0, .tree 1 (xs.map cB)), (3, .sl ⟨0, none, 0⟩ 1 0 xs.length), (4, .int .i64 0)], [some ⟨false, 0, 1, fillR cB [.bool false] xs 0⟩]⟩ = some (.exit 0, ⟨[(3, .sl ⟨0, none, 0⟩ 1 0 xs.length)], [some ⟨false, 0, 1, xs.map cB⟩]⟩) := by
  refine loop_list xs (fun _ (_ : Unit) => True) (fun i _ => ⟨[(0, .tree 1 (xs.map cB)), (3, .sl ⟨0, none, 0⟩ 1 0 xs.length), (4, .int .i64 ((i : Nat) : Int))], [some ⟨false, 0, 1, fillR cB [.bool false] xs i⟩]⟩) (fun _ _ => some (.exit 0, ⟨[(3, .sl ⟨0, none, 0⟩ 1 0 xs.length)], [some ⟨false, 0, 1, xs.map cB⟩]⟩)) ?_ ?_ () trivial
  · intro _ _
    rw [loopV_by B0_laws_toBoolS.eq_1]
    simp only [EG, EL, ↓reduceIte, Nat.reduceEqDiff, Nat.reduceAdd, Nat.reduceSub, Nat.reduceMul, Nat.reduceLeDiff, Nat.reduceLT, Int.reduceLT, Int.reduceLE, Int.reduceEq, Int.reduceToNat, reduceCtorEq, int_lt_irrefl, fillR_end]
  · rintro i h x rest _ rfl rfl _ ih
    have hi : (i : Int) < (xs.length : Int) := by omega
    skip
    have hf := fillR_set (c := cB) (z := [.bool false]) h rfl
    simp only [cB] at hf
    rw [loopV_by B0_laws_toBoolS.eq_1]
    simp (maxSteps := 10000000) (disch := first | assumption | omega) only [EG, EL, ↓reduceIte, Nat.reduceEqDiff, Nat.reduceAdd, Nat.reduceSub, Nat.reduceMul, Nat.reduceLeDiff, Nat.reduceLT, Int.reduceLT, Int.reduceLE, Int.reduceEq, Int.reduceToNat, reduceCtorEq, FB, FT, hi, h, wrap_succ, getRow _ _ h, fillR_get h, fillR_length (Nat.le_of_lt h), cx_laws_toBoolS]
    simp only [splice_eq, EG, EL, ↓reduceIte, Nat.reduceEqDiff, Nat.reduceAdd, Nat.reduceSub, Nat.reduceMul, Nat.reduceLeDiff, Nat.reduceLT, Int.reduceLT, Int.reduceLE, Int.reduceEq, Int.reduceToNat, reduceCtorEq, hf]
    exact ih () trivial
theorem sem_laws_toBoolS (xs : List Bool) (h : xs.length ≤ 1048576) : S_laws_toBoolS.sem [.tree 1 (xs.map cB)] = some (.tree 1 (xs.map cB), []) := by
  rw [sg_laws_toBoolS, sem_go]
  simp (maxSteps := 10000000) (disch := omega) only [F_laws_toBoolS, params, EG, EL, ↓reduceIte, Nat.reduceEqDiff, Nat.reduceAdd, Nat.reduceSub, Nat.reduceMul, Nat.reduceLeDiff, Nat.reduceLT, Int.reduceLT, Int.reduceLE, Int.reduceEq, Int.reduceToNat, reduceCtorEq, FB, FT, cx_laws_toBoolS, fillR_zero cB, loop_laws_toBoolS xs h]
  rw [if_pos (by omega)]
theorem sem_laws_toKernel (x : DKernel) (h : wtKernel x ≤ 1048576) : S_laws_toKernel.sem [.agg (cKernel x)] = some (.agg (cKernel x), []) := by
  unfold wtKernel at h
  rw [sg_laws_toKernel, sem_go]
  simp (maxSteps := 10000000) (disch := omega) only [F_laws_toKernel, params, EG, EL, ↓reduceIte, Nat.reduceEqDiff, Nat.reduceAdd, Nat.reduceSub, Nat.reduceMul, Nat.reduceLeDiff, Nat.reduceLT, Int.reduceLT, Int.reduceLE, Int.reduceEq, Int.reduceToNat, reduceCtorEq, FB, FT, cx_laws_toKernel, cl_laws_toGateS, sem_laws_toGateS, cl_laws_toIntS, sem_laws_toIntS, cl_laws_toCoreS, sem_laws_toCoreS, cl_laws_toBoolS, sem_laws_toBoolS]
theorem loop_laws_eqIntS (xs : List Int) (hl : xs.length ≤ 1073741824) :
    loopV X_laws_eqIntS 0 [0, 1, 5] [(1, []), (0, [4])] B0_laws_eqIntS ⟨[(0, .tree 1 (xs.map cI)), (1, .tree 1 (xs.map cI)), (5, .int .i64 0)], []⟩ = some (.exit 0, ⟨[], []⟩) := by
  refine loop_list xs (fun _ (_ : Unit) => True) (fun i _ => ⟨[(0, .tree 1 (xs.map cI)), (1, .tree 1 (xs.map cI)), (5, .int .i64 ((i : Nat) : Int))], []⟩) (fun _ _ => some (.exit 0, ⟨[], []⟩)) ?_ ?_ () trivial
  · intro _ _
    rw [loopV_by B0_laws_eqIntS.eq_1]
    simp only [EG, EL, ↓reduceIte, Nat.reduceEqDiff, Nat.reduceAdd, Nat.reduceSub, Nat.reduceMul, Nat.reduceLeDiff, Nat.reduceLT, Int.reduceLT, Int.reduceLE, Int.reduceEq, Int.reduceToNat, reduceCtorEq, int_lt_irrefl]
  · rintro i h x rest _ rfl rfl _ ih
    have hi : (i : Int) < (xs.length : Int) := by omega
    skip
    rw [loopV_by B0_laws_eqIntS.eq_1]
    simp (maxSteps := 10000000) (disch := first | assumption | omega) only [EG, EL, ↓reduceIte, Nat.reduceEqDiff, Nat.reduceAdd, Nat.reduceSub, Nat.reduceMul, Nat.reduceLeDiff, Nat.reduceLT, Int.reduceLT, Int.reduceLE, Int.reduceEq, Int.reduceToNat, reduceCtorEq, FB, FT, hi, wrap_succ, getRow _ _ h, cx_laws_eqIntS]
    exact ih () trivial
theorem sem_laws_eqIntS (xs : List Int) (h : xs.length ≤ 1073741824) : S_laws_eqIntS.sem [.tree 1 (xs.map cI), .tree 1 (xs.map cI)] = some (.bool true, []) := by
  rw [sg_laws_eqIntS, sem_go]
  simp (maxSteps := 10000000) (disch := omega) only [F_laws_eqIntS, params, EG, EL, ↓reduceIte, Nat.reduceEqDiff, Nat.reduceAdd, Nat.reduceSub, Nat.reduceMul, Nat.reduceLeDiff, Nat.reduceLT, Int.reduceLT, Int.reduceLE, Int.reduceEq, Int.reduceToNat, reduceCtorEq, FB, FT, cx_laws_eqIntS, loop_laws_eqIntS xs h]
theorem sem_laws_eqGate (x : DGate) (h : wtGate x ≤ 1073741824) : S_laws_eqGate.sem [.agg (cGate x), .agg (cGate x)] = some (.bool true, []) := by
  unfold wtGate at h
  rw [sg_laws_eqGate, sem_go]
  simp (maxSteps := 10000000) (disch := omega) only [F_laws_eqGate, params, EG, EL, ↓reduceIte, Nat.reduceEqDiff, Nat.reduceAdd, Nat.reduceSub, Nat.reduceMul, Nat.reduceLeDiff, Nat.reduceLT, Int.reduceLT, Int.reduceLE, Int.reduceEq, Int.reduceToNat, reduceCtorEq, FB, FT, cx_laws_eqGate, cl_laws_eqIntS, sem_laws_eqIntS]
theorem loop_laws_eqGateS (xs : List DGate) (hl : xs.length + tot wtGate xs ≤ 1073741824) :
    loopV X_laws_eqGateS 0 [0, 1, 5] [(1, []), (0, [4])] B0_laws_eqGateS ⟨[(0, .tree 3 (xs.map cGate)), (1, .tree 3 (xs.map cGate)), (5, .int .i64 0)], []⟩ = some (.exit 0, ⟨[], []⟩) := by
  refine loop_list xs (fun _ (_ : Unit) => True) (fun i _ => ⟨[(0, .tree 3 (xs.map cGate)), (1, .tree 3 (xs.map cGate)), (5, .int .i64 ((i : Nat) : Int))], []⟩) (fun _ _ => some (.exit 0, ⟨[], []⟩)) ?_ ?_ () trivial
  · intro _ _
    rw [loopV_by B0_laws_eqGateS.eq_1]
    simp only [EG, EL, ↓reduceIte, Nat.reduceEqDiff, Nat.reduceAdd, Nat.reduceSub, Nat.reduceMul, Nat.reduceLeDiff, Nat.reduceLT, Int.reduceLT, Int.reduceLE, Int.reduceEq, Int.reduceToNat, reduceCtorEq, int_lt_irrefl]
  · rintro i h x rest _ rfl rfl _ ih
    have hi : (i : Int) < (xs.length : Int) := by omega
    have hx : wtGate xs[i] ≤ 1073741824 := by have := le_tot wtGate (List.getElem_mem h); omega
    rw [loopV_by B0_laws_eqGateS.eq_1]
    simp (maxSteps := 10000000) (disch := first | assumption | omega) only [EG, EL, ↓reduceIte, Nat.reduceEqDiff, Nat.reduceAdd, Nat.reduceSub, Nat.reduceMul, Nat.reduceLeDiff, Nat.reduceLT, Int.reduceLT, Int.reduceLE, Int.reduceEq, Int.reduceToNat, reduceCtorEq, FB, FT, hi, wrap_succ, getRow _ _ h, cx_laws_eqGateS, cl_laws_eqGate, sem_laws_eqGate]
    exact ih () trivial
theorem sem_laws_eqGateS (xs : List DGate) (h : xs.length + tot wtGate xs ≤ 1073741824) : S_laws_eqGateS.sem [.tree 3 (xs.map cGate), .tree 3 (xs.map cGate)] = some (.bool true, []) := by
  rw [sg_laws_eqGateS, sem_go]
  simp (maxSteps := 10000000) (disch := omega) only [F_laws_eqGateS, params, EG, EL, ↓reduceIte, Nat.reduceEqDiff, Nat.reduceAdd, Nat.reduceSub, Nat.reduceMul, Nat.reduceLeDiff, Nat.reduceLT, Int.reduceLT, Int.reduceLE, Int.reduceEq, Int.reduceToNat, reduceCtorEq, FB, FT, cx_laws_eqGateS, cl_laws_eqGate, sem_laws_eqGate, loop_laws_eqGateS xs h]
theorem sem_laws_eqCore (x : DCore) (h : wtCore x ≤ 1073741824) : S_laws_eqCore.sem [.agg (cCore x), .agg (cCore x)] = some (.bool true, []) := by
  unfold wtCore at h
  rw [sg_laws_eqCore, sem_go]
  simp (maxSteps := 10000000) (disch := omega) only [F_laws_eqCore, params, EG, EL, ↓reduceIte, Nat.reduceEqDiff, Nat.reduceAdd, Nat.reduceSub, Nat.reduceMul, Nat.reduceLeDiff, Nat.reduceLT, Int.reduceLT, Int.reduceLE, Int.reduceEq, Int.reduceToNat, reduceCtorEq, FB, FT, cx_laws_eqCore, cl_laws_eqIntS, sem_laws_eqIntS]
theorem loop_laws_eqCoreS (xs : List DCore) (hl : xs.length + tot wtCore xs ≤ 1073741824) :
    loopV X_laws_eqCoreS 0 [0, 1, 5] [(1, []), (0, [4])] B0_laws_eqCoreS ⟨[(0, .tree 3 (xs.map cCore)), (1, .tree 3 (xs.map cCore)), (5, .int .i64 0)], []⟩ = some (.exit 0, ⟨[], []⟩) := by
  refine loop_list xs (fun _ (_ : Unit) => True) (fun i _ => ⟨[(0, .tree 3 (xs.map cCore)), (1, .tree 3 (xs.map cCore)), (5, .int .i64 ((i : Nat) : Int))], []⟩) (fun _ _ => some (.exit 0, ⟨[], []⟩)) ?_ ?_ () trivial
  · intro _ _
    rw [loopV_by B0_laws_eqCoreS.eq_1]
    simp only [EG, EL, ↓reduceIte, Nat.reduceEqDiff, Nat.reduceAdd, Nat.reduceSub, Nat.reduceMul, Nat.reduceLeDiff, Nat.reduceLT, Int.reduceLT, Int.reduceLE, Int.reduceEq, Int.reduceToNat, reduceCtorEq, int_lt_irrefl]
  · rintro i h x rest _ rfl rfl _ ih
    have hi : (i : Int) < (xs.length : Int) := by omega
    have hx : wtCore xs[i] ≤ 1073741824 := by have := le_tot wtCore (List.getElem_mem h); omega
    rw [loopV_by B0_laws_eqCoreS.eq_1]
    simp (maxSteps := 10000000) (disch := first | assumption | omega) only [EG, EL, ↓reduceIte, Nat.reduceEqDiff, Nat.reduceAdd, Nat.reduceSub, Nat.reduceMul, Nat.reduceLeDiff, Nat.reduceLT, Int.reduceLT, Int.reduceLE, Int.reduceEq, Int.reduceToNat, reduceCtorEq, FB, FT, hi, wrap_succ, getRow _ _ h, cx_laws_eqCoreS, cl_laws_eqCore, sem_laws_eqCore]
    exact ih () trivial
theorem sem_laws_eqCoreS (xs : List DCore) (h : xs.length + tot wtCore xs ≤ 1073741824) : S_laws_eqCoreS.sem [.tree 3 (xs.map cCore), .tree 3 (xs.map cCore)] = some (.bool true, []) := by
  rw [sg_laws_eqCoreS, sem_go]
  simp (maxSteps := 10000000) (disch := omega) only [F_laws_eqCoreS, params, EG, EL, ↓reduceIte, Nat.reduceEqDiff, Nat.reduceAdd, Nat.reduceSub, Nat.reduceMul, Nat.reduceLeDiff, Nat.reduceLT, Int.reduceLT, Int.reduceLE, Int.reduceEq, Int.reduceToNat, reduceCtorEq, FB, FT, cx_laws_eqCoreS, cl_laws_eqCore, sem_laws_eqCore, loop_laws_eqCoreS xs h]
theorem loop_laws_eqBoolS (xs : List Bool) (hl : xs.length ≤ 1073741824) :
    loopV X_laws_eqBoolS 0 [0, 1, 5] [(1, []), (0, [4])] B0_laws_eqBoolS ⟨[(0, .tree 1 (xs.map cB)), (1, .tree 1 (xs.map cB)), (5, .int .i64 0)], []⟩ = some (.exit 0, ⟨[], []⟩) := by
  refine loop_list xs (fun _ (_ : Unit) => True) (fun i _ => ⟨[(0, .tree 1 (xs.map cB)), (1, .tree 1 (xs.map cB)), (5, .int .i64 ((i : Nat) : Int))], []⟩) (fun _ _ => some (.exit 0, ⟨[], []⟩)) ?_ ?_ () trivial
  · intro _ _
    rw [loopV_by B0_laws_eqBoolS.eq_1]
    simp only [EG, EL, ↓reduceIte, Nat.reduceEqDiff, Nat.reduceAdd, Nat.reduceSub, Nat.reduceMul, Nat.reduceLeDiff, Nat.reduceLT, Int.reduceLT, Int.reduceLE, Int.reduceEq, Int.reduceToNat, reduceCtorEq, int_lt_irrefl]
  · rintro i h x rest _ rfl rfl _ ih
    have hi : (i : Int) < (xs.length : Int) := by omega
    skip
    rw [loopV_by B0_laws_eqBoolS.eq_1]
    simp (maxSteps := 10000000) (disch := first | assumption | omega) only [EG, EL, ↓reduceIte, Nat.reduceEqDiff, Nat.reduceAdd, Nat.reduceSub, Nat.reduceMul, Nat.reduceLeDiff, Nat.reduceLT, Int.reduceLT, Int.reduceLE, Int.reduceEq, Int.reduceToNat, reduceCtorEq, FB, FT, hi, wrap_succ, getRow _ _ h, cx_laws_eqBoolS]
    exact ih () trivial
theorem sem_laws_eqBoolS (xs : List Bool) (h : xs.length ≤ 1073741824) : S_laws_eqBoolS.sem [.tree 1 (xs.map cB), .tree 1 (xs.map cB)] = some (.bool true, []) := by
  rw [sg_laws_eqBoolS, sem_go]
  simp (maxSteps := 10000000) (disch := omega) only [F_laws_eqBoolS, params, EG, EL, ↓reduceIte, Nat.reduceEqDiff, Nat.reduceAdd, Nat.reduceSub, Nat.reduceMul, Nat.reduceLeDiff, Nat.reduceLT, Int.reduceLT, Int.reduceLE, Int.reduceEq, Int.reduceToNat, reduceCtorEq, FB, FT, cx_laws_eqBoolS, loop_laws_eqBoolS xs h]
theorem sem_laws_eqKernel (x : DKernel) (h : wtKernel x ≤ 1073741824) : S_laws_eqKernel.sem [.agg (cKernel x), .agg (cKernel x)] = some (.bool true, []) := by
  unfold wtKernel at h
  rw [sg_laws_eqKernel, sem_go]
  simp (maxSteps := 10000000) (disch := omega) only [F_laws_eqKernel, params, EG, EL, ↓reduceIte, Nat.reduceEqDiff, Nat.reduceAdd, Nat.reduceSub, Nat.reduceMul, Nat.reduceLeDiff, Nat.reduceLT, Int.reduceLT, Int.reduceLE, Int.reduceEq, Int.reduceToNat, reduceCtorEq, FB, FT, cx_laws_eqKernel, cl_laws_eqGateS, sem_laws_eqGateS, cl_laws_eqIntS, sem_laws_eqIntS, cl_laws_eqCoreS, sem_laws_eqCoreS, cl_laws_eqBoolS, sem_laws_eqBoolS]
theorem sem_laws_markIntS (xs : List Int) (k : Int) (h1 : 1 ≤ k) (h2 : k + (tot ct1 xs : Nat) ≤ 4611686018427387000) : S_laws_markIntS.sem [.tree 1 (xs.map cI), .int .i64 k] = some (.int .i64 (k + (tot ct1 xs : Nat)), (mkL mkI ct1 xs k).map cI) := by
  have hlen : xs.length ≤ tot ct1 xs := len_ct1
  have loop : loopV X_laws_markIntS 1 [0, 1, 5] [(1, [1])] B0_laws_markIntS ⟨[(0, .sl ⟨0, none, 0⟩ 1 0 xs.length), (1, .int .i64 k), (5, .int .i64 0)], [some ⟨false, 0, 1, xs.map cI⟩]⟩ = some (.exit 0, ⟨[(1, .int .i64 (k + (tot ct1 xs : Nat)))], [some ⟨false, 0, 1, (mkL mkI ct1 xs k).map cI⟩]⟩) := by
    refine loop_list xs (fun i (a : List Int × Int) => a.1.length = i ∧ 1 ≤ a.2 ∧ a.2 + (tot ct1 (xs.drop i) : Nat) ≤ 4611686018427387000) (fun i a => ⟨[(0, .sl ⟨0, none, 0⟩ 1 0 xs.length), (1, .int .i64 a.2), (5, .int .i64 ((i : Nat) : Int))], [some ⟨false, 0, 1, (a.1 ++ xs.drop i).map cI⟩]⟩) (fun rest a => some (.exit 0, ⟨[(1, .int .i64 (a.2 + (tot ct1 rest : Nat)))], [some ⟨false, 0, 1, (a.1 ++ mkL mkI ct1 rest a.2).map cI⟩]⟩)) ?_ ?_ ([], k) ⟨rfl, h1, h2⟩
    · rintro a ⟨hy, a1, a2⟩
      rw [loopV_by B0_laws_markIntS.eq_1]
      simp only [EG, EL, ↓reduceIte, Nat.reduceEqDiff, Nat.reduceAdd, Nat.reduceSub, Nat.reduceMul, Nat.reduceLeDiff, Nat.reduceLT, Int.reduceLT, Int.reduceLE, Int.reduceEq, Int.reduceToNat, reduceCtorEq, int_lt_irrefl, List.drop_length, tot, mkL, Int.natCast_zero, Int.add_zero]
    · rintro i h x rest a rfl rfl ⟨hy, a1, a2⟩ ih
      have hi : (i : Int) < (xs.length : Int) := by omega
      have hd : xs.drop i = xs[i] :: xs.drop (i + 1) := List.drop_eq_getElem_cons h
      have ht : tot ct1 (xs.drop i) = ct1 xs[i] + tot ct1 (xs.drop (i + 1)) := by rw [hd]; rfl
      have hc : ct1 xs[i] = 1 := rfl
      have hlm : i < ((a.1 ++ xs.drop i).map cI).length := by rw [mid_len hy h]; exact h
      have hll : i < a.1.length + (xs.drop i).length := by rw [List.length_drop]; omega
      have hg := mid_get (c := cI) hy h
      have hf := mid_set (c := cI) hy h (x := a.2) rfl
      have hk : (a.2 + 1) = a.2 + ((ct1 xs[i] : Nat) : Int) := by rw [hc]; omega
      simp only [cI] at hf
      rw [loopV_by B0_laws_markIntS.eq_1]
      simp (maxSteps := 10000000) (disch := first | assumption | omega) only [EG, EL, ↓reduceIte, Nat.reduceEqDiff, Nat.reduceAdd, Nat.reduceSub, Nat.reduceMul, Nat.reduceLeDiff, Nat.reduceLT, Int.reduceLT, Int.reduceLE, Int.reduceEq, Int.reduceToNat, reduceCtorEq, FB, FT, hi, h, hg, hlm, hll, cx_laws_markIntS, wrapI, splice_eq, set_getD, set_set, hf]
      rw [show ((i : Nat) : Int) + 1 = ((i + 1 : Nat) : Int) by omega]
      have hih := ih (a.1 ++ [a.2], (a.2 + 1)) ⟨by simp [hy], by show 1 ≤ (a.2 + 1); omega, by show (a.2 + 1) + _ ≤ _; omega⟩
      simp only [eq_self] at hih
      rw [hih]
      simp only [hk, tot, mkL, List.append_assoc, List.singleton_append]
      rw [show a.2 + ((ct1 xs[i] : Nat) : Int) + ((tot ct1 (xs.drop (i + 1)) : Nat) : Int) = a.2 + ((ct1 xs[i] + tot ct1 (xs.drop (i + 1)) : Nat) : Int) by omega]
      try rfl
  rw [sg_laws_markIntS, sem_goM]
  simp (maxSteps := 10000000) (disch := first | assumption | omega) only [F_laws_markIntS, params, EG, EL, ↓reduceIte, Nat.reduceEqDiff, Nat.reduceAdd, Nat.reduceSub, Nat.reduceMul, Nat.reduceLeDiff, Nat.reduceLT, Int.reduceLT, Int.reduceLE, Int.reduceEq, Int.reduceToNat, reduceCtorEq, FB, FT, cx_laws_markIntS, loop]
theorem sem_laws_markGateS (xs : List DGate) (k : Int) (h1 : 1 ≤ k) (h2 : k + (tot ctGate xs : Nat) ≤ 4611686018427387000) : S_laws_markGateS.sem [.tree 3 (xs.map cGate), .int .i64 k] = some (.int .i64 (k + (tot ctGate xs : Nat)), (mkL mkGate ctGate xs k).map cGate) := by
  have hlen : xs.length ≤ tot ctGate xs := len_tot fun x => by unfold ctGate; omega
  have loop : loopV X_laws_markGateS 1 [0, 1, 5] [(1, [1])] B0_laws_markGateS ⟨[(0, .sl ⟨0, none, 0⟩ 3 0 xs.length), (1, .int .i64 k), (5, .int .i64 0)], [some ⟨false, 0, 3, xs.map cGate⟩]⟩ = some (.exit 0, ⟨[(1, .int .i64 (k + (tot ctGate xs : Nat)))], [some ⟨false, 0, 3, (mkL mkGate ctGate xs k).map cGate⟩]⟩) := by
    refine loop_list xs (fun i (a : List DGate × Int) => a.1.length = i ∧ 1 ≤ a.2 ∧ a.2 + (tot ctGate (xs.drop i) : Nat) ≤ 4611686018427387000) (fun i a => ⟨[(0, .sl ⟨0, none, 0⟩ 3 0 xs.length), (1, .int .i64 a.2), (5, .int .i64 ((i : Nat) : Int))], [some ⟨false, 0, 3, (a.1 ++ xs.drop i).map cGate⟩]⟩) (fun rest a => some (.exit 0, ⟨[(1, .int .i64 (a.2 + (tot ctGate rest : Nat)))], [some ⟨false, 0, 3, (a.1 ++ mkL mkGate ctGate rest a.2).map cGate⟩]⟩)) ?_ ?_ ([], k) ⟨rfl, h1, h2⟩
    · rintro a ⟨hy, a1, a2⟩
      rw [loopV_by B0_laws_markGateS.eq_1]
      simp only [EG, EL, ↓reduceIte, Nat.reduceEqDiff, Nat.reduceAdd, Nat.reduceSub, Nat.reduceMul, Nat.reduceLeDiff, Nat.reduceLT, Int.reduceLT, Int.reduceLE, Int.reduceEq, Int.reduceToNat, reduceCtorEq, int_lt_irrefl, List.drop_length, tot, mkL, Int.natCast_zero, Int.add_zero]
    · rintro i h x rest a rfl rfl ⟨hy, a1, a2⟩ ih
      have hi : (i : Int) < (xs.length : Int) := by omega
      have hd : xs.drop i = xs[i] :: xs.drop (i + 1) := List.drop_eq_getElem_cons h
      have ht : tot ctGate (xs.drop i) = ctGate xs[i] + tot ctGate (xs.drop (i + 1)) := by rw [hd]; rfl
      have hc : ctGate xs[i] = 1 + tot ct1 xs[i].Waits + tot ct1 xs[i].Queues := rfl
      have hlm : i < ((a.1 ++ xs.drop i).map cGate).length := by rw [mid_len hy h]; exact h
      have hll : i < a.1.length + (xs.drop i).length := by rw [List.length_drop]; omega
      have hg := mid_get (c := cGate) hy h
      have hf := mid_set (c := cGate) hy h (x := (mkGate xs[i] a.2)) rfl
      have hk : (((a.2 + 1) + (tot ct1 xs[i].Waits : Nat)) + (tot ct1 xs[i].Queues : Nat)) = a.2 + ((ctGate xs[i] : Nat) : Int) := by rw [hc]; omega
      simp only [cGate, mkGate] at hf
      rw [loopV_by B0_laws_markGateS.eq_1]
      simp (maxSteps := 10000000) (disch := first | assumption | omega) only [EG, EL, ↓reduceIte, Nat.reduceEqDiff, Nat.reduceAdd, Nat.reduceSub, Nat.reduceMul, Nat.reduceLeDiff, Nat.reduceLT, Int.reduceLT, Int.reduceLE, Int.reduceEq, Int.reduceToNat, reduceCtorEq, FB, FT, hi, h, hg, hlm, hll, cx_laws_markGateS, cl_laws_markIntS, sem_laws_markIntS, wrapI, splice_eq, set_getD, set_set, hf]
      rw [show ((i : Nat) : Int) + 1 = ((i + 1 : Nat) : Int) by omega]
      have hih := ih (a.1 ++ [(mkGate xs[i] a.2)], (((a.2 + 1) + (tot ct1 xs[i].Waits : Nat)) + (tot ct1 xs[i].Queues : Nat))) ⟨by simp [hy], by show 1 ≤ (((a.2 + 1) + (tot ct1 xs[i].Waits : Nat)) + (tot ct1 xs[i].Queues : Nat)); omega, by show (((a.2 + 1) + (tot ct1 xs[i].Waits : Nat)) + (tot ct1 xs[i].Queues : Nat)) + _ ≤ _; omega⟩
      simp only [mkGate] at hih
      rw [hih]
      simp only [hk, tot, mkL, List.append_assoc, List.singleton_append]
      rw [show a.2 + ((ctGate xs[i] : Nat) : Int) + ((tot ctGate (xs.drop (i + 1)) : Nat) : Int) = a.2 + ((ctGate xs[i] + tot ctGate (xs.drop (i + 1)) : Nat) : Int) by omega]
      try rfl
  rw [sg_laws_markGateS, sem_goM]
  simp (maxSteps := 10000000) (disch := first | assumption | omega) only [F_laws_markGateS, params, EG, EL, ↓reduceIte, Nat.reduceEqDiff, Nat.reduceAdd, Nat.reduceSub, Nat.reduceMul, Nat.reduceLeDiff, Nat.reduceLT, Int.reduceLT, Int.reduceLE, Int.reduceEq, Int.reduceToNat, reduceCtorEq, FB, FT, cx_laws_markGateS, cl_laws_markIntS, sem_laws_markIntS, loop]
theorem sem_laws_markCoreS (xs : List DCore) (k : Int) (h1 : 1 ≤ k) (h2 : k + (tot ctCore xs : Nat) ≤ 4611686018427387000) : S_laws_markCoreS.sem [.tree 3 (xs.map cCore), .int .i64 k] = some (.int .i64 (k + (tot ctCore xs : Nat)), (mkL mkCore ctCore xs k).map cCore) := by
  have hlen : xs.length ≤ tot ctCore xs := len_tot fun x => by unfold ctCore; omega
  have loop : loopV X_laws_markCoreS 1 [0, 1, 5] [(1, [1])] B0_laws_markCoreS ⟨[(0, .sl ⟨0, none, 0⟩ 3 0 xs.length), (1, .int .i64 k), (5, .int .i64 0)], [some ⟨false, 0, 3, xs.map cCore⟩]⟩ = some (.exit 0, ⟨[(1, .int .i64 (k + (tot ctCore xs : Nat)))], [some ⟨false, 0, 3, (mkL mkCore ctCore xs k).map cCore⟩]⟩) := by
    refine loop_list xs (fun i (a : List DCore × Int) => a.1.length = i ∧ 1 ≤ a.2 ∧ a.2 + (tot ctCore (xs.drop i) : Nat) ≤ 4611686018427387000) (fun i a => ⟨[(0, .sl ⟨0, none, 0⟩ 3 0 xs.length), (1, .int .i64 a.2), (5, .int .i64 ((i : Nat) : Int))], [some ⟨false, 0, 3, (a.1 ++ xs.drop i).map cCore⟩]⟩) (fun rest a => some (.exit 0, ⟨[(1, .int .i64 (a.2 + (tot ctCore rest : Nat)))], [some ⟨false, 0, 3, (a.1 ++ mkL mkCore ctCore rest a.2).map cCore⟩]⟩)) ?_ ?_ ([], k) ⟨rfl, h1, h2⟩
    · rintro a ⟨hy, a1, a2⟩
      rw [loopV_by B0_laws_markCoreS.eq_1]
      simp only [EG, EL, ↓reduceIte, Nat.reduceEqDiff, Nat.reduceAdd, Nat.reduceSub, Nat.reduceMul, Nat.reduceLeDiff, Nat.reduceLT, Int.reduceLT, Int.reduceLE, Int.reduceEq, Int.reduceToNat, reduceCtorEq, int_lt_irrefl, List.drop_length, tot, mkL, Int.natCast_zero, Int.add_zero]
    · rintro i h x rest a rfl rfl ⟨hy, a1, a2⟩ ih
      have hi : (i : Int) < (xs.length : Int) := by omega
      have hd : xs.drop i = xs[i] :: xs.drop (i + 1) := List.drop_eq_getElem_cons h
      have ht : tot ctCore (xs.drop i) = ctCore xs[i] + tot ctCore (xs.drop (i + 1)) := by rw [hd]; rfl
      have hc : ctCore xs[i] = tot ct1 xs[i].Regs + 1 + 1 := rfl
      have hlm : i < ((a.1 ++ xs.drop i).map cCore).length := by rw [mid_len hy h]; exact h
      have hll : i < a.1.length + (xs.drop i).length := by rw [List.length_drop]; omega
      have hg := mid_get (c := cCore) hy h
      have hf := mid_set (c := cCore) hy h (x := (mkCore xs[i] a.2)) rfl
      have hk : (((a.2 + (tot ct1 xs[i].Regs : Nat)) + 1) + 1) = a.2 + ((ctCore xs[i] : Nat) : Int) := by rw [hc]; omega
      simp only [cCore, mkCore] at hf
      rw [loopV_by B0_laws_markCoreS.eq_1]
      simp (maxSteps := 10000000) (disch := first | assumption | omega) only [EG, EL, ↓reduceIte, Nat.reduceEqDiff, Nat.reduceAdd, Nat.reduceSub, Nat.reduceMul, Nat.reduceLeDiff, Nat.reduceLT, Int.reduceLT, Int.reduceLE, Int.reduceEq, Int.reduceToNat, reduceCtorEq, FB, FT, hi, h, hg, hlm, hll, cx_laws_markCoreS, cl_laws_markIntS, sem_laws_markIntS, wrapI, splice_eq, set_getD, set_set, hf]
      rw [show ((i : Nat) : Int) + 1 = ((i + 1 : Nat) : Int) by omega]
      have hih := ih (a.1 ++ [(mkCore xs[i] a.2)], (((a.2 + (tot ct1 xs[i].Regs : Nat)) + 1) + 1)) ⟨by simp [hy], by show 1 ≤ (((a.2 + (tot ct1 xs[i].Regs : Nat)) + 1) + 1); omega, by show (((a.2 + (tot ct1 xs[i].Regs : Nat)) + 1) + 1) + _ ≤ _; omega⟩
      simp only [mkCore] at hih
      rw [hih]
      simp only [hk, tot, mkL, List.append_assoc, List.singleton_append]
      rw [show a.2 + ((ctCore xs[i] : Nat) : Int) + ((tot ctCore (xs.drop (i + 1)) : Nat) : Int) = a.2 + ((ctCore xs[i] + tot ctCore (xs.drop (i + 1)) : Nat) : Int) by omega]
      try rfl
  rw [sg_laws_markCoreS, sem_goM]
  simp (maxSteps := 10000000) (disch := first | assumption | omega) only [F_laws_markCoreS, params, EG, EL, ↓reduceIte, Nat.reduceEqDiff, Nat.reduceAdd, Nat.reduceSub, Nat.reduceMul, Nat.reduceLeDiff, Nat.reduceLT, Int.reduceLT, Int.reduceLE, Int.reduceEq, Int.reduceToNat, reduceCtorEq, FB, FT, cx_laws_markCoreS, cl_laws_markIntS, sem_laws_markIntS, loop]
theorem sem_laws_markBoolS (xs : List Bool) (k : Int) (h1 : 1 ≤ k) (h2 : k + (tot ct1 xs : Nat) ≤ 4611686018427387000) : S_laws_markBoolS.sem [.tree 1 (xs.map cB), .int .i64 k] = some (.int .i64 (k + (tot ct1 xs : Nat)), (mkL mkB ct1 xs k).map cB) := by
  have hlen : xs.length ≤ tot ct1 xs := len_ct1
  have loop : loopV X_laws_markBoolS 1 [0, 1, 5] [(1, [1])] B0_laws_markBoolS ⟨[(0, .sl ⟨0, none, 0⟩ 1 0 xs.length), (1, .int .i64 k), (5, .int .i64 0)], [some ⟨false, 0, 1, xs.map cB⟩]⟩ = some (.exit 0, ⟨[(1, .int .i64 (k + (tot ct1 xs : Nat)))], [some ⟨false, 0, 1, (mkL mkB ct1 xs k).map cB⟩]⟩) := by
    refine loop_list xs (fun i (a : List Bool × Int) => a.1.length = i ∧ 1 ≤ a.2 ∧ a.2 + (tot ct1 (xs.drop i) : Nat) ≤ 4611686018427387000) (fun i a => ⟨[(0, .sl ⟨0, none, 0⟩ 1 0 xs.length), (1, .int .i64 a.2), (5, .int .i64 ((i : Nat) : Int))], [some ⟨false, 0, 1, (a.1 ++ xs.drop i).map cB⟩]⟩) (fun rest a => some (.exit 0, ⟨[(1, .int .i64 (a.2 + (tot ct1 rest : Nat)))], [some ⟨false, 0, 1, (a.1 ++ mkL mkB ct1 rest a.2).map cB⟩]⟩)) ?_ ?_ ([], k) ⟨rfl, h1, h2⟩
    · rintro a ⟨hy, a1, a2⟩
      rw [loopV_by B0_laws_markBoolS.eq_1]
      simp only [EG, EL, ↓reduceIte, Nat.reduceEqDiff, Nat.reduceAdd, Nat.reduceSub, Nat.reduceMul, Nat.reduceLeDiff, Nat.reduceLT, Int.reduceLT, Int.reduceLE, Int.reduceEq, Int.reduceToNat, reduceCtorEq, int_lt_irrefl, List.drop_length, tot, mkL, Int.natCast_zero, Int.add_zero]
    · rintro i h x rest a rfl rfl ⟨hy, a1, a2⟩ ih
      have hi : (i : Int) < (xs.length : Int) := by omega
      have hd : xs.drop i = xs[i] :: xs.drop (i + 1) := List.drop_eq_getElem_cons h
      have ht : tot ct1 (xs.drop i) = ct1 xs[i] + tot ct1 (xs.drop (i + 1)) := by rw [hd]; rfl
      have hc : ct1 xs[i] = 1 := rfl
      have hlm : i < ((a.1 ++ xs.drop i).map cB).length := by rw [mid_len hy h]; exact h
      have hll : i < a.1.length + (xs.drop i).length := by rw [List.length_drop]; omega
      have hg := mid_get (c := cB) hy h
      have hf := mid_set (c := cB) hy h (x := (decide (Int.tmod a.2 3 = 0))) rfl
      have hk : (a.2 + 1) = a.2 + ((ct1 xs[i] : Nat) : Int) := by rw [hc]; omega
      simp only [cB] at hf
      rw [loopV_by B0_laws_markBoolS.eq_1]
      simp (maxSteps := 10000000) (disch := first | assumption | omega) only [EG, EL, ↓reduceIte, Nat.reduceEqDiff, Nat.reduceAdd, Nat.reduceSub, Nat.reduceMul, Nat.reduceLeDiff, Nat.reduceLT, Int.reduceLT, Int.reduceLE, Int.reduceEq, Int.reduceToNat, reduceCtorEq, FB, FT, hi, h, hg, hlm, hll, cx_laws_markBoolS, wrapI, splice_eq, set_getD, set_set, hf]
      rw [show ((i : Nat) : Int) + 1 = ((i + 1 : Nat) : Int) by omega]
      have hih := ih (a.1 ++ [(decide (Int.tmod a.2 3 = 0))], (a.2 + 1)) ⟨by simp [hy], by show 1 ≤ (a.2 + 1); omega, by show (a.2 + 1) + _ ≤ _; omega⟩
      simp only [eq_self] at hih
      rw [hih]
      simp only [hk, tot, mkL, List.append_assoc, List.singleton_append]
      rw [show a.2 + ((ct1 xs[i] : Nat) : Int) + ((tot ct1 (xs.drop (i + 1)) : Nat) : Int) = a.2 + ((ct1 xs[i] + tot ct1 (xs.drop (i + 1)) : Nat) : Int) by omega]
      try rfl
  rw [sg_laws_markBoolS, sem_goM]
  simp (maxSteps := 10000000) (disch := first | assumption | omega) only [F_laws_markBoolS, params, EG, EL, ↓reduceIte, Nat.reduceEqDiff, Nat.reduceAdd, Nat.reduceSub, Nat.reduceMul, Nat.reduceLeDiff, Nat.reduceLT, Int.reduceLT, Int.reduceLE, Int.reduceEq, Int.reduceToNat, reduceCtorEq, FB, FT, cx_laws_markBoolS, loop]
theorem sem_laws_heldIntS (xs : List Int) (k : Int) (h1 : 1 ≤ k) (h2 : k + (tot ct1 xs : Nat) ≤ 4611686018427387000) : S_laws_heldIntS.sem [.tree 1 ((mkL mkI ct1 xs k).map cI), .int .i64 k] = some (.int .i64 (k + (tot ct1 xs : Nat)), []) := by
  have hlen : xs.length ≤ tot ct1 xs := len_ct1
  have hML : (mkL mkI ct1 xs k).length = xs.length := mkL_length
  have loop : loopV X_laws_heldIntS 0 [0, 1, 5] [(1, [1]), (0, [4])] B0_laws_heldIntS ⟨[(0, .tree 1 ((mkL mkI ct1 xs k).map cI)), (1, .int .i64 k), (5, .int .i64 0)], []⟩ = some (Ex.exit 0, (⟨[(1, .int .i64 (k + (tot ct1 xs : Nat)))], []⟩ : St)) := by
    refine loop_list xs (fun i (m : Int) => m = k + (tot ct1 (xs.take i) : Nat)) (fun i m => ⟨[(0, .tree 1 ((mkL mkI ct1 xs k).map cI)), (1, .int .i64 m), (5, .int .i64 ((i : Nat) : Int))], []⟩) (fun rest a => some (Ex.exit 0, (⟨[(1, .int .i64 (k + (tot ct1 xs : Nat)))], []⟩ : St))) ?_ ?_ k (by simp [tot])
    · rintro m rfl
      rw [loopV_by B0_laws_heldIntS.eq_1]
      simp only [EG, EL, ↓reduceIte, Nat.reduceEqDiff, Nat.reduceAdd, Nat.reduceSub, Nat.reduceMul, Nat.reduceLeDiff, Nat.reduceLT, Int.reduceLT, Int.reduceLE, Int.reduceEq, Int.reduceToNat, reduceCtorEq, int_lt_irrefl, hML, tot_take_end]
    · rintro i h x rest m rfl rfl hm ih
      have hi : (i : Int) < (xs.length : Int) := by omega
      have ht := tot_take_le (f := ct1) h
      have hs := tot_take1 (f := ct1) h
      have hc : ct1 xs[i] = 1 := rfl
      have hg : ((mkL mkI ct1 xs k).map cI).getD i [] = cI (mkI xs[i] m) := by
        have h' : i < (mkL mkI ct1 xs k).length := by omega
        rw [getRow _ _ h', mkL_get h, hm]
      simp only [cI, mkI] at hg
      rw [loopV_by B0_laws_heldIntS.eq_1]
      simp (maxSteps := 10000000) (disch := first | assumption | omega) only [EG, EL, ↓reduceIte, Nat.reduceEqDiff, Nat.reduceAdd, Nat.reduceSub, Nat.reduceMul, Nat.reduceLeDiff, Nat.reduceLT, Int.reduceLT, Int.reduceLE, Int.reduceEq, Int.reduceToNat, reduceCtorEq, FB, FT, hi, hML, hg, cx_laws_heldIntS, wrapI]
      repeat rw [if_neg (by omega)]
      rw [show ((i : Nat) : Int) + 1 = ((i + 1 : Nat) : Int) by omega]
      exact ih _ (by omega)
  rw [sg_laws_heldIntS, sem_go]
  simp (maxSteps := 10000000) (disch := first | assumption | omega) only [F_laws_heldIntS, params, EG, EL, ↓reduceIte, Nat.reduceEqDiff, Nat.reduceAdd, Nat.reduceSub, Nat.reduceMul, Nat.reduceLeDiff, Nat.reduceLT, Int.reduceLT, Int.reduceLE, Int.reduceEq, Int.reduceToNat, reduceCtorEq, FB, FT, cx_laws_heldIntS, loop]
theorem sem_laws_heldGateS (xs : List DGate) (k : Int) (h1 : 1 ≤ k) (h2 : k + (tot ctGate xs : Nat) ≤ 4611686018427387000) : S_laws_heldGateS.sem [.tree 3 ((mkL mkGate ctGate xs k).map cGate), .int .i64 k] = some (.int .i64 (k + (tot ctGate xs : Nat)), []) := by
  have hlen : xs.length ≤ tot ctGate xs := len_tot fun x => by unfold ctGate; omega
  have hML : (mkL mkGate ctGate xs k).length = xs.length := mkL_length
  have loop : loopV X_laws_heldGateS 0 [0, 1, 5] [(1, [1]), (0, [4])] B0_laws_heldGateS ⟨[(0, .tree 3 ((mkL mkGate ctGate xs k).map cGate)), (1, .int .i64 k), (5, .int .i64 0)], []⟩ = some (Ex.exit 0, (⟨[(1, .int .i64 (k + (tot ctGate xs : Nat)))], []⟩ : St)) := by
    refine loop_list xs (fun i (m : Int) => m = k + (tot ctGate (xs.take i) : Nat)) (fun i m => ⟨[(0, .tree 3 ((mkL mkGate ctGate xs k).map cGate)), (1, .int .i64 m), (5, .int .i64 ((i : Nat) : Int))], []⟩) (fun rest a => some (Ex.exit 0, (⟨[(1, .int .i64 (k + (tot ctGate xs : Nat)))], []⟩ : St))) ?_ ?_ k (by simp [tot])
    · rintro m rfl
      rw [loopV_by B0_laws_heldGateS.eq_1]
      simp only [EG, EL, ↓reduceIte, Nat.reduceEqDiff, Nat.reduceAdd, Nat.reduceSub, Nat.reduceMul, Nat.reduceLeDiff, Nat.reduceLT, Int.reduceLT, Int.reduceLE, Int.reduceEq, Int.reduceToNat, reduceCtorEq, int_lt_irrefl, hML, tot_take_end]
    · rintro i h x rest m rfl rfl hm ih
      have hi : (i : Int) < (xs.length : Int) := by omega
      have ht := tot_take_le (f := ctGate) h
      have hs := tot_take1 (f := ctGate) h
      have hc : ctGate xs[i] = 1 + tot ct1 xs[i].Waits + tot ct1 xs[i].Queues := rfl
      have hg : ((mkL mkGate ctGate xs k).map cGate).getD i [] = cGate (mkGate xs[i] m) := by
        have h' : i < (mkL mkGate ctGate xs k).length := by omega
        rw [getRow _ _ h', mkL_get h, hm]
      simp only [cGate, mkGate] at hg
      rw [loopV_by B0_laws_heldGateS.eq_1]
      simp (maxSteps := 10000000) (disch := first | assumption | omega) only [EG, EL, ↓reduceIte, Nat.reduceEqDiff, Nat.reduceAdd, Nat.reduceSub, Nat.reduceMul, Nat.reduceLeDiff, Nat.reduceLT, Int.reduceLT, Int.reduceLE, Int.reduceEq, Int.reduceToNat, reduceCtorEq, FB, FT, hi, hML, hg, cx_laws_heldGateS, cl_laws_heldIntS, sem_laws_heldIntS, wrapI]
      repeat rw [if_neg (by omega)]
      rw [show ((i : Nat) : Int) + 1 = ((i + 1 : Nat) : Int) by omega]
      exact ih _ (by omega)
  rw [sg_laws_heldGateS, sem_go]
  simp (maxSteps := 10000000) (disch := first | assumption | omega) only [F_laws_heldGateS, params, EG, EL, ↓reduceIte, Nat.reduceEqDiff, Nat.reduceAdd, Nat.reduceSub, Nat.reduceMul, Nat.reduceLeDiff, Nat.reduceLT, Int.reduceLT, Int.reduceLE, Int.reduceEq, Int.reduceToNat, reduceCtorEq, FB, FT, cx_laws_heldGateS, cl_laws_heldIntS, sem_laws_heldIntS, loop]
theorem sem_laws_heldCoreS (xs : List DCore) (k : Int) (h1 : 1 ≤ k) (h2 : k + (tot ctCore xs : Nat) ≤ 4611686018427387000) : S_laws_heldCoreS.sem [.tree 3 ((mkL mkCore ctCore xs k).map cCore), .int .i64 k] = some (.int .i64 (k + (tot ctCore xs : Nat)), []) := by
  have hlen : xs.length ≤ tot ctCore xs := len_tot fun x => by unfold ctCore; omega
  have hML : (mkL mkCore ctCore xs k).length = xs.length := mkL_length
  have loop : loopV X_laws_heldCoreS 0 [0, 1, 5] [(1, [1]), (0, [4])] B0_laws_heldCoreS ⟨[(0, .tree 3 ((mkL mkCore ctCore xs k).map cCore)), (1, .int .i64 k), (5, .int .i64 0)], []⟩ = some (Ex.exit 0, (⟨[(1, .int .i64 (k + (tot ctCore xs : Nat)))], []⟩ : St)) := by
    refine loop_list xs (fun i (m : Int) => m = k + (tot ctCore (xs.take i) : Nat)) (fun i m => ⟨[(0, .tree 3 ((mkL mkCore ctCore xs k).map cCore)), (1, .int .i64 m), (5, .int .i64 ((i : Nat) : Int))], []⟩) (fun rest a => some (Ex.exit 0, (⟨[(1, .int .i64 (k + (tot ctCore xs : Nat)))], []⟩ : St))) ?_ ?_ k (by simp [tot])
    · rintro m rfl
      rw [loopV_by B0_laws_heldCoreS.eq_1]
      simp only [EG, EL, ↓reduceIte, Nat.reduceEqDiff, Nat.reduceAdd, Nat.reduceSub, Nat.reduceMul, Nat.reduceLeDiff, Nat.reduceLT, Int.reduceLT, Int.reduceLE, Int.reduceEq, Int.reduceToNat, reduceCtorEq, int_lt_irrefl, hML, tot_take_end]
    · rintro i h x rest m rfl rfl hm ih
      have hi : (i : Int) < (xs.length : Int) := by omega
      have ht := tot_take_le (f := ctCore) h
      have hs := tot_take1 (f := ctCore) h
      have hc : ctCore xs[i] = tot ct1 xs[i].Regs + 1 + 1 := rfl
      have hg : ((mkL mkCore ctCore xs k).map cCore).getD i [] = cCore (mkCore xs[i] m) := by
        have h' : i < (mkL mkCore ctCore xs k).length := by omega
        rw [getRow _ _ h', mkL_get h, hm]
      simp only [cCore, mkCore] at hg
      rw [loopV_by B0_laws_heldCoreS.eq_1]
      simp (maxSteps := 10000000) (disch := first | assumption | omega) only [EG, EL, ↓reduceIte, Nat.reduceEqDiff, Nat.reduceAdd, Nat.reduceSub, Nat.reduceMul, Nat.reduceLeDiff, Nat.reduceLT, Int.reduceLT, Int.reduceLE, Int.reduceEq, Int.reduceToNat, reduceCtorEq, FB, FT, hi, hML, hg, cx_laws_heldCoreS, cl_laws_heldIntS, sem_laws_heldIntS, wrapI]
      repeat rw [if_neg (by omega)]
      rw [show ((i : Nat) : Int) + 1 = ((i + 1 : Nat) : Int) by omega]
      exact ih _ (by omega)
  rw [sg_laws_heldCoreS, sem_go]
  simp (maxSteps := 10000000) (disch := first | assumption | omega) only [F_laws_heldCoreS, params, EG, EL, ↓reduceIte, Nat.reduceEqDiff, Nat.reduceAdd, Nat.reduceSub, Nat.reduceMul, Nat.reduceLeDiff, Nat.reduceLT, Int.reduceLT, Int.reduceLE, Int.reduceEq, Int.reduceToNat, reduceCtorEq, FB, FT, cx_laws_heldCoreS, cl_laws_heldIntS, sem_laws_heldIntS, loop]
theorem sem_laws_heldBoolS (xs : List Bool) (k : Int) (h1 : 1 ≤ k) (h2 : k + (tot ct1 xs : Nat) ≤ 4611686018427387000) : S_laws_heldBoolS.sem [.tree 1 ((mkL mkB ct1 xs k).map cB), .int .i64 k] = some (.int .i64 (k + (tot ct1 xs : Nat)), []) := by
  have hlen : xs.length ≤ tot ct1 xs := len_ct1
  have hML : (mkL mkB ct1 xs k).length = xs.length := mkL_length
  have loop : loopV X_laws_heldBoolS 0 [0, 1, 5] [(1, [1]), (0, [4])] B0_laws_heldBoolS ⟨[(0, .tree 1 ((mkL mkB ct1 xs k).map cB)), (1, .int .i64 k), (5, .int .i64 0)], []⟩ = some (Ex.exit 0, (⟨[(1, .int .i64 (k + (tot ct1 xs : Nat)))], []⟩ : St)) := by
    refine loop_list xs (fun i (m : Int) => m = k + (tot ct1 (xs.take i) : Nat)) (fun i m => ⟨[(0, .tree 1 ((mkL mkB ct1 xs k).map cB)), (1, .int .i64 m), (5, .int .i64 ((i : Nat) : Int))], []⟩) (fun rest a => some (Ex.exit 0, (⟨[(1, .int .i64 (k + (tot ct1 xs : Nat)))], []⟩ : St))) ?_ ?_ k (by simp [tot])
    · rintro m rfl
      rw [loopV_by B0_laws_heldBoolS.eq_1]
      simp only [EG, EL, ↓reduceIte, Nat.reduceEqDiff, Nat.reduceAdd, Nat.reduceSub, Nat.reduceMul, Nat.reduceLeDiff, Nat.reduceLT, Int.reduceLT, Int.reduceLE, Int.reduceEq, Int.reduceToNat, reduceCtorEq, int_lt_irrefl, hML, tot_take_end]
    · rintro i h x rest m rfl rfl hm ih
      have hi : (i : Int) < (xs.length : Int) := by omega
      have ht := tot_take_le (f := ct1) h
      have hs := tot_take1 (f := ct1) h
      have hc : ct1 xs[i] = 1 := rfl
      have hg : ((mkL mkB ct1 xs k).map cB).getD i [] = cB (mkB xs[i] m) := by
        have h' : i < (mkL mkB ct1 xs k).length := by omega
        rw [getRow _ _ h', mkL_get h, hm]
      simp only [cB, mkB] at hg
      rw [loopV_by B0_laws_heldBoolS.eq_1]
      simp (maxSteps := 10000000) (disch := first | assumption | omega) only [EG, EL, ↓reduceIte, Nat.reduceEqDiff, Nat.reduceAdd, Nat.reduceSub, Nat.reduceMul, Nat.reduceLeDiff, Nat.reduceLT, Int.reduceLT, Int.reduceLE, Int.reduceEq, Int.reduceToNat, reduceCtorEq, FB, FT, hi, hML, hg, cx_laws_heldBoolS, wrapI]
      repeat rw [if_neg (by omega)]
      rw [show ((i : Nat) : Int) + 1 = ((i + 1 : Nat) : Int) by omega]
      exact ih _ (by omega)
  rw [sg_laws_heldBoolS, sem_go]
  simp (maxSteps := 10000000) (disch := first | assumption | omega) only [F_laws_heldBoolS, params, EG, EL, ↓reduceIte, Nat.reduceEqDiff, Nat.reduceAdd, Nat.reduceSub, Nat.reduceMul, Nat.reduceLeDiff, Nat.reduceLT, Int.reduceLT, Int.reduceLE, Int.reduceEq, Int.reduceToNat, reduceCtorEq, FB, FT, cx_laws_heldBoolS, loop]
theorem sem_laws_heldKernel (x : DKernel) (k : Int) (h1 : 1 ≤ k) (h2 : k + (cwKernel x : Nat) ≤ 4611686018427387000) : S_laws_heldKernel.sem [.agg [.tree 3 ((mkL mkGate ctGate x.Gates k).map cGate), .tree 1 ((mkL mkI ct1 x.Ready (k + (tot ctGate x.Gates : Nat))).map cI), .tree 3 ((mkL mkCore ctCore x.Saved ((k + (tot ctGate x.Gates : Nat)) + (tot ct1 x.Ready : Nat))).map cCore), .tree 1 ((mkL mkB ct1 x.Over (((k + (tot ctGate x.Gates : Nat)) + (tot ct1 x.Ready : Nat)) + (tot ctCore x.Saved : Nat))).map cB)], .int .i64 k] = some (.int .i64 ((((k + (tot ctGate x.Gates : Nat)) + (tot ct1 x.Ready : Nat)) + (tot ctCore x.Saved : Nat)) + (tot ct1 x.Over : Nat)), []) := by
  show S_laws_heldKernel.sem [.agg (cKernel (mwKernel x k)), .int .i64 k] = some (.int .i64 ((((k + (tot ctGate x.Gates : Nat)) + (tot ct1 x.Ready : Nat)) + (tot ctCore x.Saved : Nat)) + (tot ct1 x.Over : Nat)), [])
  have hc : cwKernel x = tot ctGate x.Gates + tot ct1 x.Ready + tot ctCore x.Saved + tot ct1 x.Over := rfl
  rw [sg_laws_heldKernel, sem_go]
  simp (maxSteps := 10000000) (disch := first | assumption | omega) only [F_laws_heldKernel, params, EG, EL, ↓reduceIte, Nat.reduceEqDiff, Nat.reduceAdd, Nat.reduceSub, Nat.reduceMul, Nat.reduceLeDiff, Nat.reduceLT, Int.reduceLT, Int.reduceLE, Int.reduceEq, Int.reduceToNat, reduceCtorEq, FB, FT, cx_laws_heldKernel, cl_laws_heldGateS, sem_laws_heldGateS, cl_laws_heldIntS, sem_laws_heldIntS, cl_laws_heldCoreS, sem_laws_heldCoreS, cl_laws_heldBoolS, sem_laws_heldBoolS, mwKernel, mwGate, mwCore]
  repeat rw [if_neg (by omega)]
theorem sem_laws_heldCore (x : DCore) (k : Int) (h1 : 1 ≤ k) (h2 : k + (cwCore x : Nat) ≤ 4611686018427387000) : S_laws_heldCore.sem [.agg [.tree 1 ((mkL mkI ct1 x.Regs k).map cI), .int .i64 x.Pc, .int .i64 x.Process], .int .i64 k] = some (.int .i64 (k + (tot ct1 x.Regs : Nat)), []) := by
  show S_laws_heldCore.sem [.agg (cCore (mwCore x k)), .int .i64 k] = some (.int .i64 (k + (tot ct1 x.Regs : Nat)), [])
  have hc : cwCore x = tot ct1 x.Regs := rfl
  rw [sg_laws_heldCore, sem_go]
  simp (maxSteps := 10000000) (disch := first | assumption | omega) only [F_laws_heldCore, params, EG, EL, ↓reduceIte, Nat.reduceEqDiff, Nat.reduceAdd, Nat.reduceSub, Nat.reduceMul, Nat.reduceLeDiff, Nat.reduceLT, Int.reduceLT, Int.reduceLE, Int.reduceEq, Int.reduceToNat, reduceCtorEq, FB, FT, cx_laws_heldCore, cl_laws_heldIntS, sem_laws_heldIntS, mwCore]
  repeat rw [if_neg (by omega)]
theorem sem_spec_l01In (a lo hi : Int) : S_spec_l01In.sem [.int .i64 a, .int .i64 lo, .int .i64 hi] = some (.bool (decide (lo ≤ a ∧ a ≤ hi)), []) := by
  rw [sg_spec_l01In, sem_go]
  simp (maxSteps := 10000000) (disch := first | assumption | omega) only [F_spec_l01In, params, EG, EL, ↓reduceIte, Nat.reduceEqDiff, Nat.reduceAdd, Nat.reduceSub, Nat.reduceMul, Nat.reduceLeDiff, Nat.reduceLT, Int.reduceLT, Int.reduceLE, Int.reduceEq, Int.reduceToNat, reduceCtorEq, FB, cx_spec_l01In]
  by_cases h1 : lo ≤ a <;> by_cases h2 : a ≤ hi <;> simp [h1, h2]
theorem sem_impl_within (a lo hi : Int) : S_impl_within.sem [.int .i64 a, .int .i64 lo, .int .i64 hi] = some (.bool (decide (lo ≤ a ∧ a ≤ hi)), []) := by
  rw [sg_impl_within, sem_go]
  simp (maxSteps := 10000000) (disch := first | assumption | omega) only [F_impl_within, params, EG, EL, ↓reduceIte, Nat.reduceEqDiff, Nat.reduceAdd, Nat.reduceSub, Nat.reduceMul, Nat.reduceLeDiff, Nat.reduceLT, Int.reduceLT, Int.reduceLE, Int.reduceEq, Int.reduceToNat, reduceCtorEq, FB, cx_impl_within]
  by_cases h1 : lo ≤ a <;> by_cases h2 : a ≤ hi <;> simp [h1, h2]
theorem sem_spec_l12Copy (x : DGate) (h : x.Waits.length + x.Queues.length ≤ 1099511627776) : S_spec_l12Copy.sem [.agg (cGate x)] = some (.agg (cGate x), []) := by
  have h1 : x.Waits.length * 8 ≤ 70368744177664 := by omega
  have h2 : x.Queues.length * 8 ≤ 70368744177664 := by omega
  rw [sg_spec_l12Copy, sem_go]
  simp (maxSteps := 10000000) (disch := first | assumption | omega) only [F_spec_l12Copy, params, EG, EL, ↓reduceIte, Nat.reduceEqDiff, Nat.reduceAdd, Nat.reduceSub, Nat.reduceMul, Nat.reduceLeDiff, Nat.reduceLT, Int.reduceLT, Int.reduceLE, Int.reduceEq, Int.reduceToNat, reduceCtorEq, FB, ED, cx_spec_l12Copy, h1, h2]
theorem sem_impl_copyGate (x : DGate) (h : x.Waits.length + x.Queues.length ≤ 1099511627776) : S_impl_copyGate.sem [.agg (cGate x)] = some (.agg (cGate x), []) := by
  have h1 : x.Waits.length * 8 ≤ 70368744177664 := by omega
  have h2 : x.Queues.length * 8 ≤ 70368744177664 := by omega
  rw [sg_impl_copyGate, sem_go]
  simp (maxSteps := 10000000) (disch := first | assumption | omega) only [F_impl_copyGate, params, EG, EL, ↓reduceIte, Nat.reduceEqDiff, Nat.reduceAdd, Nat.reduceSub, Nat.reduceMul, Nat.reduceLeDiff, Nat.reduceLT, Int.reduceLT, Int.reduceLE, Int.reduceEq, Int.reduceToNat, reduceCtorEq, FB, ED, cx_impl_copyGate, h1, h2]
theorem sem_spec_l15Copy (x : DCore) (h : x.Regs.length ≤ 1048576) : S_spec_l15Copy.sem [.agg (cCore x)] = some (.agg (cCore x), []) := by
  have h1 : x.Regs.length * 8 ≤ 70368744177664 := by omega
  rw [sg_spec_l15Copy, sem_go]
  simp (maxSteps := 10000000) (disch := first | assumption | omega) only [F_spec_l15Copy, params, EG, EL, ↓reduceIte, Nat.reduceEqDiff, Nat.reduceAdd, Nat.reduceSub, Nat.reduceMul, Nat.reduceLeDiff, Nat.reduceLT, Int.reduceLT, Int.reduceLE, Int.reduceEq, Int.reduceToNat, reduceCtorEq, FB, ED, cx_spec_l15Copy, h1]
theorem sem_impl_copyCore (x : DCore) (h : x.Regs.length ≤ 1048576) : S_impl_copyCore.sem [.agg (cCore x)] = some (.agg (cCore x), []) := by
  have h1 : x.Regs.length * 8 ≤ 70368744177664 := by omega
  rw [sg_impl_copyCore, sem_go]
  simp (maxSteps := 10000000) (disch := first | assumption | omega) only [F_impl_copyCore, params, EG, EL, ↓reduceIte, Nat.reduceEqDiff, Nat.reduceAdd, Nat.reduceSub, Nat.reduceMul, Nat.reduceLeDiff, Nat.reduceLT, Int.reduceLT, Int.reduceLE, Int.reduceEq, Int.reduceToNat, reduceCtorEq, FB, ED, cx_impl_copyCore, h1]
theorem sem_spec_l20Copy (x : DKernel) (hg : x.Gates.length ≤ 1048576) (hs : x.Saved.length ≤ 1048576) (hr : x.Ready.length ≤ 1048576) (ho : x.Over.length ≤ 1048576) (hG : ∀ y ∈ x.Gates, y.Waits.length + y.Queues.length ≤ 1048576) (hC : ∀ y ∈ x.Saved, y.Regs.length ≤ 1048576) : S_spec_l20Copy.sem [.agg (cKernel x)] = some (.agg (cKernel x), []) := by
  have h1 : x.Ready.length * 8 ≤ 70368744177664 := by omega
  have h2 : x.Over.length * 1 ≤ 70368744177664 := by omega
  have loop0 : loopV X_spec_l20Copy 0 [1, 2, 3, 4] [(1, [1, 2, 3])] B0_spec_l20Copy ⟨[(1, .ptr ⟨0, none, 0⟩ 4 0 0), (2, .ptr ⟨1, none, 0⟩ 4 0 0), (3, .ptr ⟨6, none, 0⟩ 4 0 0), (4, .int .i64 0)], [some ⟨true, 0, 4, [cKernel x]⟩, some ⟨true, 0, 4, [[.sl ⟨2, none, 0⟩ 3 0 0, .sl ⟨3, none, 0⟩ 1 0 0, .sl ⟨4, none, 0⟩ 3 0 0, .sl ⟨5, none, 0⟩ 1 0 0]]⟩, some ⟨false, 0, 3, []⟩, some ⟨false, 0, 1, []⟩, some ⟨false, 0, 3, []⟩, some ⟨false, 0, 1, []⟩, some ⟨true, 0, 4, [[.sl ⟨7, none, 0⟩ 3 0 ([] : List DGate).length, .sl ⟨8, none, 0⟩ 1 0 x.Ready.length, .sl ⟨9, none, 0⟩ 3 0 ([] : List DCore).length, .sl ⟨10, none, 0⟩ 1 0 x.Over.length]]⟩, some ⟨false, 0, 3, ([] : List DGate).map cGate⟩, some ⟨false, 0, 1, x.Ready.map cI⟩, some ⟨false, 0, 3, ([] : List DCore).map cCore⟩, some ⟨false, 0, 1, x.Over.map cB⟩]⟩ = some (.exit 0, ⟨[(1, .ptr ⟨0, none, 0⟩ 4 0 0), (2, .ptr ⟨1, none, 0⟩ 4 0 0), (3, .ptr ⟨6, none, 0⟩ 4 0 0)], [some ⟨true, 0, 4, [cKernel x]⟩, some ⟨true, 0, 4, [[.sl ⟨2, none, 0⟩ 3 0 0, .sl ⟨3, none, 0⟩ 1 0 0, .sl ⟨4, none, 0⟩ 3 0 0, .sl ⟨5, none, 0⟩ 1 0 0]]⟩, some ⟨false, 0, 3, []⟩, some ⟨false, 0, 1, []⟩, some ⟨false, 0, 3, []⟩, some ⟨false, 0, 1, []⟩, some ⟨true, 0, 4, [[.sl ⟨7, none, 0⟩ 3 0 x.Gates.length, .sl ⟨8, none, 0⟩ 1 0 x.Ready.length, .sl ⟨9, none, 0⟩ 3 0 ([] : List DCore).length, .sl ⟨10, none, 0⟩ 1 0 x.Over.length]]⟩, some ⟨false, 0, 3, x.Gates.map cGate⟩, some ⟨false, 0, 1, x.Ready.map cI⟩, some ⟨false, 0, 3, ([] : List DCore).map cCore⟩, some ⟨false, 0, 1, x.Over.map cB⟩]⟩) := by
    refine loop_list x.Gates (fun i (gs : List DGate) => gs.length = i) (fun i gs => ⟨[(1, .ptr ⟨0, none, 0⟩ 4 0 0), (2, .ptr ⟨1, none, 0⟩ 4 0 0), (3, .ptr ⟨6, none, 0⟩ 4 0 0), (4, .int .i64 ((i : Nat) : Int))], [some ⟨true, 0, 4, [cKernel x]⟩, some ⟨true, 0, 4, [[.sl ⟨2, none, 0⟩ 3 0 0, .sl ⟨3, none, 0⟩ 1 0 0, .sl ⟨4, none, 0⟩ 3 0 0, .sl ⟨5, none, 0⟩ 1 0 0]]⟩, some ⟨false, 0, 3, []⟩, some ⟨false, 0, 1, []⟩, some ⟨false, 0, 3, []⟩, some ⟨false, 0, 1, []⟩, some ⟨true, 0, 4, [[.sl ⟨7, none, 0⟩ 3 0 gs.length, .sl ⟨8, none, 0⟩ 1 0 x.Ready.length, .sl ⟨9, none, 0⟩ 3 0 ([] : List DCore).length, .sl ⟨10, none, 0⟩ 1 0 x.Over.length]]⟩, some ⟨false, 0, 3, gs.map cGate⟩, some ⟨false, 0, 1, x.Ready.map cI⟩, some ⟨false, 0, 3, ([] : List DCore).map cCore⟩, some ⟨false, 0, 1, x.Over.map cB⟩]⟩) (fun rest gs => some (.exit 0, ⟨[(1, .ptr ⟨0, none, 0⟩ 4 0 0), (2, .ptr ⟨1, none, 0⟩ 4 0 0), (3, .ptr ⟨6, none, 0⟩ 4 0 0)], [some ⟨true, 0, 4, [cKernel x]⟩, some ⟨true, 0, 4, [[.sl ⟨2, none, 0⟩ 3 0 0, .sl ⟨3, none, 0⟩ 1 0 0, .sl ⟨4, none, 0⟩ 3 0 0, .sl ⟨5, none, 0⟩ 1 0 0]]⟩, some ⟨false, 0, 3, []⟩, some ⟨false, 0, 1, []⟩, some ⟨false, 0, 3, []⟩, some ⟨false, 0, 1, []⟩, some ⟨true, 0, 4, [[.sl ⟨7, none, 0⟩ 3 0 (gs ++ rest).length, .sl ⟨8, none, 0⟩ 1 0 x.Ready.length, .sl ⟨9, none, 0⟩ 3 0 ([] : List DCore).length, .sl ⟨10, none, 0⟩ 1 0 x.Over.length]]⟩, some ⟨false, 0, 3, (gs ++ rest).map cGate⟩, some ⟨false, 0, 1, x.Ready.map cI⟩, some ⟨false, 0, 3, ([] : List DCore).map cCore⟩, some ⟨false, 0, 1, x.Over.map cB⟩]⟩)) ?_ ?_ [] rfl
    · rintro gs hl
      rw [loopV_by B0_spec_l20Copy.eq_1]
      simp only [EG, EL, ↓reduceIte, Nat.reduceEqDiff, Nat.reduceAdd, Nat.reduceSub, Nat.reduceMul, Nat.reduceLeDiff, Nat.reduceLT, Int.reduceLT, Int.reduceLE, Int.reduceEq, Int.reduceToNat, reduceCtorEq, FB, int_lt_irrefl, List.append_nil]
    · rintro i hi0 y rest gs rfl rfl hl ih
      have hi : (i : Int) < (x.Gates.length : Int) := by omega
      have hc : (gs.length + 1) * 56 ≤ 70368744177664 := by omega
      have hb := hG _ (List.getElem_mem hi0)
      have i1 := ih (gs ++ [x.Gates[i]]) (by simp; omega)
      try simp only [EG, EL, ↓reduceIte, Nat.reduceEqDiff, Nat.reduceAdd, Nat.reduceSub, Nat.reduceMul, Nat.reduceLeDiff, Nat.reduceLT, Int.reduceLT, Int.reduceLE, Int.reduceEq, Int.reduceToNat, reduceCtorEq, FB, List.append_assoc] at i1
      rw [loopV_by B0_spec_l20Copy.eq_1]
      simp (maxSteps := 10000000) (disch := first | assumption | omega) only [EG, EL, ↓reduceIte, Nat.reduceEqDiff, Nat.reduceAdd, Nat.reduceSub, Nat.reduceMul, Nat.reduceLeDiff, Nat.reduceLT, Int.reduceLT, Int.reduceLE, Int.reduceEq, Int.reduceToNat, reduceCtorEq, FB, ED, FT, hi, wrap_succ, getRow _ _ hi0, hc, cx_spec_l20Copy, cl_spec_l12Copy, sem_spec_l12Copy]
      try simp only [cKernel, EG, EL, ↓reduceIte, Nat.reduceEqDiff, Nat.reduceAdd, Nat.reduceSub, Nat.reduceMul, Nat.reduceLeDiff, Nat.reduceLT, Int.reduceLT, Int.reduceLE, Int.reduceEq, Int.reduceToNat, reduceCtorEq, FB, List.append_assoc] at i1
      try simp only [cKernel, EG, EL, ↓reduceIte, Nat.reduceEqDiff, Nat.reduceAdd, Nat.reduceSub, Nat.reduceMul, Nat.reduceLeDiff, Nat.reduceLT, Int.reduceLT, Int.reduceLE, Int.reduceEq, Int.reduceToNat, reduceCtorEq, FB, List.append_assoc]
      exact i1
  have loop1 : loopV X_spec_l20Copy 0 [1, 2, 3, 5] [(3, [2, 3])] B1_spec_l20Copy ⟨[(1, .ptr ⟨0, none, 0⟩ 4 0 0), (2, .ptr ⟨1, none, 0⟩ 4 0 0), (3, .ptr ⟨6, none, 0⟩ 4 0 0), (5, .int .i64 0)], [some ⟨true, 0, 4, [cKernel x]⟩, some ⟨true, 0, 4, [[.sl ⟨2, none, 0⟩ 3 0 0, .sl ⟨3, none, 0⟩ 1 0 0, .sl ⟨4, none, 0⟩ 3 0 0, .sl ⟨5, none, 0⟩ 1 0 0]]⟩, some ⟨false, 0, 3, []⟩, some ⟨false, 0, 1, []⟩, some ⟨false, 0, 3, []⟩, some ⟨false, 0, 1, []⟩, some ⟨true, 0, 4, [[.sl ⟨7, none, 0⟩ 3 0 x.Gates.length, .sl ⟨8, none, 0⟩ 1 0 x.Ready.length, .sl ⟨9, none, 0⟩ 3 0 ([] : List DCore).length, .sl ⟨10, none, 0⟩ 1 0 x.Over.length]]⟩, some ⟨false, 0, 3, x.Gates.map cGate⟩, some ⟨false, 0, 1, x.Ready.map cI⟩, some ⟨false, 0, 3, ([] : List DCore).map cCore⟩, some ⟨false, 0, 1, x.Over.map cB⟩]⟩ = some (.exit 2, ⟨[(2, .ptr ⟨0, none, 0⟩ 4 0 0), (3, .ptr ⟨5, none, 0⟩ 4 0 0)], [some ⟨true, 0, 4, [[.sl ⟨1, none, 0⟩ 3 0 0, .sl ⟨2, none, 0⟩ 1 0 0, .sl ⟨3, none, 0⟩ 3 0 0, .sl ⟨4, none, 0⟩ 1 0 0]]⟩, some ⟨false, 0, 3, []⟩, some ⟨false, 0, 1, []⟩, some ⟨false, 0, 3, []⟩, some ⟨false, 0, 1, []⟩, some ⟨true, 0, 4, [[.sl ⟨6, none, 0⟩ 3 0 x.Gates.length, .sl ⟨7, none, 0⟩ 1 0 x.Ready.length, .sl ⟨8, none, 0⟩ 3 0 x.Saved.length, .sl ⟨9, none, 0⟩ 1 0 x.Over.length]]⟩, some ⟨false, 0, 3, x.Gates.map cGate⟩, some ⟨false, 0, 1, x.Ready.map cI⟩, some ⟨false, 0, 3, x.Saved.map cCore⟩, some ⟨false, 0, 1, x.Over.map cB⟩]⟩) := by
    refine loop_list x.Saved (fun i (cs : List DCore) => cs.length = i) (fun i cs => ⟨[(1, .ptr ⟨0, none, 0⟩ 4 0 0), (2, .ptr ⟨1, none, 0⟩ 4 0 0), (3, .ptr ⟨6, none, 0⟩ 4 0 0), (5, .int .i64 ((i : Nat) : Int))], [some ⟨true, 0, 4, [cKernel x]⟩, some ⟨true, 0, 4, [[.sl ⟨2, none, 0⟩ 3 0 0, .sl ⟨3, none, 0⟩ 1 0 0, .sl ⟨4, none, 0⟩ 3 0 0, .sl ⟨5, none, 0⟩ 1 0 0]]⟩, some ⟨false, 0, 3, []⟩, some ⟨false, 0, 1, []⟩, some ⟨false, 0, 3, []⟩, some ⟨false, 0, 1, []⟩, some ⟨true, 0, 4, [[.sl ⟨7, none, 0⟩ 3 0 x.Gates.length, .sl ⟨8, none, 0⟩ 1 0 x.Ready.length, .sl ⟨9, none, 0⟩ 3 0 cs.length, .sl ⟨10, none, 0⟩ 1 0 x.Over.length]]⟩, some ⟨false, 0, 3, x.Gates.map cGate⟩, some ⟨false, 0, 1, x.Ready.map cI⟩, some ⟨false, 0, 3, cs.map cCore⟩, some ⟨false, 0, 1, x.Over.map cB⟩]⟩) (fun rest cs => some (.exit 2, ⟨[(2, .ptr ⟨0, none, 0⟩ 4 0 0), (3, .ptr ⟨5, none, 0⟩ 4 0 0)], [some ⟨true, 0, 4, [[.sl ⟨1, none, 0⟩ 3 0 0, .sl ⟨2, none, 0⟩ 1 0 0, .sl ⟨3, none, 0⟩ 3 0 0, .sl ⟨4, none, 0⟩ 1 0 0]]⟩, some ⟨false, 0, 3, []⟩, some ⟨false, 0, 1, []⟩, some ⟨false, 0, 3, []⟩, some ⟨false, 0, 1, []⟩, some ⟨true, 0, 4, [[.sl ⟨6, none, 0⟩ 3 0 x.Gates.length, .sl ⟨7, none, 0⟩ 1 0 x.Ready.length, .sl ⟨8, none, 0⟩ 3 0 (cs ++ rest).length, .sl ⟨9, none, 0⟩ 1 0 x.Over.length]]⟩, some ⟨false, 0, 3, x.Gates.map cGate⟩, some ⟨false, 0, 1, x.Ready.map cI⟩, some ⟨false, 0, 3, (cs ++ rest).map cCore⟩, some ⟨false, 0, 1, x.Over.map cB⟩]⟩)) ?_ ?_ [] rfl
    · rintro cs hl
      rw [loopV_by B1_spec_l20Copy.eq_1]
      simp only [EG, EL, ↓reduceIte, Nat.reduceEqDiff, Nat.reduceAdd, Nat.reduceSub, Nat.reduceMul, Nat.reduceLeDiff, Nat.reduceLT, Int.reduceLT, Int.reduceLE, Int.reduceEq, Int.reduceToNat, reduceCtorEq, FB, int_lt_irrefl, List.append_nil]
    · rintro i hi0 y rest cs rfl rfl hl ih
      have hi : (i : Int) < (x.Saved.length : Int) := by omega
      have hc : (cs.length + 1) * 40 ≤ 70368744177664 := by omega
      have hb := hC _ (List.getElem_mem hi0)
      have i1 := ih (cs ++ [x.Saved[i]]) (by simp; omega)
      try simp only [EG, EL, ↓reduceIte, Nat.reduceEqDiff, Nat.reduceAdd, Nat.reduceSub, Nat.reduceMul, Nat.reduceLeDiff, Nat.reduceLT, Int.reduceLT, Int.reduceLE, Int.reduceEq, Int.reduceToNat, reduceCtorEq, FB, List.append_assoc] at i1
      rw [loopV_by B1_spec_l20Copy.eq_1]
      simp (maxSteps := 10000000) (disch := first | assumption | omega) only [EG, EL, ↓reduceIte, Nat.reduceEqDiff, Nat.reduceAdd, Nat.reduceSub, Nat.reduceMul, Nat.reduceLeDiff, Nat.reduceLT, Int.reduceLT, Int.reduceLE, Int.reduceEq, Int.reduceToNat, reduceCtorEq, FB, ED, FT, hi, wrap_succ, getRow _ _ hi0, hc, cx_spec_l20Copy, cl_spec_l15Copy, sem_spec_l15Copy]
      try simp only [cKernel, EG, EL, ↓reduceIte, Nat.reduceEqDiff, Nat.reduceAdd, Nat.reduceSub, Nat.reduceMul, Nat.reduceLeDiff, Nat.reduceLT, Int.reduceLT, Int.reduceLE, Int.reduceEq, Int.reduceToNat, reduceCtorEq, FB, List.append_assoc] at i1
      try simp only [cKernel, EG, EL, ↓reduceIte, Nat.reduceEqDiff, Nat.reduceAdd, Nat.reduceSub, Nat.reduceMul, Nat.reduceLeDiff, Nat.reduceLT, Int.reduceLT, Int.reduceLE, Int.reduceEq, Int.reduceToNat, reduceCtorEq, FB, List.append_assoc]
      exact i1
  try simp only [EG, EL, ↓reduceIte, Nat.reduceEqDiff, Nat.reduceAdd, Nat.reduceSub, Nat.reduceMul, Nat.reduceLeDiff, Nat.reduceLT, Int.reduceLT, Int.reduceLE, Int.reduceEq, Int.reduceToNat, reduceCtorEq, FB] at loop0
  try simp only [EG, EL, ↓reduceIte, Nat.reduceEqDiff, Nat.reduceAdd, Nat.reduceSub, Nat.reduceMul, Nat.reduceLeDiff, Nat.reduceLT, Int.reduceLT, Int.reduceLE, Int.reduceEq, Int.reduceToNat, reduceCtorEq, FB] at loop1
  rw [sg_spec_l20Copy, sem_go]
  simp (maxSteps := 10000000) (disch := first | assumption | omega) only [F_spec_l20Copy, params, EG, EL, ↓reduceIte, Nat.reduceEqDiff, Nat.reduceAdd, Nat.reduceSub, Nat.reduceMul, Nat.reduceLeDiff, Nat.reduceLT, Int.reduceLT, Int.reduceLE, Int.reduceEq, Int.reduceToNat, reduceCtorEq, FB, ED, FT, cx_spec_l20Copy, h1, h2, loop0, loop1]
theorem sem_impl_copyKernel (x : DKernel) (hg : x.Gates.length ≤ 1048576) (hs : x.Saved.length ≤ 1048576) (hr : x.Ready.length ≤ 1048576) (ho : x.Over.length ≤ 1048576) (hG : ∀ y ∈ x.Gates, y.Waits.length + y.Queues.length ≤ 1048576) (hC : ∀ y ∈ x.Saved, y.Regs.length ≤ 1048576) : S_impl_copyKernel.sem [.agg (cKernel x)] = some (.agg (cKernel x), []) := by
  have h1 : x.Ready.length * 8 ≤ 70368744177664 := by omega
  have h2 : x.Over.length * 1 ≤ 70368744177664 := by omega
  have loop0 : loopV X_impl_copyKernel 0 [1, 2, 3, 16, 17, 18] [(1, [1, 2, 3])] B0_impl_copyKernel ⟨[(1, .ptr ⟨0, none, 0⟩ 4 0 0), (2, .ptr ⟨1, none, 0⟩ 4 0 0), (3, .ptr ⟨6, none, 0⟩ 4 0 0), (16, .tree 3 (x.Gates.map cGate)), (17, .int .i64 x.Gates.length), (18, .int .i64 0)], [some ⟨true, 0, 4, [cKernel x]⟩, some ⟨true, 0, 4, [[.sl ⟨2, none, 0⟩ 3 0 0, .sl ⟨3, none, 0⟩ 1 0 0, .sl ⟨4, none, 0⟩ 3 0 0, .sl ⟨5, none, 0⟩ 1 0 0]]⟩, some ⟨false, 0, 3, []⟩, some ⟨false, 0, 1, []⟩, some ⟨false, 0, 3, []⟩, some ⟨false, 0, 1, []⟩, some ⟨true, 0, 4, [[.sl ⟨7, none, 0⟩ 3 0 ([] : List DGate).length, .sl ⟨8, none, 0⟩ 1 0 x.Ready.length, .sl ⟨9, none, 0⟩ 3 0 ([] : List DCore).length, .sl ⟨10, none, 0⟩ 1 0 x.Over.length]]⟩, some ⟨false, 0, 3, ([] : List DGate).map cGate⟩, some ⟨false, 0, 1, x.Ready.map cI⟩, some ⟨false, 0, 3, ([] : List DCore).map cCore⟩, some ⟨false, 0, 1, x.Over.map cB⟩]⟩ = some (.exit 0, ⟨[(1, .ptr ⟨0, none, 0⟩ 4 0 0), (2, .ptr ⟨1, none, 0⟩ 4 0 0), (3, .ptr ⟨6, none, 0⟩ 4 0 0)], [some ⟨true, 0, 4, [cKernel x]⟩, some ⟨true, 0, 4, [[.sl ⟨2, none, 0⟩ 3 0 0, .sl ⟨3, none, 0⟩ 1 0 0, .sl ⟨4, none, 0⟩ 3 0 0, .sl ⟨5, none, 0⟩ 1 0 0]]⟩, some ⟨false, 0, 3, []⟩, some ⟨false, 0, 1, []⟩, some ⟨false, 0, 3, []⟩, some ⟨false, 0, 1, []⟩, some ⟨true, 0, 4, [[.sl ⟨7, none, 0⟩ 3 0 x.Gates.length, .sl ⟨8, none, 0⟩ 1 0 x.Ready.length, .sl ⟨9, none, 0⟩ 3 0 ([] : List DCore).length, .sl ⟨10, none, 0⟩ 1 0 x.Over.length]]⟩, some ⟨false, 0, 3, x.Gates.map cGate⟩, some ⟨false, 0, 1, x.Ready.map cI⟩, some ⟨false, 0, 3, ([] : List DCore).map cCore⟩, some ⟨false, 0, 1, x.Over.map cB⟩]⟩) := by
    refine loop_list x.Gates (fun i (gs : List DGate) => gs.length = i) (fun i gs => ⟨[(1, .ptr ⟨0, none, 0⟩ 4 0 0), (2, .ptr ⟨1, none, 0⟩ 4 0 0), (3, .ptr ⟨6, none, 0⟩ 4 0 0), (16, .tree 3 (x.Gates.map cGate)), (17, .int .i64 x.Gates.length), (18, .int .i64 ((i : Nat) : Int))], [some ⟨true, 0, 4, [cKernel x]⟩, some ⟨true, 0, 4, [[.sl ⟨2, none, 0⟩ 3 0 0, .sl ⟨3, none, 0⟩ 1 0 0, .sl ⟨4, none, 0⟩ 3 0 0, .sl ⟨5, none, 0⟩ 1 0 0]]⟩, some ⟨false, 0, 3, []⟩, some ⟨false, 0, 1, []⟩, some ⟨false, 0, 3, []⟩, some ⟨false, 0, 1, []⟩, some ⟨true, 0, 4, [[.sl ⟨7, none, 0⟩ 3 0 gs.length, .sl ⟨8, none, 0⟩ 1 0 x.Ready.length, .sl ⟨9, none, 0⟩ 3 0 ([] : List DCore).length, .sl ⟨10, none, 0⟩ 1 0 x.Over.length]]⟩, some ⟨false, 0, 3, gs.map cGate⟩, some ⟨false, 0, 1, x.Ready.map cI⟩, some ⟨false, 0, 3, ([] : List DCore).map cCore⟩, some ⟨false, 0, 1, x.Over.map cB⟩]⟩) (fun rest gs => some (.exit 0, ⟨[(1, .ptr ⟨0, none, 0⟩ 4 0 0), (2, .ptr ⟨1, none, 0⟩ 4 0 0), (3, .ptr ⟨6, none, 0⟩ 4 0 0)], [some ⟨true, 0, 4, [cKernel x]⟩, some ⟨true, 0, 4, [[.sl ⟨2, none, 0⟩ 3 0 0, .sl ⟨3, none, 0⟩ 1 0 0, .sl ⟨4, none, 0⟩ 3 0 0, .sl ⟨5, none, 0⟩ 1 0 0]]⟩, some ⟨false, 0, 3, []⟩, some ⟨false, 0, 1, []⟩, some ⟨false, 0, 3, []⟩, some ⟨false, 0, 1, []⟩, some ⟨true, 0, 4, [[.sl ⟨7, none, 0⟩ 3 0 (gs ++ rest).length, .sl ⟨8, none, 0⟩ 1 0 x.Ready.length, .sl ⟨9, none, 0⟩ 3 0 ([] : List DCore).length, .sl ⟨10, none, 0⟩ 1 0 x.Over.length]]⟩, some ⟨false, 0, 3, (gs ++ rest).map cGate⟩, some ⟨false, 0, 1, x.Ready.map cI⟩, some ⟨false, 0, 3, ([] : List DCore).map cCore⟩, some ⟨false, 0, 1, x.Over.map cB⟩]⟩)) ?_ ?_ [] rfl
    · rintro gs hl
      rw [loopV_by B0_impl_copyKernel.eq_1]
      simp only [EG, EL, ↓reduceIte, Nat.reduceEqDiff, Nat.reduceAdd, Nat.reduceSub, Nat.reduceMul, Nat.reduceLeDiff, Nat.reduceLT, Int.reduceLT, Int.reduceLE, Int.reduceEq, Int.reduceToNat, reduceCtorEq, FB, int_lt_irrefl, List.append_nil]
    · rintro i hi0 y rest gs rfl rfl hl ih
      have hi : (i : Int) < (x.Gates.length : Int) := by omega
      have hc : (gs.length + 1) * 56 ≤ 70368744177664 := by omega
      have hb := hG _ (List.getElem_mem hi0)
      have i1 := ih (gs ++ [x.Gates[i]]) (by simp; omega)
      try simp only [EG, EL, ↓reduceIte, Nat.reduceEqDiff, Nat.reduceAdd, Nat.reduceSub, Nat.reduceMul, Nat.reduceLeDiff, Nat.reduceLT, Int.reduceLT, Int.reduceLE, Int.reduceEq, Int.reduceToNat, reduceCtorEq, FB, List.append_assoc] at i1
      rw [loopV_by B0_impl_copyKernel.eq_1]
      simp (maxSteps := 10000000) (disch := first | assumption | omega) only [EG, EL, ↓reduceIte, Nat.reduceEqDiff, Nat.reduceAdd, Nat.reduceSub, Nat.reduceMul, Nat.reduceLeDiff, Nat.reduceLT, Int.reduceLT, Int.reduceLE, Int.reduceEq, Int.reduceToNat, reduceCtorEq, FB, ED, FT, hi, wrap_succ, getRow _ _ hi0, hc, cx_impl_copyKernel, cl_impl_copyGate, sem_impl_copyGate]
      try simp only [cKernel, EG, EL, ↓reduceIte, Nat.reduceEqDiff, Nat.reduceAdd, Nat.reduceSub, Nat.reduceMul, Nat.reduceLeDiff, Nat.reduceLT, Int.reduceLT, Int.reduceLE, Int.reduceEq, Int.reduceToNat, reduceCtorEq, FB, List.append_assoc] at i1
      try simp only [cKernel, EG, EL, ↓reduceIte, Nat.reduceEqDiff, Nat.reduceAdd, Nat.reduceSub, Nat.reduceMul, Nat.reduceLeDiff, Nat.reduceLT, Int.reduceLT, Int.reduceLE, Int.reduceEq, Int.reduceToNat, reduceCtorEq, FB, List.append_assoc]
      exact i1
  have loop1 : loopV X_impl_copyKernel 0 [2, 3, 31, 32, 33] [(3, [2, 3])] B1_impl_copyKernel ⟨[(2, .ptr ⟨0, none, 0⟩ 4 0 0), (3, .ptr ⟨5, none, 0⟩ 4 0 0), (31, .tree 3 (x.Saved.map cCore)), (32, .int .i64 x.Saved.length), (33, .int .i64 0)], [some ⟨true, 0, 4, [[.sl ⟨1, none, 0⟩ 3 0 0, .sl ⟨2, none, 0⟩ 1 0 0, .sl ⟨3, none, 0⟩ 3 0 0, .sl ⟨4, none, 0⟩ 1 0 0]]⟩, some ⟨false, 0, 3, []⟩, some ⟨false, 0, 1, []⟩, some ⟨false, 0, 3, []⟩, some ⟨false, 0, 1, []⟩, some ⟨true, 0, 4, [[.sl ⟨6, none, 0⟩ 3 0 x.Gates.length, .sl ⟨7, none, 0⟩ 1 0 x.Ready.length, .sl ⟨8, none, 0⟩ 3 0 ([] : List DCore).length, .sl ⟨9, none, 0⟩ 1 0 x.Over.length]]⟩, some ⟨false, 0, 3, x.Gates.map cGate⟩, some ⟨false, 0, 1, x.Ready.map cI⟩, some ⟨false, 0, 3, ([] : List DCore).map cCore⟩, some ⟨false, 0, 1, x.Over.map cB⟩]⟩ = some (.exit 2, ⟨[(2, .ptr ⟨0, none, 0⟩ 4 0 0), (3, .ptr ⟨5, none, 0⟩ 4 0 0)], [some ⟨true, 0, 4, [[.sl ⟨1, none, 0⟩ 3 0 0, .sl ⟨2, none, 0⟩ 1 0 0, .sl ⟨3, none, 0⟩ 3 0 0, .sl ⟨4, none, 0⟩ 1 0 0]]⟩, some ⟨false, 0, 3, []⟩, some ⟨false, 0, 1, []⟩, some ⟨false, 0, 3, []⟩, some ⟨false, 0, 1, []⟩, some ⟨true, 0, 4, [[.sl ⟨6, none, 0⟩ 3 0 x.Gates.length, .sl ⟨7, none, 0⟩ 1 0 x.Ready.length, .sl ⟨8, none, 0⟩ 3 0 x.Saved.length, .sl ⟨9, none, 0⟩ 1 0 x.Over.length]]⟩, some ⟨false, 0, 3, x.Gates.map cGate⟩, some ⟨false, 0, 1, x.Ready.map cI⟩, some ⟨false, 0, 3, x.Saved.map cCore⟩, some ⟨false, 0, 1, x.Over.map cB⟩]⟩) := by
    refine loop_list x.Saved (fun i (cs : List DCore) => cs.length = i) (fun i cs => ⟨[(2, .ptr ⟨0, none, 0⟩ 4 0 0), (3, .ptr ⟨5, none, 0⟩ 4 0 0), (31, .tree 3 (x.Saved.map cCore)), (32, .int .i64 x.Saved.length), (33, .int .i64 ((i : Nat) : Int))], [some ⟨true, 0, 4, [[.sl ⟨1, none, 0⟩ 3 0 0, .sl ⟨2, none, 0⟩ 1 0 0, .sl ⟨3, none, 0⟩ 3 0 0, .sl ⟨4, none, 0⟩ 1 0 0]]⟩, some ⟨false, 0, 3, []⟩, some ⟨false, 0, 1, []⟩, some ⟨false, 0, 3, []⟩, some ⟨false, 0, 1, []⟩, some ⟨true, 0, 4, [[.sl ⟨6, none, 0⟩ 3 0 x.Gates.length, .sl ⟨7, none, 0⟩ 1 0 x.Ready.length, .sl ⟨8, none, 0⟩ 3 0 cs.length, .sl ⟨9, none, 0⟩ 1 0 x.Over.length]]⟩, some ⟨false, 0, 3, x.Gates.map cGate⟩, some ⟨false, 0, 1, x.Ready.map cI⟩, some ⟨false, 0, 3, cs.map cCore⟩, some ⟨false, 0, 1, x.Over.map cB⟩]⟩) (fun rest cs => some (.exit 2, ⟨[(2, .ptr ⟨0, none, 0⟩ 4 0 0), (3, .ptr ⟨5, none, 0⟩ 4 0 0)], [some ⟨true, 0, 4, [[.sl ⟨1, none, 0⟩ 3 0 0, .sl ⟨2, none, 0⟩ 1 0 0, .sl ⟨3, none, 0⟩ 3 0 0, .sl ⟨4, none, 0⟩ 1 0 0]]⟩, some ⟨false, 0, 3, []⟩, some ⟨false, 0, 1, []⟩, some ⟨false, 0, 3, []⟩, some ⟨false, 0, 1, []⟩, some ⟨true, 0, 4, [[.sl ⟨6, none, 0⟩ 3 0 x.Gates.length, .sl ⟨7, none, 0⟩ 1 0 x.Ready.length, .sl ⟨8, none, 0⟩ 3 0 (cs ++ rest).length, .sl ⟨9, none, 0⟩ 1 0 x.Over.length]]⟩, some ⟨false, 0, 3, x.Gates.map cGate⟩, some ⟨false, 0, 1, x.Ready.map cI⟩, some ⟨false, 0, 3, (cs ++ rest).map cCore⟩, some ⟨false, 0, 1, x.Over.map cB⟩]⟩)) ?_ ?_ [] rfl
    · rintro cs hl
      rw [loopV_by B1_impl_copyKernel.eq_1]
      simp only [EG, EL, ↓reduceIte, Nat.reduceEqDiff, Nat.reduceAdd, Nat.reduceSub, Nat.reduceMul, Nat.reduceLeDiff, Nat.reduceLT, Int.reduceLT, Int.reduceLE, Int.reduceEq, Int.reduceToNat, reduceCtorEq, FB, int_lt_irrefl, List.append_nil]
    · rintro i hi0 y rest cs rfl rfl hl ih
      have hi : (i : Int) < (x.Saved.length : Int) := by omega
      have hc : (cs.length + 1) * 40 ≤ 70368744177664 := by omega
      have hb := hC _ (List.getElem_mem hi0)
      have i1 := ih (cs ++ [x.Saved[i]]) (by simp; omega)
      try simp only [EG, EL, ↓reduceIte, Nat.reduceEqDiff, Nat.reduceAdd, Nat.reduceSub, Nat.reduceMul, Nat.reduceLeDiff, Nat.reduceLT, Int.reduceLT, Int.reduceLE, Int.reduceEq, Int.reduceToNat, reduceCtorEq, FB, List.append_assoc] at i1
      rw [loopV_by B1_impl_copyKernel.eq_1]
      simp (maxSteps := 10000000) (disch := first | assumption | omega) only [EG, EL, ↓reduceIte, Nat.reduceEqDiff, Nat.reduceAdd, Nat.reduceSub, Nat.reduceMul, Nat.reduceLeDiff, Nat.reduceLT, Int.reduceLT, Int.reduceLE, Int.reduceEq, Int.reduceToNat, reduceCtorEq, FB, ED, FT, hi, wrap_succ, getRow _ _ hi0, hc, cx_impl_copyKernel, cl_impl_copyCore, sem_impl_copyCore]
      try simp only [cKernel, EG, EL, ↓reduceIte, Nat.reduceEqDiff, Nat.reduceAdd, Nat.reduceSub, Nat.reduceMul, Nat.reduceLeDiff, Nat.reduceLT, Int.reduceLT, Int.reduceLE, Int.reduceEq, Int.reduceToNat, reduceCtorEq, FB, List.append_assoc] at i1
      try simp only [cKernel, EG, EL, ↓reduceIte, Nat.reduceEqDiff, Nat.reduceAdd, Nat.reduceSub, Nat.reduceMul, Nat.reduceLeDiff, Nat.reduceLT, Int.reduceLT, Int.reduceLE, Int.reduceEq, Int.reduceToNat, reduceCtorEq, FB, List.append_assoc]
      exact i1
  try simp only [EG, EL, ↓reduceIte, Nat.reduceEqDiff, Nat.reduceAdd, Nat.reduceSub, Nat.reduceMul, Nat.reduceLeDiff, Nat.reduceLT, Int.reduceLT, Int.reduceLE, Int.reduceEq, Int.reduceToNat, reduceCtorEq, FB] at loop0
  try simp only [EG, EL, ↓reduceIte, Nat.reduceEqDiff, Nat.reduceAdd, Nat.reduceSub, Nat.reduceMul, Nat.reduceLeDiff, Nat.reduceLT, Int.reduceLT, Int.reduceLE, Int.reduceEq, Int.reduceToNat, reduceCtorEq, FB] at loop1
  rw [sg_impl_copyKernel, sem_go]
  simp (maxSteps := 10000000) (disch := first | assumption | omega) only [F_impl_copyKernel, params, EG, EL, ↓reduceIte, Nat.reduceEqDiff, Nat.reduceAdd, Nat.reduceSub, Nat.reduceMul, Nat.reduceLeDiff, Nat.reduceLT, Int.reduceLT, Int.reduceLE, Int.reduceEq, Int.reduceToNat, reduceCtorEq, FB, ED, FT, cx_impl_copyKernel, h1, h2, loop0, loop1]
def coreNew : DCore := ⟨List.replicate 8 0, 0, -1⟩
def holdK (x : DKernel) (c : DCore) : DKernel := if 0 ≤ c.Process ∧ c.Process ≤ (x.Saved.length : Int) - 1 then { x with Saved := x.Saved.set c.Process.toNat c } else x
def wakeK (x : DKernel) (p : Int) : DKernel := if (0 ≤ p ∧ p ≤ (x.Saved.length : Int) - 1) ∧ p ∉ x.Ready then { x with Ready := x.Ready ++ [p] } else x
def pickK (x : DKernel) : DKernel × DCore × Bool := match x.Ready with | [] => (x, coreNew, false) | r :: rs => if 0 ≤ r ∧ r ≤ (x.Saved.length : Int) - 1 then ({ x with Ready := rs }, x.Saved.getD r.toNat coreNew, true) else (x, coreNew, false)
theorem sem_spec_CoreNew : S_spec_CoreNew.sem [] = some (.agg (cCore coreNew), []) := by
  rw [sg_spec_CoreNew, sem_go]
  simp (maxSteps := 10000000) (disch := first | assumption | omega) only [F_spec_CoreNew, params, EG, EL, ↓reduceIte, Nat.reduceEqDiff, Nat.reduceAdd, Nat.reduceSub, Nat.reduceMul, Nat.reduceLeDiff, Nat.reduceLT, Int.reduceLT, Int.reduceLE, Int.reduceEq, Int.reduceToNat, reduceCtorEq, FB, ED, cx_spec_CoreNew]
  first | rfl | decide
theorem sem_impl_CoreNew : S_impl_CoreNew.sem [] = some (.agg (cCore coreNew), []) := by
  rw [sg_impl_CoreNew, sem_go]
  simp (maxSteps := 10000000) (disch := first | assumption | omega) only [F_impl_CoreNew, params, EG, EL, ↓reduceIte, Nat.reduceEqDiff, Nat.reduceAdd, Nat.reduceSub, Nat.reduceMul, Nat.reduceLeDiff, Nat.reduceLT, Int.reduceLT, Int.reduceLE, Int.reduceEq, Int.reduceToNat, reduceCtorEq, FB, ED, cx_impl_CoreNew]
  first | rfl | decide
theorem sem_spec_Pick (x : DKernel) (hg : x.Gates.length ≤ 1048576) (hs : x.Saved.length ≤ 1048576) (hr : x.Ready.length ≤ 1048576) (ho : x.Over.length ≤ 1048576) (hG : ∀ y ∈ x.Gates, y.Waits.length + y.Queues.length ≤ 1048576) (hC : ∀ y ∈ x.Saved, y.Regs.length ≤ 1048576) : S_spec_Pick.sem [.agg (cKernel x)] = some (.tup [.agg (cKernel (pickK x).1), .agg (cCore (pickK x).2.1), .bool (pickK x).2.2], []) := by
  have hk := sem_spec_l20Copy x hg hs hr ho hG hC
  rw [sg_spec_Pick, sem_go]
  obtain ⟨gs, rd, sv, ov⟩ := x
  simp only at hg hs hr ho hG hC hk
  have hnew := sem_spec_CoreNew
  cases rd with
  | nil =>
    simp only [cKernel, List.map_nil] at hk
    simp (maxSteps := 10000000) (disch := first | assumption | omega) only [cKernel, F_spec_Pick, params, EG, EL, ↓reduceIte, Nat.reduceEqDiff, Nat.reduceAdd, Nat.reduceSub, Nat.reduceMul, Nat.reduceLeDiff, Nat.reduceLT, Int.reduceLT, Int.reduceLE, Int.reduceEq, Int.reduceToNat, reduceCtorEq, FB, ED, FT, cx_spec_Pick, cl_spec_l20Copy, hk, cl_spec_CoreNew, hnew, pickK, cl_spec_l20Pick, run_goF, F_spec_l20Pick, cx_spec_l20Pick]
  | cons r rs =>
    simp only [List.length_cons] at hr
    simp only [cKernel, List.map_cons] at hk
    have h0 : ¬ ((rs.length + 1 : Nat) : Int) = 0 := by omega
    have h1 : (0 : Int) < ((rs.length + 1 : Nat) : Int) := by omega
    have h2 : (1 : Int) ≤ ((rs.length + 1 : Nat) : Int) := by omega
    have h3 : rs.length * 8 ≤ 70368744177664 := by omega
    have h4 : 1 + rs.length ≤ rs.length + 1 := by omega
    by_cases h : 0 ≤ r ∧ r ≤ (sv.length : Int) - 1
    · have hn : r < (sv.length : Int) := by omega
      have hn' : r.toNat < sv.length := by omega
      have hgd : sv.getD r.toNat coreNew = sv[r.toNat] := by simp [List.getD_eq_getElem?_getD, hn']
      have hcc := hC _ (List.getElem_mem hn')
      simp (maxSteps := 10000000) (disch := first | assumption | omega) only [cKernel, F_spec_Pick, params, EG, EL, ↓reduceIte, Nat.reduceEqDiff, Nat.reduceAdd, Nat.reduceSub, Nat.reduceMul, Nat.reduceLeDiff, Nat.reduceLT, Int.reduceLT, Int.reduceLE, Int.reduceEq, Int.reduceToNat, reduceCtorEq, FB, ED, FT, cx_spec_Pick, cl_spec_l20Copy, hk, cl_spec_CoreNew, hnew, cl_spec_l01In, sem_spec_l01In, cl_spec_l15Copy, sem_spec_l15Copy, wrapI, h, hn, hn', h0, h1, h2, h3, h4, hgd, getRow _ _ hn', pickK, cl_spec_l20Pick, run_goF, F_spec_l20Pick, cx_spec_l20Pick]
    · simp (maxSteps := 10000000) (disch := first | assumption | omega) only [cKernel, F_spec_Pick, params, EG, EL, ↓reduceIte, Nat.reduceEqDiff, Nat.reduceAdd, Nat.reduceSub, Nat.reduceMul, Nat.reduceLeDiff, Nat.reduceLT, Int.reduceLT, Int.reduceLE, Int.reduceEq, Int.reduceToNat, reduceCtorEq, FB, ED, FT, cx_spec_Pick, cl_spec_l20Copy, hk, cl_spec_CoreNew, hnew, cl_spec_l01In, sem_spec_l01In, wrapI, h, h0, h1, h2, pickK, cl_spec_l20Pick, run_goF, F_spec_l20Pick, cx_spec_l20Pick]
theorem sem_impl_Pick (x : DKernel) (hg : x.Gates.length ≤ 1048576) (hs : x.Saved.length ≤ 1048576) (hr : x.Ready.length ≤ 1048576) (ho : x.Over.length ≤ 1048576) (hG : ∀ y ∈ x.Gates, y.Waits.length + y.Queues.length ≤ 1048576) (hC : ∀ y ∈ x.Saved, y.Regs.length ≤ 1048576) : S_impl_Pick.sem [.agg (cKernel x)] = some (.tup [.agg (cKernel (pickK x).1), .agg (cCore (pickK x).2.1), .bool (pickK x).2.2], []) := by
  have hk := sem_impl_copyKernel x hg hs hr ho hG hC
  rw [sg_impl_Pick, sem_go]
  obtain ⟨gs, rd, sv, ov⟩ := x
  simp only at hg hs hr ho hG hC hk
  have hnew := sem_impl_CoreNew
  cases rd with
  | nil =>
    simp only [cKernel, List.map_nil] at hk
    simp (maxSteps := 10000000) (disch := first | assumption | omega) only [cKernel, F_impl_Pick, params, EG, EL, ↓reduceIte, Nat.reduceEqDiff, Nat.reduceAdd, Nat.reduceSub, Nat.reduceMul, Nat.reduceLeDiff, Nat.reduceLT, Int.reduceLT, Int.reduceLE, Int.reduceEq, Int.reduceToNat, reduceCtorEq, FB, ED, FT, cx_impl_Pick, cl_impl_copyKernel, hk, cl_impl_CoreNew, hnew, pickK]
  | cons r rs =>
    simp only [List.length_cons] at hr
    simp only [cKernel, List.map_cons] at hk
    have h0 : ¬ ((rs.length + 1 : Nat) : Int) = 0 := by omega
    have h1 : (0 : Int) < ((rs.length + 1 : Nat) : Int) := by omega
    have h2 : (1 : Int) ≤ ((rs.length + 1 : Nat) : Int) := by omega
    have h3 : rs.length * 8 ≤ 70368744177664 := by omega
    have h4 : 1 + rs.length ≤ rs.length + 1 := by omega
    by_cases h : 0 ≤ r ∧ r ≤ (sv.length : Int) - 1
    · have hn : r < (sv.length : Int) := by omega
      have hn' : r.toNat < sv.length := by omega
      have hgd : sv.getD r.toNat coreNew = sv[r.toNat] := by simp [List.getD_eq_getElem?_getD, hn']
      have hcc := hC _ (List.getElem_mem hn')
      simp (maxSteps := 10000000) (disch := first | assumption | omega) only [cKernel, F_impl_Pick, params, EG, EL, ↓reduceIte, Nat.reduceEqDiff, Nat.reduceAdd, Nat.reduceSub, Nat.reduceMul, Nat.reduceLeDiff, Nat.reduceLT, Int.reduceLT, Int.reduceLE, Int.reduceEq, Int.reduceToNat, reduceCtorEq, FB, ED, FT, cx_impl_Pick, cl_impl_copyKernel, hk, cl_impl_CoreNew, hnew, cl_impl_within, sem_impl_within, cl_impl_copyCore, sem_impl_copyCore, wrapI, h, hn, hn', h0, h1, h2, h3, h4, hgd, getRow _ _ hn', pickK]
    · simp (maxSteps := 10000000) (disch := first | assumption | omega) only [cKernel, F_impl_Pick, params, EG, EL, ↓reduceIte, Nat.reduceEqDiff, Nat.reduceAdd, Nat.reduceSub, Nat.reduceMul, Nat.reduceLeDiff, Nat.reduceLT, Int.reduceLT, Int.reduceLE, Int.reduceEq, Int.reduceToNat, reduceCtorEq, FB, ED, FT, cx_impl_Pick, cl_impl_copyKernel, hk, cl_impl_CoreNew, hnew, cl_impl_within, sem_impl_within, wrapI, h, h0, h1, h2, pickK]
set_option maxHeartbeats 4000000 in
theorem law_FnExactPick (x : DKernel) (g_x : gdKernel x) : tru F_laws_FnExactPick.res (go X_laws_FnExactPick 0 [.c F_laws_FnExactPick.body] ⟨params 0 [.agg (cKernel x)], []⟩) := by
  rcases lft_or (1048576) (wtKernel x) with ⟨e0, f0⟩ | ⟨e0, f0⟩
  · simp (maxSteps := 10000000) (disch := first | assumption | omega) only [F_laws_FnExactPick, params, EG, EL, ↓reduceIte, Nat.reduceEqDiff, Nat.reduceAdd, Nat.reduceSub, Nat.reduceMul, Nat.reduceLeDiff, Nat.reduceLT, Int.reduceLT, Int.reduceLE, Int.reduceEq, Int.reduceToNat, reduceCtorEq, ED, FB, FT, tru_ret, tru_ite, cx_laws_FnExactPick, e0, neg1_lt, cl_laws_szKernel, sem_laws_szKernel, cl_laws_toKernel, sem_laws_toKernel, cl_spec_Pick, sem_spec_Pick, cl_impl_Pick, sem_impl_Pick, cl_laws_eqKernel, sem_laws_eqKernel, cl_laws_eqCore, sem_laws_eqCore, cl_laws_markKernel, run_goF, F_laws_markKernel, cx_laws_markKernel, cl_laws_markGateS, sem_laws_markGateS, cl_laws_markIntS, sem_laws_markIntS, cl_laws_markCoreS, sem_laws_markCoreS, cl_laws_markBoolS, sem_laws_markBoolS, cl_laws_markCore, F_laws_markCore, cx_laws_markCore, cl_laws_heldKernel, sem_laws_heldKernel, cl_laws_heldCore, sem_laws_heldCore]
  have c0 : ¬ 1048576 - ((wtKernel x : Nat) : Int) < 0 := by omega
  have w0 := f0
  simp only [wtKernel] at w0
  have q0_0 := tctle_Gate x.Gates
  have q0_1 := tot_ct1 x.Ready
  have q0_2 := tctle_Core x.Saved
  have q0_3 := tot_ct1 x.Over
  have hG : ∀ y ∈ x.Gates, y.Waits.length + y.Queues.length ≤ 1048576 := fun y hy => by have := le_tot wtGate hy; have h2 : wtGate y = y.Waits.length + y.Queues.length := rfl; omega
  have hC : ∀ y ∈ x.Saved, y.Regs.length ≤ 1048576 := fun y hy => by have := le_tot wtCore hy; have h2 : wtCore y = y.Regs.length := rfl; omega
  have hr0 : wtKernel (pickK x).1 ≤ 1073741824 := by
    unfold pickK
    have hz : ∀ r rs, x.Ready = r :: rs → rs.length + 1 = x.Ready.length := fun r rs h => by rw [h]; rfl
    split
    · simp only [wtKernel]; omega
    · rename_i r rs heq
      have := hz _ _ heq
      split <;> simp only [wtKernel] <;> omega
  have hu0 := hr0
  simp only [wtKernel] at hu0
  have r0_0 := tctle_Gate (pickK x).1.Gates
  have r0_1 := tot_ct1 (pickK x).1.Ready
  have r0_2 := tctle_Core (pickK x).1.Saved
  have r0_3 := tot_ct1 (pickK x).1.Over
  have rc0 : cwKernel (pickK x).1 = tot ctGate (pickK x).1.Gates + tot ct1 (pickK x).1.Ready + tot ctCore (pickK x).1.Saved + tot ct1 (pickK x).1.Over := rfl
  have hr1 : wtCore (pickK x).2.1 ≤ 1073741824 := by
    unfold pickK
    have h8 : wtCore coreNew ≤ 1073741824 := by unfold wtCore coreNew; simp
    have hgd : ∀ n, wtCore (x.Saved.getD n coreNew) ≤ 1073741824 := fun n => by
      rw [List.getD_eq_getElem?_getD]
      cases hn : x.Saved[n]? with
      | none => exact h8
      | some y => have := hC y (List.mem_of_getElem? hn); unfold wtCore; simp only [Option.getD_some]; omega
    cases hrd : x.Ready <;> (repeat' split) <;> first | exact h8 | exact hgd _
  have hu1 := hr1
  simp only [wtCore] at hu1
  have r1_0 := tot_ct1 (pickK x).2.1.Regs
  have rc1 : cwCore (pickK x).2.1 = tot ct1 (pickK x).2.1.Regs := rfl
  simp (maxSteps := 10000000) (disch := first | assumption | omega) only [F_laws_FnExactPick, params, EG, EL, ↓reduceIte, Nat.reduceEqDiff, Nat.reduceAdd, Nat.reduceSub, Nat.reduceMul, Nat.reduceLeDiff, Nat.reduceLT, Int.reduceLT, Int.reduceLE, Int.reduceEq, Int.reduceToNat, reduceCtorEq, ED, FB, FT, tru_ret, tru_ite, cx_laws_FnExactPick, e0, c0, cl_laws_szKernel, sem_laws_szKernel, cl_laws_toKernel, sem_laws_toKernel, cl_spec_Pick, sem_spec_Pick, cl_impl_Pick, sem_impl_Pick, cl_laws_eqKernel, sem_laws_eqKernel, cl_laws_eqCore, sem_laws_eqCore, cl_laws_markKernel, run_goF, F_laws_markKernel, cx_laws_markKernel, cl_laws_markGateS, sem_laws_markGateS, cl_laws_markIntS, sem_laws_markIntS, cl_laws_markCoreS, sem_laws_markCoreS, cl_laws_markBoolS, sem_laws_markBoolS, cl_laws_markCore, F_laws_markCore, cx_laws_markCore, cl_laws_heldKernel, sem_laws_heldKernel, cl_laws_heldCore, sem_laws_heldCore]
  repeat (first | rw [if_neg (by omega)] | rw [if_pos (by omega)])
  try trivial

end Go.Proofs.Ythdbglhdadinkaa.AI
