/- What these functions give, and that the law FnExactRegsOf gives true. -/
import Derived.Test.YtdhmlhlpdejefaaLFnExactRegsOfA
namespace Go.Proofs.Ytdhmlhlpdejefaa.AI
open Go.Proofs
set_option linter.all false
set_option maxRecDepth 100000
set_option maxHeartbeats 4000000 in
theorem sem_impl_namesOk (x : DNode) (hs : x.Name.size ≤ 140737488351232 ∧ x.More.size ≤ 140737488351232 ∧ x.To.size ≤ 140737488351232) (hkd : kindB x.Kind = true) : S_impl_namesOk.sem [.agg (cNode x)] = some (.bool (namesB x), []) := by
  have q1 := sem_impl_NameOk x.Name hs.1
  have q2 := sem_impl_NameOk x.More hs.2.1
  have q3 := sem_impl_NameOk x.To hs.2.2
  rw [sg_impl_namesOk, sem_go]
  rcases kind15 hkd with hK | hK | hK | hK | hK | hK | hK | hK | hK | hK | hK | hK | hK | hK | hK
  · skip
    rcases eqP (0 ≤ x.Num ∧ x.Num ≤ 1000000) with f_nu | f_nu
    · skip
      rcases eqP (x.To = (⟨#[]⟩ : ByteArray)) with f_to | f_to
      · skip
        rcases eqP (x.Name = (⟨#[]⟩ : ByteArray)) with f_nm | f_nm
        · skip
          rcases eqP (x.More = (⟨#[]⟩ : ByteArray)) with f_mo | f_mo
          · skip
            simp (maxSteps := 10000000) (disch := first | assumption | omega) only [cNode, F_impl_namesOk, params, EG, EL, ↓reduceIte, Nat.reduceEqDiff, Nat.reduceAdd, Nat.reduceSub, Nat.reduceMul, Nat.reduceLeDiff, Nat.reduceLT, Int.reduceLT, Int.reduceLE, Int.reduceEq, Int.reduceToNat, reduceCtorEq, FB, ED, FT, cx_impl_namesOk, cl_impl_within, sem_impl_within, cl_impl_NameOk, q1, q2, q3, hK, namesB, okName, emptyS, f_nu, f_to, f_nm, f_mo, BB, if_true, if_false, ite_true, ite_false, ite_self]
          · simp (maxSteps := 10000000) (disch := first | assumption | omega) only [cNode, F_impl_namesOk, params, EG, EL, ↓reduceIte, Nat.reduceEqDiff, Nat.reduceAdd, Nat.reduceSub, Nat.reduceMul, Nat.reduceLeDiff, Nat.reduceLT, Int.reduceLT, Int.reduceLE, Int.reduceEq, Int.reduceToNat, reduceCtorEq, FB, ED, FT, cx_impl_namesOk, cl_impl_within, sem_impl_within, cl_impl_NameOk, q1, q2, q3, hK, namesB, okName, emptyS, f_nu, f_to, f_nm, f_mo, BB, if_true, if_false, ite_true, ite_false, ite_self]
        · simp (maxSteps := 10000000) (disch := first | assumption | omega) only [cNode, F_impl_namesOk, params, EG, EL, ↓reduceIte, Nat.reduceEqDiff, Nat.reduceAdd, Nat.reduceSub, Nat.reduceMul, Nat.reduceLeDiff, Nat.reduceLT, Int.reduceLT, Int.reduceLE, Int.reduceEq, Int.reduceToNat, reduceCtorEq, FB, ED, FT, cx_impl_namesOk, cl_impl_within, sem_impl_within, cl_impl_NameOk, q1, q2, q3, hK, namesB, okName, emptyS, f_nu, f_to, f_nm, BB, if_true, if_false, ite_true, ite_false, ite_self]
      · simp (maxSteps := 10000000) (disch := first | assumption | omega) only [cNode, F_impl_namesOk, params, EG, EL, ↓reduceIte, Nat.reduceEqDiff, Nat.reduceAdd, Nat.reduceSub, Nat.reduceMul, Nat.reduceLeDiff, Nat.reduceLT, Int.reduceLT, Int.reduceLE, Int.reduceEq, Int.reduceToNat, reduceCtorEq, FB, ED, FT, cx_impl_namesOk, cl_impl_within, sem_impl_within, cl_impl_NameOk, q1, q2, q3, hK, namesB, okName, emptyS, f_nu, f_to, BB, if_true, if_false, ite_true, ite_false, ite_self]
    · simp (maxSteps := 10000000) (disch := first | assumption | omega) only [cNode, F_impl_namesOk, params, EG, EL, ↓reduceIte, Nat.reduceEqDiff, Nat.reduceAdd, Nat.reduceSub, Nat.reduceMul, Nat.reduceLeDiff, Nat.reduceLT, Int.reduceLT, Int.reduceLE, Int.reduceEq, Int.reduceToNat, reduceCtorEq, FB, ED, FT, cx_impl_namesOk, cl_impl_within, sem_impl_within, cl_impl_NameOk, q1, q2, q3, hK, namesB, okName, emptyS, f_nu, BB, if_true, if_false, ite_true, ite_false, ite_self]
  · skip
    rcases eqP (x.Num = 0) with f_nu | f_nu
    · skip
      rcases eqP (x.To = (⟨#[]⟩ : ByteArray)) with f_to | f_to
      · skip
        cases f_nm : nameOkF x.Name
        · simp (maxSteps := 10000000) (disch := first | assumption | omega) only [cNode, F_impl_namesOk, params, EG, EL, ↓reduceIte, Nat.reduceEqDiff, Nat.reduceAdd, Nat.reduceSub, Nat.reduceMul, Nat.reduceLeDiff, Nat.reduceLT, Int.reduceLT, Int.reduceLE, Int.reduceEq, Int.reduceToNat, reduceCtorEq, FB, ED, FT, cx_impl_namesOk, cl_impl_within, sem_impl_within, cl_impl_NameOk, q1, q2, q3, hK, namesB, okName, emptyS, f_nu, f_to, f_nm, BB, if_true, if_false, ite_true, ite_false, ite_self]
        · skip
          rcases eqP (x.More = (⟨#[]⟩ : ByteArray)) with f_mo | f_mo
          · skip
            simp (maxSteps := 10000000) (disch := first | assumption | omega) only [cNode, F_impl_namesOk, params, EG, EL, ↓reduceIte, Nat.reduceEqDiff, Nat.reduceAdd, Nat.reduceSub, Nat.reduceMul, Nat.reduceLeDiff, Nat.reduceLT, Int.reduceLT, Int.reduceLE, Int.reduceEq, Int.reduceToNat, reduceCtorEq, FB, ED, FT, cx_impl_namesOk, cl_impl_within, sem_impl_within, cl_impl_NameOk, q1, q2, q3, hK, namesB, okName, emptyS, f_nu, f_to, f_nm, f_mo, BB, if_true, if_false, ite_true, ite_false, ite_self]
          · simp (maxSteps := 10000000) (disch := first | assumption | omega) only [cNode, F_impl_namesOk, params, EG, EL, ↓reduceIte, Nat.reduceEqDiff, Nat.reduceAdd, Nat.reduceSub, Nat.reduceMul, Nat.reduceLeDiff, Nat.reduceLT, Int.reduceLT, Int.reduceLE, Int.reduceEq, Int.reduceToNat, reduceCtorEq, FB, ED, FT, cx_impl_namesOk, cl_impl_within, sem_impl_within, cl_impl_NameOk, q1, q2, q3, hK, namesB, okName, emptyS, f_nu, f_to, f_nm, f_mo, BB, if_true, if_false, ite_true, ite_false, ite_self]
      · simp (maxSteps := 10000000) (disch := first | assumption | omega) only [cNode, F_impl_namesOk, params, EG, EL, ↓reduceIte, Nat.reduceEqDiff, Nat.reduceAdd, Nat.reduceSub, Nat.reduceMul, Nat.reduceLeDiff, Nat.reduceLT, Int.reduceLT, Int.reduceLE, Int.reduceEq, Int.reduceToNat, reduceCtorEq, FB, ED, FT, cx_impl_namesOk, cl_impl_within, sem_impl_within, cl_impl_NameOk, q1, q2, q3, hK, namesB, okName, emptyS, f_nu, f_to, BB, if_true, if_false, ite_true, ite_false, ite_self]
    · simp (maxSteps := 10000000) (disch := first | assumption | omega) only [cNode, F_impl_namesOk, params, EG, EL, ↓reduceIte, Nat.reduceEqDiff, Nat.reduceAdd, Nat.reduceSub, Nat.reduceMul, Nat.reduceLeDiff, Nat.reduceLT, Int.reduceLT, Int.reduceLE, Int.reduceEq, Int.reduceToNat, reduceCtorEq, FB, ED, FT, cx_impl_namesOk, cl_impl_within, sem_impl_within, cl_impl_NameOk, q1, q2, q3, hK, namesB, okName, emptyS, f_nu, BB, if_true, if_false, ite_true, ite_false, ite_self]
  · skip
    rcases eqP (1 ≤ x.Num ∧ x.Num ≤ 9) with f_nu | f_nu
    · skip
      rcases eqP (x.To = (⟨#[]⟩ : ByteArray)) with f_to | f_to
      · skip
        rcases eqP (x.Name = (⟨#[]⟩ : ByteArray)) with f_nm | f_nm
        · skip
          rcases eqP (x.More = (⟨#[]⟩ : ByteArray)) with f_mo | f_mo
          · skip
            simp (maxSteps := 10000000) (disch := first | assumption | omega) only [cNode, F_impl_namesOk, params, EG, EL, ↓reduceIte, Nat.reduceEqDiff, Nat.reduceAdd, Nat.reduceSub, Nat.reduceMul, Nat.reduceLeDiff, Nat.reduceLT, Int.reduceLT, Int.reduceLE, Int.reduceEq, Int.reduceToNat, reduceCtorEq, FB, ED, FT, cx_impl_namesOk, cl_impl_within, sem_impl_within, cl_impl_NameOk, q1, q2, q3, hK, namesB, okName, emptyS, f_nu, f_to, f_nm, f_mo, BB, if_true, if_false, ite_true, ite_false, ite_self]
          · simp (maxSteps := 10000000) (disch := first | assumption | omega) only [cNode, F_impl_namesOk, params, EG, EL, ↓reduceIte, Nat.reduceEqDiff, Nat.reduceAdd, Nat.reduceSub, Nat.reduceMul, Nat.reduceLeDiff, Nat.reduceLT, Int.reduceLT, Int.reduceLE, Int.reduceEq, Int.reduceToNat, reduceCtorEq, FB, ED, FT, cx_impl_namesOk, cl_impl_within, sem_impl_within, cl_impl_NameOk, q1, q2, q3, hK, namesB, okName, emptyS, f_nu, f_to, f_nm, f_mo, BB, if_true, if_false, ite_true, ite_false, ite_self]
        · simp (maxSteps := 10000000) (disch := first | assumption | omega) only [cNode, F_impl_namesOk, params, EG, EL, ↓reduceIte, Nat.reduceEqDiff, Nat.reduceAdd, Nat.reduceSub, Nat.reduceMul, Nat.reduceLeDiff, Nat.reduceLT, Int.reduceLT, Int.reduceLE, Int.reduceEq, Int.reduceToNat, reduceCtorEq, FB, ED, FT, cx_impl_namesOk, cl_impl_within, sem_impl_within, cl_impl_NameOk, q1, q2, q3, hK, namesB, okName, emptyS, f_nu, f_to, f_nm, BB, if_true, if_false, ite_true, ite_false, ite_self]
      · simp (maxSteps := 10000000) (disch := first | assumption | omega) only [cNode, F_impl_namesOk, params, EG, EL, ↓reduceIte, Nat.reduceEqDiff, Nat.reduceAdd, Nat.reduceSub, Nat.reduceMul, Nat.reduceLeDiff, Nat.reduceLT, Int.reduceLT, Int.reduceLE, Int.reduceEq, Int.reduceToNat, reduceCtorEq, FB, ED, FT, cx_impl_namesOk, cl_impl_within, sem_impl_within, cl_impl_NameOk, q1, q2, q3, hK, namesB, okName, emptyS, f_nu, f_to, BB, if_true, if_false, ite_true, ite_false, ite_self]
    · simp (maxSteps := 10000000) (disch := first | assumption | omega) only [cNode, F_impl_namesOk, params, EG, EL, ↓reduceIte, Nat.reduceEqDiff, Nat.reduceAdd, Nat.reduceSub, Nat.reduceMul, Nat.reduceLeDiff, Nat.reduceLT, Int.reduceLT, Int.reduceLE, Int.reduceEq, Int.reduceToNat, reduceCtorEq, FB, ED, FT, cx_impl_namesOk, cl_impl_within, sem_impl_within, cl_impl_NameOk, q1, q2, q3, hK, namesB, okName, emptyS, f_nu, BB, if_true, if_false, ite_true, ite_false, ite_self]
  · skip
    rcases eqP (x.Num = 0) with f_nu | f_nu
    · skip
      rcases eqP (x.To = (⟨#[]⟩ : ByteArray)) with f_to | f_to
      · skip
        rcases eqP (x.Name = (⟨#[]⟩ : ByteArray)) with f_nm | f_nm
        · skip
          rcases eqP (x.More = (⟨#[]⟩ : ByteArray)) with f_mo | f_mo
          · skip
            simp (maxSteps := 10000000) (disch := first | assumption | omega) only [cNode, F_impl_namesOk, params, EG, EL, ↓reduceIte, Nat.reduceEqDiff, Nat.reduceAdd, Nat.reduceSub, Nat.reduceMul, Nat.reduceLeDiff, Nat.reduceLT, Int.reduceLT, Int.reduceLE, Int.reduceEq, Int.reduceToNat, reduceCtorEq, FB, ED, FT, cx_impl_namesOk, cl_impl_within, sem_impl_within, cl_impl_NameOk, q1, q2, q3, hK, namesB, okName, emptyS, f_nu, f_to, f_nm, f_mo, BB, if_true, if_false, ite_true, ite_false, ite_self]
          · simp (maxSteps := 10000000) (disch := first | assumption | omega) only [cNode, F_impl_namesOk, params, EG, EL, ↓reduceIte, Nat.reduceEqDiff, Nat.reduceAdd, Nat.reduceSub, Nat.reduceMul, Nat.reduceLeDiff, Nat.reduceLT, Int.reduceLT, Int.reduceLE, Int.reduceEq, Int.reduceToNat, reduceCtorEq, FB, ED, FT, cx_impl_namesOk, cl_impl_within, sem_impl_within, cl_impl_NameOk, q1, q2, q3, hK, namesB, okName, emptyS, f_nu, f_to, f_nm, f_mo, BB, if_true, if_false, ite_true, ite_false, ite_self]
        · simp (maxSteps := 10000000) (disch := first | assumption | omega) only [cNode, F_impl_namesOk, params, EG, EL, ↓reduceIte, Nat.reduceEqDiff, Nat.reduceAdd, Nat.reduceSub, Nat.reduceMul, Nat.reduceLeDiff, Nat.reduceLT, Int.reduceLT, Int.reduceLE, Int.reduceEq, Int.reduceToNat, reduceCtorEq, FB, ED, FT, cx_impl_namesOk, cl_impl_within, sem_impl_within, cl_impl_NameOk, q1, q2, q3, hK, namesB, okName, emptyS, f_nu, f_to, f_nm, BB, if_true, if_false, ite_true, ite_false, ite_self]
      · simp (maxSteps := 10000000) (disch := first | assumption | omega) only [cNode, F_impl_namesOk, params, EG, EL, ↓reduceIte, Nat.reduceEqDiff, Nat.reduceAdd, Nat.reduceSub, Nat.reduceMul, Nat.reduceLeDiff, Nat.reduceLT, Int.reduceLT, Int.reduceLE, Int.reduceEq, Int.reduceToNat, reduceCtorEq, FB, ED, FT, cx_impl_namesOk, cl_impl_within, sem_impl_within, cl_impl_NameOk, q1, q2, q3, hK, namesB, okName, emptyS, f_nu, f_to, BB, if_true, if_false, ite_true, ite_false, ite_self]
    · simp (maxSteps := 10000000) (disch := first | assumption | omega) only [cNode, F_impl_namesOk, params, EG, EL, ↓reduceIte, Nat.reduceEqDiff, Nat.reduceAdd, Nat.reduceSub, Nat.reduceMul, Nat.reduceLeDiff, Nat.reduceLT, Int.reduceLT, Int.reduceLE, Int.reduceEq, Int.reduceToNat, reduceCtorEq, FB, ED, FT, cx_impl_namesOk, cl_impl_within, sem_impl_within, cl_impl_NameOk, q1, q2, q3, hK, namesB, okName, emptyS, f_nu, BB, if_true, if_false, ite_true, ite_false, ite_self]
  · skip
    rcases eqP (x.Num = 0) with f_nu | f_nu
    · skip
      rcases eqP (x.To = (⟨#[]⟩ : ByteArray)) with f_to | f_to
      · skip
        rcases eqP (x.Name = (⟨#[]⟩ : ByteArray)) with f_nm | f_nm
        · skip
          rcases eqP (x.More = (⟨#[]⟩ : ByteArray)) with f_mo | f_mo
          · skip
            simp (maxSteps := 10000000) (disch := first | assumption | omega) only [cNode, F_impl_namesOk, params, EG, EL, ↓reduceIte, Nat.reduceEqDiff, Nat.reduceAdd, Nat.reduceSub, Nat.reduceMul, Nat.reduceLeDiff, Nat.reduceLT, Int.reduceLT, Int.reduceLE, Int.reduceEq, Int.reduceToNat, reduceCtorEq, FB, ED, FT, cx_impl_namesOk, cl_impl_within, sem_impl_within, cl_impl_NameOk, q1, q2, q3, hK, namesB, okName, emptyS, f_nu, f_to, f_nm, f_mo, BB, if_true, if_false, ite_true, ite_false, ite_self]
          · simp (maxSteps := 10000000) (disch := first | assumption | omega) only [cNode, F_impl_namesOk, params, EG, EL, ↓reduceIte, Nat.reduceEqDiff, Nat.reduceAdd, Nat.reduceSub, Nat.reduceMul, Nat.reduceLeDiff, Nat.reduceLT, Int.reduceLT, Int.reduceLE, Int.reduceEq, Int.reduceToNat, reduceCtorEq, FB, ED, FT, cx_impl_namesOk, cl_impl_within, sem_impl_within, cl_impl_NameOk, q1, q2, q3, hK, namesB, okName, emptyS, f_nu, f_to, f_nm, f_mo, BB, if_true, if_false, ite_true, ite_false, ite_self]
        · simp (maxSteps := 10000000) (disch := first | assumption | omega) only [cNode, F_impl_namesOk, params, EG, EL, ↓reduceIte, Nat.reduceEqDiff, Nat.reduceAdd, Nat.reduceSub, Nat.reduceMul, Nat.reduceLeDiff, Nat.reduceLT, Int.reduceLT, Int.reduceLE, Int.reduceEq, Int.reduceToNat, reduceCtorEq, FB, ED, FT, cx_impl_namesOk, cl_impl_within, sem_impl_within, cl_impl_NameOk, q1, q2, q3, hK, namesB, okName, emptyS, f_nu, f_to, f_nm, BB, if_true, if_false, ite_true, ite_false, ite_self]
      · simp (maxSteps := 10000000) (disch := first | assumption | omega) only [cNode, F_impl_namesOk, params, EG, EL, ↓reduceIte, Nat.reduceEqDiff, Nat.reduceAdd, Nat.reduceSub, Nat.reduceMul, Nat.reduceLeDiff, Nat.reduceLT, Int.reduceLT, Int.reduceLE, Int.reduceEq, Int.reduceToNat, reduceCtorEq, FB, ED, FT, cx_impl_namesOk, cl_impl_within, sem_impl_within, cl_impl_NameOk, q1, q2, q3, hK, namesB, okName, emptyS, f_nu, f_to, BB, if_true, if_false, ite_true, ite_false, ite_self]
    · simp (maxSteps := 10000000) (disch := first | assumption | omega) only [cNode, F_impl_namesOk, params, EG, EL, ↓reduceIte, Nat.reduceEqDiff, Nat.reduceAdd, Nat.reduceSub, Nat.reduceMul, Nat.reduceLeDiff, Nat.reduceLT, Int.reduceLT, Int.reduceLE, Int.reduceEq, Int.reduceToNat, reduceCtorEq, FB, ED, FT, cx_impl_namesOk, cl_impl_within, sem_impl_within, cl_impl_NameOk, q1, q2, q3, hK, namesB, okName, emptyS, f_nu, BB, if_true, if_false, ite_true, ite_false, ite_self]
  · skip
    rcases eqP (x.Num = 0) with f_nu | f_nu
    · skip
      rcases eqP (x.To = (⟨#[]⟩ : ByteArray)) with f_to | f_to
      · skip
        cases f_nm : nameOkF x.Name
        · simp (maxSteps := 10000000) (disch := first | assumption | omega) only [cNode, F_impl_namesOk, params, EG, EL, ↓reduceIte, Nat.reduceEqDiff, Nat.reduceAdd, Nat.reduceSub, Nat.reduceMul, Nat.reduceLeDiff, Nat.reduceLT, Int.reduceLT, Int.reduceLE, Int.reduceEq, Int.reduceToNat, reduceCtorEq, FB, ED, FT, cx_impl_namesOk, cl_impl_within, sem_impl_within, cl_impl_NameOk, q1, q2, q3, hK, namesB, okName, emptyS, f_nu, f_to, f_nm, BB, if_true, if_false, ite_true, ite_false, ite_self]
        · skip
          rcases eqP (x.More = (⟨#[]⟩ : ByteArray)) with f_mo | f_mo
          · skip
            simp (maxSteps := 10000000) (disch := first | assumption | omega) only [cNode, F_impl_namesOk, params, EG, EL, ↓reduceIte, Nat.reduceEqDiff, Nat.reduceAdd, Nat.reduceSub, Nat.reduceMul, Nat.reduceLeDiff, Nat.reduceLT, Int.reduceLT, Int.reduceLE, Int.reduceEq, Int.reduceToNat, reduceCtorEq, FB, ED, FT, cx_impl_namesOk, cl_impl_within, sem_impl_within, cl_impl_NameOk, q1, q2, q3, hK, namesB, okName, emptyS, f_nu, f_to, f_nm, f_mo, BB, if_true, if_false, ite_true, ite_false, ite_self]
          · simp (maxSteps := 10000000) (disch := first | assumption | omega) only [cNode, F_impl_namesOk, params, EG, EL, ↓reduceIte, Nat.reduceEqDiff, Nat.reduceAdd, Nat.reduceSub, Nat.reduceMul, Nat.reduceLeDiff, Nat.reduceLT, Int.reduceLT, Int.reduceLE, Int.reduceEq, Int.reduceToNat, reduceCtorEq, FB, ED, FT, cx_impl_namesOk, cl_impl_within, sem_impl_within, cl_impl_NameOk, q1, q2, q3, hK, namesB, okName, emptyS, f_nu, f_to, f_nm, f_mo, BB, if_true, if_false, ite_true, ite_false, ite_self]
      · simp (maxSteps := 10000000) (disch := first | assumption | omega) only [cNode, F_impl_namesOk, params, EG, EL, ↓reduceIte, Nat.reduceEqDiff, Nat.reduceAdd, Nat.reduceSub, Nat.reduceMul, Nat.reduceLeDiff, Nat.reduceLT, Int.reduceLT, Int.reduceLE, Int.reduceEq, Int.reduceToNat, reduceCtorEq, FB, ED, FT, cx_impl_namesOk, cl_impl_within, sem_impl_within, cl_impl_NameOk, q1, q2, q3, hK, namesB, okName, emptyS, f_nu, f_to, BB, if_true, if_false, ite_true, ite_false, ite_self]
    · simp (maxSteps := 10000000) (disch := first | assumption | omega) only [cNode, F_impl_namesOk, params, EG, EL, ↓reduceIte, Nat.reduceEqDiff, Nat.reduceAdd, Nat.reduceSub, Nat.reduceMul, Nat.reduceLeDiff, Nat.reduceLT, Int.reduceLT, Int.reduceLE, Int.reduceEq, Int.reduceToNat, reduceCtorEq, FB, ED, FT, cx_impl_namesOk, cl_impl_within, sem_impl_within, cl_impl_NameOk, q1, q2, q3, hK, namesB, okName, emptyS, f_nu, BB, if_true, if_false, ite_true, ite_false, ite_self]
  · skip
    rcases eqP (x.Num = 0) with f_nu | f_nu
    · skip
      rcases eqP (x.To = (⟨#[]⟩ : ByteArray)) with f_to | f_to
      · skip
        rcases eqP (x.Name = (⟨#[]⟩ : ByteArray)) with f_nm | f_nm
        · skip
          rcases eqP (x.More = (⟨#[]⟩ : ByteArray)) with f_mo | f_mo
          · skip
            simp (maxSteps := 10000000) (disch := first | assumption | omega) only [cNode, F_impl_namesOk, params, EG, EL, ↓reduceIte, Nat.reduceEqDiff, Nat.reduceAdd, Nat.reduceSub, Nat.reduceMul, Nat.reduceLeDiff, Nat.reduceLT, Int.reduceLT, Int.reduceLE, Int.reduceEq, Int.reduceToNat, reduceCtorEq, FB, ED, FT, cx_impl_namesOk, cl_impl_within, sem_impl_within, cl_impl_NameOk, q1, q2, q3, hK, namesB, okName, emptyS, f_nu, f_to, f_nm, f_mo, BB, if_true, if_false, ite_true, ite_false, ite_self]
          · simp (maxSteps := 10000000) (disch := first | assumption | omega) only [cNode, F_impl_namesOk, params, EG, EL, ↓reduceIte, Nat.reduceEqDiff, Nat.reduceAdd, Nat.reduceSub, Nat.reduceMul, Nat.reduceLeDiff, Nat.reduceLT, Int.reduceLT, Int.reduceLE, Int.reduceEq, Int.reduceToNat, reduceCtorEq, FB, ED, FT, cx_impl_namesOk, cl_impl_within, sem_impl_within, cl_impl_NameOk, q1, q2, q3, hK, namesB, okName, emptyS, f_nu, f_to, f_nm, f_mo, BB, if_true, if_false, ite_true, ite_false, ite_self]
        · simp (maxSteps := 10000000) (disch := first | assumption | omega) only [cNode, F_impl_namesOk, params, EG, EL, ↓reduceIte, Nat.reduceEqDiff, Nat.reduceAdd, Nat.reduceSub, Nat.reduceMul, Nat.reduceLeDiff, Nat.reduceLT, Int.reduceLT, Int.reduceLE, Int.reduceEq, Int.reduceToNat, reduceCtorEq, FB, ED, FT, cx_impl_namesOk, cl_impl_within, sem_impl_within, cl_impl_NameOk, q1, q2, q3, hK, namesB, okName, emptyS, f_nu, f_to, f_nm, BB, if_true, if_false, ite_true, ite_false, ite_self]
      · simp (maxSteps := 10000000) (disch := first | assumption | omega) only [cNode, F_impl_namesOk, params, EG, EL, ↓reduceIte, Nat.reduceEqDiff, Nat.reduceAdd, Nat.reduceSub, Nat.reduceMul, Nat.reduceLeDiff, Nat.reduceLT, Int.reduceLT, Int.reduceLE, Int.reduceEq, Int.reduceToNat, reduceCtorEq, FB, ED, FT, cx_impl_namesOk, cl_impl_within, sem_impl_within, cl_impl_NameOk, q1, q2, q3, hK, namesB, okName, emptyS, f_nu, f_to, BB, if_true, if_false, ite_true, ite_false, ite_self]
    · simp (maxSteps := 10000000) (disch := first | assumption | omega) only [cNode, F_impl_namesOk, params, EG, EL, ↓reduceIte, Nat.reduceEqDiff, Nat.reduceAdd, Nat.reduceSub, Nat.reduceMul, Nat.reduceLeDiff, Nat.reduceLT, Int.reduceLT, Int.reduceLE, Int.reduceEq, Int.reduceToNat, reduceCtorEq, FB, ED, FT, cx_impl_namesOk, cl_impl_within, sem_impl_within, cl_impl_NameOk, q1, q2, q3, hK, namesB, okName, emptyS, f_nu, BB, if_true, if_false, ite_true, ite_false, ite_self]
  · skip
    rcases eqP (x.Num = 0) with f_nu | f_nu
    · skip
      rcases eqP (x.To = (⟨#[]⟩ : ByteArray)) with f_to | f_to
      · skip
        rcases eqP (x.Name = (⟨#[]⟩ : ByteArray)) with f_nm | f_nm
        · skip
          rcases eqP (x.More = (⟨#[]⟩ : ByteArray)) with f_mo | f_mo
          · skip
            simp (maxSteps := 10000000) (disch := first | assumption | omega) only [cNode, F_impl_namesOk, params, EG, EL, ↓reduceIte, Nat.reduceEqDiff, Nat.reduceAdd, Nat.reduceSub, Nat.reduceMul, Nat.reduceLeDiff, Nat.reduceLT, Int.reduceLT, Int.reduceLE, Int.reduceEq, Int.reduceToNat, reduceCtorEq, FB, ED, FT, cx_impl_namesOk, cl_impl_within, sem_impl_within, cl_impl_NameOk, q1, q2, q3, hK, namesB, okName, emptyS, f_nu, f_to, f_nm, f_mo, BB, if_true, if_false, ite_true, ite_false, ite_self]
          · simp (maxSteps := 10000000) (disch := first | assumption | omega) only [cNode, F_impl_namesOk, params, EG, EL, ↓reduceIte, Nat.reduceEqDiff, Nat.reduceAdd, Nat.reduceSub, Nat.reduceMul, Nat.reduceLeDiff, Nat.reduceLT, Int.reduceLT, Int.reduceLE, Int.reduceEq, Int.reduceToNat, reduceCtorEq, FB, ED, FT, cx_impl_namesOk, cl_impl_within, sem_impl_within, cl_impl_NameOk, q1, q2, q3, hK, namesB, okName, emptyS, f_nu, f_to, f_nm, f_mo, BB, if_true, if_false, ite_true, ite_false, ite_self]
        · simp (maxSteps := 10000000) (disch := first | assumption | omega) only [cNode, F_impl_namesOk, params, EG, EL, ↓reduceIte, Nat.reduceEqDiff, Nat.reduceAdd, Nat.reduceSub, Nat.reduceMul, Nat.reduceLeDiff, Nat.reduceLT, Int.reduceLT, Int.reduceLE, Int.reduceEq, Int.reduceToNat, reduceCtorEq, FB, ED, FT, cx_impl_namesOk, cl_impl_within, sem_impl_within, cl_impl_NameOk, q1, q2, q3, hK, namesB, okName, emptyS, f_nu, f_to, f_nm, BB, if_true, if_false, ite_true, ite_false, ite_self]
      · simp (maxSteps := 10000000) (disch := first | assumption | omega) only [cNode, F_impl_namesOk, params, EG, EL, ↓reduceIte, Nat.reduceEqDiff, Nat.reduceAdd, Nat.reduceSub, Nat.reduceMul, Nat.reduceLeDiff, Nat.reduceLT, Int.reduceLT, Int.reduceLE, Int.reduceEq, Int.reduceToNat, reduceCtorEq, FB, ED, FT, cx_impl_namesOk, cl_impl_within, sem_impl_within, cl_impl_NameOk, q1, q2, q3, hK, namesB, okName, emptyS, f_nu, f_to, BB, if_true, if_false, ite_true, ite_false, ite_self]
    · simp (maxSteps := 10000000) (disch := first | assumption | omega) only [cNode, F_impl_namesOk, params, EG, EL, ↓reduceIte, Nat.reduceEqDiff, Nat.reduceAdd, Nat.reduceSub, Nat.reduceMul, Nat.reduceLeDiff, Nat.reduceLT, Int.reduceLT, Int.reduceLE, Int.reduceEq, Int.reduceToNat, reduceCtorEq, FB, ED, FT, cx_impl_namesOk, cl_impl_within, sem_impl_within, cl_impl_NameOk, q1, q2, q3, hK, namesB, okName, emptyS, f_nu, BB, if_true, if_false, ite_true, ite_false, ite_self]
  · skip
    rcases eqP (x.Num = 0) with f_nu | f_nu
    · skip
      rcases eqP (x.To = (⟨#[]⟩ : ByteArray)) with f_to | f_to
      · skip
        cases f_nm : nameOkF x.Name
        · simp (maxSteps := 10000000) (disch := first | assumption | omega) only [cNode, F_impl_namesOk, params, EG, EL, ↓reduceIte, Nat.reduceEqDiff, Nat.reduceAdd, Nat.reduceSub, Nat.reduceMul, Nat.reduceLeDiff, Nat.reduceLT, Int.reduceLT, Int.reduceLE, Int.reduceEq, Int.reduceToNat, reduceCtorEq, FB, ED, FT, cx_impl_namesOk, cl_impl_within, sem_impl_within, cl_impl_NameOk, q1, q2, q3, hK, namesB, okName, emptyS, f_nu, f_to, f_nm, BB, if_true, if_false, ite_true, ite_false, ite_self]
        · skip
          cases f_mo : nameOkF x.More
          · simp (maxSteps := 10000000) (disch := first | assumption | omega) only [cNode, F_impl_namesOk, params, EG, EL, ↓reduceIte, Nat.reduceEqDiff, Nat.reduceAdd, Nat.reduceSub, Nat.reduceMul, Nat.reduceLeDiff, Nat.reduceLT, Int.reduceLT, Int.reduceLE, Int.reduceEq, Int.reduceToNat, reduceCtorEq, FB, ED, FT, cx_impl_namesOk, cl_impl_within, sem_impl_within, cl_impl_NameOk, q1, q2, q3, hK, namesB, okName, emptyS, f_nu, f_to, f_nm, f_mo, BB, if_true, if_false, ite_true, ite_false, ite_self]
          · skip
            simp (maxSteps := 10000000) (disch := first | assumption | omega) only [cNode, F_impl_namesOk, params, EG, EL, ↓reduceIte, Nat.reduceEqDiff, Nat.reduceAdd, Nat.reduceSub, Nat.reduceMul, Nat.reduceLeDiff, Nat.reduceLT, Int.reduceLT, Int.reduceLE, Int.reduceEq, Int.reduceToNat, reduceCtorEq, FB, ED, FT, cx_impl_namesOk, cl_impl_within, sem_impl_within, cl_impl_NameOk, q1, q2, q3, hK, namesB, okName, emptyS, f_nu, f_to, f_nm, f_mo, BB, if_true, if_false, ite_true, ite_false, ite_self]
      · cases f_t2 : nameOkF x.To
        · simp (maxSteps := 10000000) (disch := first | assumption | omega) only [cNode, F_impl_namesOk, params, EG, EL, ↓reduceIte, Nat.reduceEqDiff, Nat.reduceAdd, Nat.reduceSub, Nat.reduceMul, Nat.reduceLeDiff, Nat.reduceLT, Int.reduceLT, Int.reduceLE, Int.reduceEq, Int.reduceToNat, reduceCtorEq, FB, ED, FT, cx_impl_namesOk, cl_impl_within, sem_impl_within, cl_impl_NameOk, q1, q2, q3, hK, namesB, okName, emptyS, f_nu, f_to, f_t2, BB, if_true, if_false, ite_true, ite_false, ite_self]
        · skip
          cases f_nm : nameOkF x.Name
          · simp (maxSteps := 10000000) (disch := first | assumption | omega) only [cNode, F_impl_namesOk, params, EG, EL, ↓reduceIte, Nat.reduceEqDiff, Nat.reduceAdd, Nat.reduceSub, Nat.reduceMul, Nat.reduceLeDiff, Nat.reduceLT, Int.reduceLT, Int.reduceLE, Int.reduceEq, Int.reduceToNat, reduceCtorEq, FB, ED, FT, cx_impl_namesOk, cl_impl_within, sem_impl_within, cl_impl_NameOk, q1, q2, q3, hK, namesB, okName, emptyS, f_nu, f_to, f_t2, f_nm, BB, if_true, if_false, ite_true, ite_false, ite_self]
          · skip
            cases f_mo : nameOkF x.More
            · simp (maxSteps := 10000000) (disch := first | assumption | omega) only [cNode, F_impl_namesOk, params, EG, EL, ↓reduceIte, Nat.reduceEqDiff, Nat.reduceAdd, Nat.reduceSub, Nat.reduceMul, Nat.reduceLeDiff, Nat.reduceLT, Int.reduceLT, Int.reduceLE, Int.reduceEq, Int.reduceToNat, reduceCtorEq, FB, ED, FT, cx_impl_namesOk, cl_impl_within, sem_impl_within, cl_impl_NameOk, q1, q2, q3, hK, namesB, okName, emptyS, f_nu, f_to, f_t2, f_nm, f_mo, BB, if_true, if_false, ite_true, ite_false, ite_self]
            · skip
              simp (maxSteps := 10000000) (disch := first | assumption | omega) only [cNode, F_impl_namesOk, params, EG, EL, ↓reduceIte, Nat.reduceEqDiff, Nat.reduceAdd, Nat.reduceSub, Nat.reduceMul, Nat.reduceLeDiff, Nat.reduceLT, Int.reduceLT, Int.reduceLE, Int.reduceEq, Int.reduceToNat, reduceCtorEq, FB, ED, FT, cx_impl_namesOk, cl_impl_within, sem_impl_within, cl_impl_NameOk, q1, q2, q3, hK, namesB, okName, emptyS, f_nu, f_to, f_t2, f_nm, f_mo, BB, if_true, if_false, ite_true, ite_false, ite_self]
    · simp (maxSteps := 10000000) (disch := first | assumption | omega) only [cNode, F_impl_namesOk, params, EG, EL, ↓reduceIte, Nat.reduceEqDiff, Nat.reduceAdd, Nat.reduceSub, Nat.reduceMul, Nat.reduceLeDiff, Nat.reduceLT, Int.reduceLT, Int.reduceLE, Int.reduceEq, Int.reduceToNat, reduceCtorEq, FB, ED, FT, cx_impl_namesOk, cl_impl_within, sem_impl_within, cl_impl_NameOk, q1, q2, q3, hK, namesB, okName, emptyS, f_nu, BB, if_true, if_false, ite_true, ite_false, ite_self]
  · skip
    rcases eqP (x.Num = 0) with f_nu | f_nu
    · skip
      rcases eqP (x.To = (⟨#[]⟩ : ByteArray)) with f_to | f_to
      · skip
        rcases eqP (x.Name = (⟨#[]⟩ : ByteArray)) with f_nm | f_nm
        · skip
          rcases eqP (x.More = (⟨#[]⟩ : ByteArray)) with f_mo | f_mo
          · skip
            simp (maxSteps := 10000000) (disch := first | assumption | omega) only [cNode, F_impl_namesOk, params, EG, EL, ↓reduceIte, Nat.reduceEqDiff, Nat.reduceAdd, Nat.reduceSub, Nat.reduceMul, Nat.reduceLeDiff, Nat.reduceLT, Int.reduceLT, Int.reduceLE, Int.reduceEq, Int.reduceToNat, reduceCtorEq, FB, ED, FT, cx_impl_namesOk, cl_impl_within, sem_impl_within, cl_impl_NameOk, q1, q2, q3, hK, namesB, okName, emptyS, f_nu, f_to, f_nm, f_mo, BB, if_true, if_false, ite_true, ite_false, ite_self]
          · simp (maxSteps := 10000000) (disch := first | assumption | omega) only [cNode, F_impl_namesOk, params, EG, EL, ↓reduceIte, Nat.reduceEqDiff, Nat.reduceAdd, Nat.reduceSub, Nat.reduceMul, Nat.reduceLeDiff, Nat.reduceLT, Int.reduceLT, Int.reduceLE, Int.reduceEq, Int.reduceToNat, reduceCtorEq, FB, ED, FT, cx_impl_namesOk, cl_impl_within, sem_impl_within, cl_impl_NameOk, q1, q2, q3, hK, namesB, okName, emptyS, f_nu, f_to, f_nm, f_mo, BB, if_true, if_false, ite_true, ite_false, ite_self]
        · simp (maxSteps := 10000000) (disch := first | assumption | omega) only [cNode, F_impl_namesOk, params, EG, EL, ↓reduceIte, Nat.reduceEqDiff, Nat.reduceAdd, Nat.reduceSub, Nat.reduceMul, Nat.reduceLeDiff, Nat.reduceLT, Int.reduceLT, Int.reduceLE, Int.reduceEq, Int.reduceToNat, reduceCtorEq, FB, ED, FT, cx_impl_namesOk, cl_impl_within, sem_impl_within, cl_impl_NameOk, q1, q2, q3, hK, namesB, okName, emptyS, f_nu, f_to, f_nm, BB, if_true, if_false, ite_true, ite_false, ite_self]
      · simp (maxSteps := 10000000) (disch := first | assumption | omega) only [cNode, F_impl_namesOk, params, EG, EL, ↓reduceIte, Nat.reduceEqDiff, Nat.reduceAdd, Nat.reduceSub, Nat.reduceMul, Nat.reduceLeDiff, Nat.reduceLT, Int.reduceLT, Int.reduceLE, Int.reduceEq, Int.reduceToNat, reduceCtorEq, FB, ED, FT, cx_impl_namesOk, cl_impl_within, sem_impl_within, cl_impl_NameOk, q1, q2, q3, hK, namesB, okName, emptyS, f_nu, f_to, BB, if_true, if_false, ite_true, ite_false, ite_self]
    · simp (maxSteps := 10000000) (disch := first | assumption | omega) only [cNode, F_impl_namesOk, params, EG, EL, ↓reduceIte, Nat.reduceEqDiff, Nat.reduceAdd, Nat.reduceSub, Nat.reduceMul, Nat.reduceLeDiff, Nat.reduceLT, Int.reduceLT, Int.reduceLE, Int.reduceEq, Int.reduceToNat, reduceCtorEq, FB, ED, FT, cx_impl_namesOk, cl_impl_within, sem_impl_within, cl_impl_NameOk, q1, q2, q3, hK, namesB, okName, emptyS, f_nu, BB, if_true, if_false, ite_true, ite_false, ite_self]
  · skip
    rcases eqP (x.Num = 0) with f_nu | f_nu
    · skip
      rcases eqP (x.To = (⟨#[]⟩ : ByteArray)) with f_to | f_to
      · skip
        cases f_nm : nameOkF x.Name
        · simp (maxSteps := 10000000) (disch := first | assumption | omega) only [cNode, F_impl_namesOk, params, EG, EL, ↓reduceIte, Nat.reduceEqDiff, Nat.reduceAdd, Nat.reduceSub, Nat.reduceMul, Nat.reduceLeDiff, Nat.reduceLT, Int.reduceLT, Int.reduceLE, Int.reduceEq, Int.reduceToNat, reduceCtorEq, FB, ED, FT, cx_impl_namesOk, cl_impl_within, sem_impl_within, cl_impl_NameOk, q1, q2, q3, hK, namesB, okName, emptyS, f_nu, f_to, f_nm, BB, if_true, if_false, ite_true, ite_false, ite_self]
        · skip
          rcases eqP (x.More = (⟨#[]⟩ : ByteArray)) with f_mo | f_mo
          · skip
            simp (maxSteps := 10000000) (disch := first | assumption | omega) only [cNode, F_impl_namesOk, params, EG, EL, ↓reduceIte, Nat.reduceEqDiff, Nat.reduceAdd, Nat.reduceSub, Nat.reduceMul, Nat.reduceLeDiff, Nat.reduceLT, Int.reduceLT, Int.reduceLE, Int.reduceEq, Int.reduceToNat, reduceCtorEq, FB, ED, FT, cx_impl_namesOk, cl_impl_within, sem_impl_within, cl_impl_NameOk, q1, q2, q3, hK, namesB, okName, emptyS, f_nu, f_to, f_nm, f_mo, BB, if_true, if_false, ite_true, ite_false, ite_self]
          · simp (maxSteps := 10000000) (disch := first | assumption | omega) only [cNode, F_impl_namesOk, params, EG, EL, ↓reduceIte, Nat.reduceEqDiff, Nat.reduceAdd, Nat.reduceSub, Nat.reduceMul, Nat.reduceLeDiff, Nat.reduceLT, Int.reduceLT, Int.reduceLE, Int.reduceEq, Int.reduceToNat, reduceCtorEq, FB, ED, FT, cx_impl_namesOk, cl_impl_within, sem_impl_within, cl_impl_NameOk, q1, q2, q3, hK, namesB, okName, emptyS, f_nu, f_to, f_nm, f_mo, BB, if_true, if_false, ite_true, ite_false, ite_self]
      · simp (maxSteps := 10000000) (disch := first | assumption | omega) only [cNode, F_impl_namesOk, params, EG, EL, ↓reduceIte, Nat.reduceEqDiff, Nat.reduceAdd, Nat.reduceSub, Nat.reduceMul, Nat.reduceLeDiff, Nat.reduceLT, Int.reduceLT, Int.reduceLE, Int.reduceEq, Int.reduceToNat, reduceCtorEq, FB, ED, FT, cx_impl_namesOk, cl_impl_within, sem_impl_within, cl_impl_NameOk, q1, q2, q3, hK, namesB, okName, emptyS, f_nu, f_to, BB, if_true, if_false, ite_true, ite_false, ite_self]
    · simp (maxSteps := 10000000) (disch := first | assumption | omega) only [cNode, F_impl_namesOk, params, EG, EL, ↓reduceIte, Nat.reduceEqDiff, Nat.reduceAdd, Nat.reduceSub, Nat.reduceMul, Nat.reduceLeDiff, Nat.reduceLT, Int.reduceLT, Int.reduceLE, Int.reduceEq, Int.reduceToNat, reduceCtorEq, FB, ED, FT, cx_impl_namesOk, cl_impl_within, sem_impl_within, cl_impl_NameOk, q1, q2, q3, hK, namesB, okName, emptyS, f_nu, BB, if_true, if_false, ite_true, ite_false, ite_self]
  · skip
    rcases eqP (x.Num = 0) with f_nu | f_nu
    · skip
      rcases eqP (x.To = (⟨#[]⟩ : ByteArray)) with f_to | f_to
      · skip
        cases f_nm : nameOkF x.Name
        · simp (maxSteps := 10000000) (disch := first | assumption | omega) only [cNode, F_impl_namesOk, params, EG, EL, ↓reduceIte, Nat.reduceEqDiff, Nat.reduceAdd, Nat.reduceSub, Nat.reduceMul, Nat.reduceLeDiff, Nat.reduceLT, Int.reduceLT, Int.reduceLE, Int.reduceEq, Int.reduceToNat, reduceCtorEq, FB, ED, FT, cx_impl_namesOk, cl_impl_within, sem_impl_within, cl_impl_NameOk, q1, q2, q3, hK, namesB, okName, emptyS, f_nu, f_to, f_nm, BB, if_true, if_false, ite_true, ite_false, ite_self]
        · skip
          rcases eqP (x.More = (⟨#[]⟩ : ByteArray)) with f_mo | f_mo
          · skip
            simp (maxSteps := 10000000) (disch := first | assumption | omega) only [cNode, F_impl_namesOk, params, EG, EL, ↓reduceIte, Nat.reduceEqDiff, Nat.reduceAdd, Nat.reduceSub, Nat.reduceMul, Nat.reduceLeDiff, Nat.reduceLT, Int.reduceLT, Int.reduceLE, Int.reduceEq, Int.reduceToNat, reduceCtorEq, FB, ED, FT, cx_impl_namesOk, cl_impl_within, sem_impl_within, cl_impl_NameOk, q1, q2, q3, hK, namesB, okName, emptyS, f_nu, f_to, f_nm, f_mo, BB, if_true, if_false, ite_true, ite_false, ite_self]
          · simp (maxSteps := 10000000) (disch := first | assumption | omega) only [cNode, F_impl_namesOk, params, EG, EL, ↓reduceIte, Nat.reduceEqDiff, Nat.reduceAdd, Nat.reduceSub, Nat.reduceMul, Nat.reduceLeDiff, Nat.reduceLT, Int.reduceLT, Int.reduceLE, Int.reduceEq, Int.reduceToNat, reduceCtorEq, FB, ED, FT, cx_impl_namesOk, cl_impl_within, sem_impl_within, cl_impl_NameOk, q1, q2, q3, hK, namesB, okName, emptyS, f_nu, f_to, f_nm, f_mo, BB, if_true, if_false, ite_true, ite_false, ite_self]
      · simp (maxSteps := 10000000) (disch := first | assumption | omega) only [cNode, F_impl_namesOk, params, EG, EL, ↓reduceIte, Nat.reduceEqDiff, Nat.reduceAdd, Nat.reduceSub, Nat.reduceMul, Nat.reduceLeDiff, Nat.reduceLT, Int.reduceLT, Int.reduceLE, Int.reduceEq, Int.reduceToNat, reduceCtorEq, FB, ED, FT, cx_impl_namesOk, cl_impl_within, sem_impl_within, cl_impl_NameOk, q1, q2, q3, hK, namesB, okName, emptyS, f_nu, f_to, BB, if_true, if_false, ite_true, ite_false, ite_self]
    · simp (maxSteps := 10000000) (disch := first | assumption | omega) only [cNode, F_impl_namesOk, params, EG, EL, ↓reduceIte, Nat.reduceEqDiff, Nat.reduceAdd, Nat.reduceSub, Nat.reduceMul, Nat.reduceLeDiff, Nat.reduceLT, Int.reduceLT, Int.reduceLE, Int.reduceEq, Int.reduceToNat, reduceCtorEq, FB, ED, FT, cx_impl_namesOk, cl_impl_within, sem_impl_within, cl_impl_NameOk, q1, q2, q3, hK, namesB, okName, emptyS, f_nu, BB, if_true, if_false, ite_true, ite_false, ite_self]
  · skip
    rcases eqP (x.Num = 0) with f_nu | f_nu
    · skip
      rcases eqP (x.To = (⟨#[]⟩ : ByteArray)) with f_to | f_to
      · skip
        cases f_nm : nameOkF x.Name
        · simp (maxSteps := 10000000) (disch := first | assumption | omega) only [cNode, F_impl_namesOk, params, EG, EL, ↓reduceIte, Nat.reduceEqDiff, Nat.reduceAdd, Nat.reduceSub, Nat.reduceMul, Nat.reduceLeDiff, Nat.reduceLT, Int.reduceLT, Int.reduceLE, Int.reduceEq, Int.reduceToNat, reduceCtorEq, FB, ED, FT, cx_impl_namesOk, cl_impl_within, sem_impl_within, cl_impl_NameOk, q1, q2, q3, hK, namesB, okName, emptyS, f_nu, f_to, f_nm, BB, if_true, if_false, ite_true, ite_false, ite_self]
        · skip
          rcases eqP (x.More = (⟨#[]⟩ : ByteArray)) with f_mo | f_mo
          · skip
            simp (maxSteps := 10000000) (disch := first | assumption | omega) only [cNode, F_impl_namesOk, params, EG, EL, ↓reduceIte, Nat.reduceEqDiff, Nat.reduceAdd, Nat.reduceSub, Nat.reduceMul, Nat.reduceLeDiff, Nat.reduceLT, Int.reduceLT, Int.reduceLE, Int.reduceEq, Int.reduceToNat, reduceCtorEq, FB, ED, FT, cx_impl_namesOk, cl_impl_within, sem_impl_within, cl_impl_NameOk, q1, q2, q3, hK, namesB, okName, emptyS, f_nu, f_to, f_nm, f_mo, BB, if_true, if_false, ite_true, ite_false, ite_self]
          · simp (maxSteps := 10000000) (disch := first | assumption | omega) only [cNode, F_impl_namesOk, params, EG, EL, ↓reduceIte, Nat.reduceEqDiff, Nat.reduceAdd, Nat.reduceSub, Nat.reduceMul, Nat.reduceLeDiff, Nat.reduceLT, Int.reduceLT, Int.reduceLE, Int.reduceEq, Int.reduceToNat, reduceCtorEq, FB, ED, FT, cx_impl_namesOk, cl_impl_within, sem_impl_within, cl_impl_NameOk, q1, q2, q3, hK, namesB, okName, emptyS, f_nu, f_to, f_nm, f_mo, BB, if_true, if_false, ite_true, ite_false, ite_self]
      · simp (maxSteps := 10000000) (disch := first | assumption | omega) only [cNode, F_impl_namesOk, params, EG, EL, ↓reduceIte, Nat.reduceEqDiff, Nat.reduceAdd, Nat.reduceSub, Nat.reduceMul, Nat.reduceLeDiff, Nat.reduceLT, Int.reduceLT, Int.reduceLE, Int.reduceEq, Int.reduceToNat, reduceCtorEq, FB, ED, FT, cx_impl_namesOk, cl_impl_within, sem_impl_within, cl_impl_NameOk, q1, q2, q3, hK, namesB, okName, emptyS, f_nu, f_to, BB, if_true, if_false, ite_true, ite_false, ite_self]
    · simp (maxSteps := 10000000) (disch := first | assumption | omega) only [cNode, F_impl_namesOk, params, EG, EL, ↓reduceIte, Nat.reduceEqDiff, Nat.reduceAdd, Nat.reduceSub, Nat.reduceMul, Nat.reduceLeDiff, Nat.reduceLT, Int.reduceLT, Int.reduceLE, Int.reduceEq, Int.reduceToNat, reduceCtorEq, FB, ED, FT, cx_impl_namesOk, cl_impl_within, sem_impl_within, cl_impl_NameOk, q1, q2, q3, hK, namesB, okName, emptyS, f_nu, BB, if_true, if_false, ite_true, ite_false, ite_self]
  · skip
    rcases eqP (x.Num = 0) with f_nu | f_nu
    · skip
      rcases eqP (x.To = (⟨#[]⟩ : ByteArray)) with f_to | f_to
      · skip
        rcases eqP (x.Name = (⟨#[]⟩ : ByteArray)) with f_nm | f_nm
        · skip
          rcases eqP (x.More = (⟨#[]⟩ : ByteArray)) with f_mo | f_mo
          · skip
            simp (maxSteps := 10000000) (disch := first | assumption | omega) only [cNode, F_impl_namesOk, params, EG, EL, ↓reduceIte, Nat.reduceEqDiff, Nat.reduceAdd, Nat.reduceSub, Nat.reduceMul, Nat.reduceLeDiff, Nat.reduceLT, Int.reduceLT, Int.reduceLE, Int.reduceEq, Int.reduceToNat, reduceCtorEq, FB, ED, FT, cx_impl_namesOk, cl_impl_within, sem_impl_within, cl_impl_NameOk, q1, q2, q3, hK, namesB, okName, emptyS, f_nu, f_to, f_nm, f_mo, BB, if_true, if_false, ite_true, ite_false, ite_self]
          · simp (maxSteps := 10000000) (disch := first | assumption | omega) only [cNode, F_impl_namesOk, params, EG, EL, ↓reduceIte, Nat.reduceEqDiff, Nat.reduceAdd, Nat.reduceSub, Nat.reduceMul, Nat.reduceLeDiff, Nat.reduceLT, Int.reduceLT, Int.reduceLE, Int.reduceEq, Int.reduceToNat, reduceCtorEq, FB, ED, FT, cx_impl_namesOk, cl_impl_within, sem_impl_within, cl_impl_NameOk, q1, q2, q3, hK, namesB, okName, emptyS, f_nu, f_to, f_nm, f_mo, BB, if_true, if_false, ite_true, ite_false, ite_self]
        · simp (maxSteps := 10000000) (disch := first | assumption | omega) only [cNode, F_impl_namesOk, params, EG, EL, ↓reduceIte, Nat.reduceEqDiff, Nat.reduceAdd, Nat.reduceSub, Nat.reduceMul, Nat.reduceLeDiff, Nat.reduceLT, Int.reduceLT, Int.reduceLE, Int.reduceEq, Int.reduceToNat, reduceCtorEq, FB, ED, FT, cx_impl_namesOk, cl_impl_within, sem_impl_within, cl_impl_NameOk, q1, q2, q3, hK, namesB, okName, emptyS, f_nu, f_to, f_nm, BB, if_true, if_false, ite_true, ite_false, ite_self]
      · simp (maxSteps := 10000000) (disch := first | assumption | omega) only [cNode, F_impl_namesOk, params, EG, EL, ↓reduceIte, Nat.reduceEqDiff, Nat.reduceAdd, Nat.reduceSub, Nat.reduceMul, Nat.reduceLeDiff, Nat.reduceLT, Int.reduceLT, Int.reduceLE, Int.reduceEq, Int.reduceToNat, reduceCtorEq, FB, ED, FT, cx_impl_namesOk, cl_impl_within, sem_impl_within, cl_impl_NameOk, q1, q2, q3, hK, namesB, okName, emptyS, f_nu, f_to, BB, if_true, if_false, ite_true, ite_false, ite_self]
    · simp (maxSteps := 10000000) (disch := first | assumption | omega) only [cNode, F_impl_namesOk, params, EG, EL, ↓reduceIte, Nat.reduceEqDiff, Nat.reduceAdd, Nat.reduceSub, Nat.reduceMul, Nat.reduceLeDiff, Nat.reduceLT, Int.reduceLT, Int.reduceLE, Int.reduceEq, Int.reduceToNat, reduceCtorEq, FB, ED, FT, cx_impl_namesOk, cl_impl_within, sem_impl_within, cl_impl_NameOk, q1, q2, q3, hK, namesB, okName, emptyS, f_nu, BB, if_true, if_false, ite_true, ite_false, ite_self]
  · skip
    rcases eqP (x.Num = 0) with f_nu | f_nu
    · skip
      rcases eqP (x.To = (⟨#[]⟩ : ByteArray)) with f_to | f_to
      · skip
        rcases eqP (x.Name = (⟨#[]⟩ : ByteArray)) with f_nm | f_nm
        · skip
          rcases eqP (x.More = (⟨#[]⟩ : ByteArray)) with f_mo | f_mo
          · skip
            simp (maxSteps := 10000000) (disch := first | assumption | omega) only [cNode, F_impl_namesOk, params, EG, EL, ↓reduceIte, Nat.reduceEqDiff, Nat.reduceAdd, Nat.reduceSub, Nat.reduceMul, Nat.reduceLeDiff, Nat.reduceLT, Int.reduceLT, Int.reduceLE, Int.reduceEq, Int.reduceToNat, reduceCtorEq, FB, ED, FT, cx_impl_namesOk, cl_impl_within, sem_impl_within, cl_impl_NameOk, q1, q2, q3, hK, namesB, okName, emptyS, f_nu, f_to, f_nm, f_mo, BB, if_true, if_false, ite_true, ite_false, ite_self]
          · simp (maxSteps := 10000000) (disch := first | assumption | omega) only [cNode, F_impl_namesOk, params, EG, EL, ↓reduceIte, Nat.reduceEqDiff, Nat.reduceAdd, Nat.reduceSub, Nat.reduceMul, Nat.reduceLeDiff, Nat.reduceLT, Int.reduceLT, Int.reduceLE, Int.reduceEq, Int.reduceToNat, reduceCtorEq, FB, ED, FT, cx_impl_namesOk, cl_impl_within, sem_impl_within, cl_impl_NameOk, q1, q2, q3, hK, namesB, okName, emptyS, f_nu, f_to, f_nm, f_mo, BB, if_true, if_false, ite_true, ite_false, ite_self]
        · simp (maxSteps := 10000000) (disch := first | assumption | omega) only [cNode, F_impl_namesOk, params, EG, EL, ↓reduceIte, Nat.reduceEqDiff, Nat.reduceAdd, Nat.reduceSub, Nat.reduceMul, Nat.reduceLeDiff, Nat.reduceLT, Int.reduceLT, Int.reduceLE, Int.reduceEq, Int.reduceToNat, reduceCtorEq, FB, ED, FT, cx_impl_namesOk, cl_impl_within, sem_impl_within, cl_impl_NameOk, q1, q2, q3, hK, namesB, okName, emptyS, f_nu, f_to, f_nm, BB, if_true, if_false, ite_true, ite_false, ite_self]
      · simp (maxSteps := 10000000) (disch := first | assumption | omega) only [cNode, F_impl_namesOk, params, EG, EL, ↓reduceIte, Nat.reduceEqDiff, Nat.reduceAdd, Nat.reduceSub, Nat.reduceMul, Nat.reduceLeDiff, Nat.reduceLT, Int.reduceLT, Int.reduceLE, Int.reduceEq, Int.reduceToNat, reduceCtorEq, FB, ED, FT, cx_impl_namesOk, cl_impl_within, sem_impl_within, cl_impl_NameOk, q1, q2, q3, hK, namesB, okName, emptyS, f_nu, f_to, BB, if_true, if_false, ite_true, ite_false, ite_self]
    · simp (maxSteps := 10000000) (disch := first | assumption | omega) only [cNode, F_impl_namesOk, params, EG, EL, ↓reduceIte, Nat.reduceEqDiff, Nat.reduceAdd, Nat.reduceSub, Nat.reduceMul, Nat.reduceLeDiff, Nat.reduceLT, Int.reduceLT, Int.reduceLE, Int.reduceEq, Int.reduceToNat, reduceCtorEq, FB, ED, FT, cx_impl_namesOk, cl_impl_within, sem_impl_within, cl_impl_NameOk, q1, q2, q3, hK, namesB, okName, emptyS, f_nu, BB, if_true, if_false, ite_true, ite_false, ite_self]
theorem loop1_spec_NodeOk (p : DProgram) (k : Nat) (x : DNode) (i : Nat) (hx : x.Kids.length ≤ 1099511627776) (hi : i < x.Kids.length) : loopV X_spec_NodeOk 0 [1, 2, 5, 6, 7] [(3, [1, 2, 5, 6]), (0, [4])] B1_spec_NodeOk ⟨[(1, .int .i64 (k : Int)), (2, .ptr ⟨0, none, 0⟩ 3 0 0), (5, .ptr ⟨1, none, 0⟩ 6 0 0), (6, .int .i64 (i : Int)), (7, .int .i64 0)], [some ⟨true, 0, 3, [[.tree 6 (p.Nodes.map cNode), .tree 4 (p.Monitors.map cMonitor), .tree 4 (p.Processes.map cProcess)]]⟩, some ⟨true, 0, 6, [[.int .i64 x.Kind, .int .i64 x.Num, .str x.Name, .str x.More, .str x.To, .tree 1 (x.Kids.map cI)]]⟩]⟩ = okR (decide (x.Kids.getD i 0 ∉ x.Kids.take i)) 2 ⟨[(1, .int .i64 (k : Int)), (2, .ptr ⟨0, none, 0⟩ 3 0 0), (5, .ptr ⟨1, none, 0⟩ 6 0 0), (6, .int .i64 (i : Int))], [some ⟨true, 0, 3, [[.tree 6 (p.Nodes.map cNode), .tree 4 (p.Monitors.map cMonitor), .tree 4 (p.Processes.map cProcess)]]⟩, some ⟨true, 0, 6, [[.int .i64 x.Kind, .int .i64 x.Num, .str x.Name, .str x.More, .str x.To, .tree 1 (x.Kids.map cI)]]⟩]⟩ 4 := by
  have hlen : (x.Kids.take i).length = i := by rw [List.length_take]; omega
  have hi' : (i : Int) < (x.Kids.length : Int) := by omega
  have hgi := getRowI x.Kids hi
  generalize x.Kids.getD i 0 = y at hgi ⊢
  refine loop_list (x.Kids.take i) (fun _ (_ : Unit) => True) (fun j _ => ⟨[(1, .int .i64 (k : Int)), (2, .ptr ⟨0, none, 0⟩ 3 0 0), (5, .ptr ⟨1, none, 0⟩ 6 0 0), (6, .int .i64 (i : Int)), (7, .int .i64 ((j : Nat) : Int))], [some ⟨true, 0, 3, [[.tree 6 (p.Nodes.map cNode), .tree 4 (p.Monitors.map cMonitor), .tree 4 (p.Processes.map cProcess)]]⟩, some ⟨true, 0, 6, [[.int .i64 x.Kind, .int .i64 x.Num, .str x.Name, .str x.More, .str x.To, .tree 1 (x.Kids.map cI)]]⟩]⟩) (fun rest _ => okR (decide (y ∉ rest)) 2 ⟨[(1, .int .i64 (k : Int)), (2, .ptr ⟨0, none, 0⟩ 3 0 0), (5, .ptr ⟨1, none, 0⟩ 6 0 0), (6, .int .i64 (i : Int))], [some ⟨true, 0, 3, [[.tree 6 (p.Nodes.map cNode), .tree 4 (p.Monitors.map cMonitor), .tree 4 (p.Processes.map cProcess)]]⟩, some ⟨true, 0, 6, [[.int .i64 x.Kind, .int .i64 x.Num, .str x.Name, .str x.More, .str x.To, .tree 1 (x.Kids.map cI)]]⟩]⟩ 4) ?_ ?_ () trivial
  · intro _ _
    rw [hlen, loopV_by B1_spec_NodeOk.eq_1]
    simp only [EG, EL, ↓reduceIte, Nat.reduceEqDiff, Nat.reduceAdd, Nat.reduceSub, Nat.reduceMul, Nat.reduceLeDiff, Nat.reduceLT, Int.reduceLT, Int.reduceLE, Int.reduceEq, Int.reduceToNat, reduceCtorEq, FB, ED, int_lt_irrefl, List.not_mem_nil, not_false_eq_true, decide_true, okR_true]
  · rintro j hj0 z rest _ rfl rfl _ ih
    have hj1 : j < i := by rw [hlen] at hj0; exact hj0
    have hj : (j : Int) < (i : Int) := by omega
    have hj2 : j < x.Kids.length := by omega
    have hj3 : (j : Int) < (x.Kids.length : Int) := by omega
    have hgj := getRowI x.Kids hj2
    have hge : (x.Kids.take i)[j] = x.Kids.getD j 0 := by rw [List.getElem_take]; simp [hj2]
    have i1 := ih () trivial
    rw [loopV_by B1_spec_NodeOk.eq_1, hge]
    generalize x.Kids.getD j 0 = z at hgj ⊢
    rcases eqP (y = z) with he | he
    · have hm : (y ∉ z :: ((x.Kids.take i).drop (j + 1))) = False := eq_false (by simp [of_eq_true he])
      simp (maxSteps := 10000000) (disch := first | assumption | omega) only [EG, EL, ↓reduceIte, Nat.reduceEqDiff, Nat.reduceAdd, Nat.reduceSub, Nat.reduceMul, Nat.reduceLeDiff, Nat.reduceLT, Int.reduceLT, Int.reduceLE, Int.reduceEq, Int.reduceToNat, reduceCtorEq, FB, ED, hi, hi', hgi, hj, hj2, hj3, hgj, he, hm, decide_true, decide_false, okR_false, wrap_succ]
    · have hm : (y ∉ z :: ((x.Kids.take i).drop (j + 1))) = (y ∉ (x.Kids.take i).drop (j + 1)) := by
        have h2 : ¬ (y = z) := of_eq_false he
        simp [h2]
      simp (maxSteps := 10000000) (disch := first | assumption | omega) only [EG, EL, ↓reduceIte, Nat.reduceEqDiff, Nat.reduceAdd, Nat.reduceSub, Nat.reduceMul, Nat.reduceLeDiff, Nat.reduceLT, Int.reduceLT, Int.reduceLE, Int.reduceEq, Int.reduceToNat, reduceCtorEq, FB, ED, hi, hi', hgi, hj, hj2, hj3, hgj, he, hm, decide_true, decide_false, wrap_succ, i1]
theorem loop0_spec_NodeOk (p : DProgram) (k : Nat) (x : DNode) (hx : x.Kids.length ≤ 1099511627776) : loopV X_spec_NodeOk 0 [1, 2, 5, 6] [(1, [1, 2, 5]), (0, [4])] B0_spec_NodeOk ⟨[(1, .int .i64 (k : Int)), (2, .ptr ⟨0, none, 0⟩ 3 0 0), (5, .ptr ⟨1, none, 0⟩ 6 0 0), (6, .int .i64 0)], [some ⟨true, 0, 3, [[.tree 6 (p.Nodes.map cNode), .tree 4 (p.Monitors.map cMonitor), .tree 4 (p.Processes.map cProcess)]]⟩, some ⟨true, 0, 6, [[.int .i64 x.Kind, .int .i64 x.Num, .str x.Name, .str x.More, .str x.To, .tree 1 (x.Kids.map cI)]]⟩]⟩ = okR (freshL [] x.Kids) 0 ⟨[(1, .int .i64 (k : Int)), (2, .ptr ⟨0, none, 0⟩ 3 0 0), (5, .ptr ⟨1, none, 0⟩ 6 0 0)], [some ⟨true, 0, 3, [[.tree 6 (p.Nodes.map cNode), .tree 4 (p.Monitors.map cMonitor), .tree 4 (p.Processes.map cProcess)]]⟩, some ⟨true, 0, 6, [[.int .i64 x.Kind, .int .i64 x.Num, .str x.Name, .str x.More, .str x.To, .tree 1 (x.Kids.map cI)]]⟩]⟩ 4 := by
  refine loop_list x.Kids (fun i (a : List Int) => a = x.Kids.take i) (fun i _ => ⟨[(1, .int .i64 (k : Int)), (2, .ptr ⟨0, none, 0⟩ 3 0 0), (5, .ptr ⟨1, none, 0⟩ 6 0 0), (6, .int .i64 ((i : Nat) : Int))], [some ⟨true, 0, 3, [[.tree 6 (p.Nodes.map cNode), .tree 4 (p.Monitors.map cMonitor), .tree 4 (p.Processes.map cProcess)]]⟩, some ⟨true, 0, 6, [[.int .i64 x.Kind, .int .i64 x.Num, .str x.Name, .str x.More, .str x.To, .tree 1 (x.Kids.map cI)]]⟩]⟩) (fun rest a => okR (freshL a rest) 0 ⟨[(1, .int .i64 (k : Int)), (2, .ptr ⟨0, none, 0⟩ 3 0 0), (5, .ptr ⟨1, none, 0⟩ 6 0 0)], [some ⟨true, 0, 3, [[.tree 6 (p.Nodes.map cNode), .tree 4 (p.Monitors.map cMonitor), .tree 4 (p.Processes.map cProcess)]]⟩, some ⟨true, 0, 6, [[.int .i64 x.Kind, .int .i64 x.Num, .str x.Name, .str x.More, .str x.To, .tree 1 (x.Kids.map cI)]]⟩]⟩ 4) ?_ ?_ [] (by simp)
  · intro _ _
    rw [loopV_by B0_spec_NodeOk.eq_1]
    simp only [EG, EL, ↓reduceIte, Nat.reduceEqDiff, Nat.reduceAdd, Nat.reduceSub, Nat.reduceMul, Nat.reduceLeDiff, Nat.reduceLT, Int.reduceLT, Int.reduceLE, Int.reduceEq, Int.reduceToNat, reduceCtorEq, FB, ED, int_lt_irrefl, freshL, okR_true]
  · rintro i hi0 y rest a rfl rfl rfl ih
    have hi : (i : Int) < (x.Kids.length : Int) := by omega
    have hge : x.Kids[i] = x.Kids.getD i 0 := by simp [hi0]
    have i1 := ih (x.Kids.take i ++ [x.Kids[i]]) (by rw [List.take_succ_eq_append_getElem hi0])
    have l1 := loop1_spec_NodeOk p k x i hx hi0
    rw [hge] at i1 ⊢
    rw [loopV_by B0_spec_NodeOk.eq_1]
    unfold freshL
    rcases eqP (x.Kids.getD i 0 ∉ x.Kids.take i) with hm | hm
    · simp only [hm, decide_true, okR_true] at l1
      simp (maxSteps := 10000000) (disch := first | assumption | omega) only [EG, EL, ↓reduceIte, Nat.reduceEqDiff, Nat.reduceAdd, Nat.reduceSub, Nat.reduceMul, Nat.reduceLeDiff, Nat.reduceLT, Int.reduceLT, Int.reduceLE, Int.reduceEq, Int.reduceToNat, reduceCtorEq, FB, ED, hi, hi0, hm, l1, decide_true, Bool.true_and, wrap_succ, i1]
    · simp only [hm, decide_false, okR_false] at l1
      simp (maxSteps := 10000000) (disch := first | assumption | omega) only [EG, EL, ↓reduceIte, Nat.reduceEqDiff, Nat.reduceAdd, Nat.reduceSub, Nat.reduceMul, Nat.reduceLeDiff, Nat.reduceLT, Int.reduceLT, Int.reduceLE, Int.reduceEq, Int.reduceToNat, reduceCtorEq, FB, ED, hi, hi0, hm, l1, decide_false, Bool.false_and, wrap_succ, okR_false]
set_option maxHeartbeats 4000000 in
theorem sem_spec_NodeOk (p : DProgram) (hp : gdN p) (y : Int) : S_spec_NodeOk.sem [.agg (cProgram p), .int .i64 y] = some (.bool (nodeOkF p.Nodes y), []) := by
  have h0 := hp.1
  have hw : IntKind.wrap .i64 ((p.Nodes.length : Int) - 1) = (p.Nodes.length : Int) - 1 := wrapI (by omega) (by omega)
  rw [sg_spec_NodeOk, sem_go]
  unfold nodeOkF
  rcases eqP (0 ≤ y ∧ y ≤ (p.Nodes.length : Int) - 1) with h | h
  · have hy := of_eq_true h
    obtain ⟨k, rfl⟩ : ∃ n : Nat, y = (n : Int) := ⟨y.toNat, by omega⟩
    have hk : k < p.Nodes.length := by omega
    have hk' : (k : Int) < (p.Nodes.length : Int) := by omega
    have hkn : ((k : Int) ≤ (p.Nodes.length : Int) - 1) = True := eq_true (by omega)
    have hg := getRowN p.Nodes hk
    have hgd := gdN_get hp hk
    have lp := loop0_spec_NodeOk p k (ndF p.Nodes k) hgd.1
    have hkk := sem_spec_l05Kids p hp k hk
    have q1 := sem_spec_NameOk (ndF p.Nodes k).Name hgd.2.1
    have q2 := sem_spec_NameOk (ndF p.Nodes k).More hgd.2.2.1
    have q3 := sem_spec_NameOk (ndF p.Nodes k).To hgd.2.2.2
    rw [Int.toNat_natCast]
    unfold nodeB
    generalize ndF p.Nodes k = x at *
    simp only [cProgram] at hkk
    cases hf : freshL [] x.Kids
    · rw [hf, okR_false] at lp
      simp (maxSteps := 10000000) (disch := first | assumption | omega) only [cProgram, cNode, F_spec_NodeOk, params, EG, EL, ↓reduceIte, Nat.reduceEqDiff, Nat.reduceAdd, Nat.reduceSub, Nat.reduceMul, Nat.reduceLeDiff, Nat.reduceLT, Int.reduceLT, Int.reduceLE, Int.reduceEq, Int.reduceToNat, reduceCtorEq, FB, ED, FT, cx_spec_NodeOk, cl_spec_l01In, sem_spec_l01In, hw, h, hkn, hk, hk', hg, lp, BB, if_true, if_false, ite_true, ite_false, ite_self]
    rw [hf, okR_true] at lp
    cases hkd : kindB x.Kind
    · have hv : isValK x.Kind = false := by unfold kindB at hkd; revert hkd; cases isValK x.Kind <;> simp
      have hs : isStmK x.Kind = false := by unfold kindB at hkd; revert hkd; cases isStmK x.Kind <;> simp
      have hb : (x.Kind = 20) = False := by unfold kindB isBlkK at hkd; revert hkd; rcases eqP (x.Kind = 20) with e | e <;> simp [e]
      simp (maxSteps := 10000000) (disch := first | assumption | omega) only [cProgram, cNode, F_spec_NodeOk, params, EG, EL, ↓reduceIte, Nat.reduceEqDiff, Nat.reduceAdd, Nat.reduceSub, Nat.reduceMul, Nat.reduceLeDiff, Nat.reduceLT, Int.reduceLT, Int.reduceLE, Int.reduceEq, Int.reduceToNat, reduceCtorEq, FB, ED, FT, cx_spec_NodeOk, cl_spec_l01In, sem_spec_l01In, hw, h, hkn, hk, hk', hg, lp, cl_spec_l05Value, sem_spec_l05Value, cl_spec_l05Statement, sem_spec_l05Statement, hv, hs, hb, ne_eq, BB, if_true, if_false, ite_true, ite_false, ite_self]
    replace hkk := hkk hkd
    rcases kind15 hkd with hK | hK | hK | hK | hK | hK | hK | hK | hK | hK | hK | hK | hK | hK | hK
    · have v1 : isValK 1 = true := by decide
      have v2 : isStmK 1 = false := by decide
      rw [hK] at hkk hkd lp
      cases hq : kidsF p.Nodes k 1 x.Kids
      all_goals rw [hq] at hkk
      · simp (maxSteps := 10000000) (disch := first | assumption | omega) only [cProgram, cNode, F_spec_NodeOk, params, EG, EL, ↓reduceIte, Nat.reduceEqDiff, Nat.reduceAdd, Nat.reduceSub, Nat.reduceMul, Nat.reduceLeDiff, Nat.reduceLT, Int.reduceLT, Int.reduceLE, Int.reduceEq, Int.reduceToNat, reduceCtorEq, FB, ED, FT, cx_spec_NodeOk, cl_spec_l01In, sem_spec_l01In, hw, h, hkn, hk, hk', hg, lp, cl_spec_l05Value, sem_spec_l05Value, cl_spec_l05Statement, sem_spec_l05Statement, cl_spec_l05Kids, hkk, cl_spec_NameOk, q1, q2, q3, v1, v2, hK, hf, hq, ne_eq, namesB, okName, emptyS, hkd, BB, if_true, if_false, ite_true, ite_false, ite_self]
      · skip
        rcases eqP (x.Name = (⟨#[]⟩ : ByteArray)) with f_nm | f_nm
        · skip
          rcases eqP (x.More = (⟨#[]⟩ : ByteArray)) with f_mo | f_mo
          · skip
            rcases eqP (x.To = (⟨#[]⟩ : ByteArray)) with f_to | f_to
            · skip
              rcases eqP (0 ≤ x.Num ∧ x.Num ≤ 1000000) with f_nu | f_nu
              · skip
                simp (maxSteps := 10000000) (disch := first | assumption | omega) only [cProgram, cNode, F_spec_NodeOk, params, EG, EL, ↓reduceIte, Nat.reduceEqDiff, Nat.reduceAdd, Nat.reduceSub, Nat.reduceMul, Nat.reduceLeDiff, Nat.reduceLT, Int.reduceLT, Int.reduceLE, Int.reduceEq, Int.reduceToNat, reduceCtorEq, FB, ED, FT, cx_spec_NodeOk, cl_spec_l01In, sem_spec_l01In, hw, h, hkn, hk, hk', hg, lp, cl_spec_l05Value, sem_spec_l05Value, cl_spec_l05Statement, sem_spec_l05Statement, cl_spec_l05Kids, hkk, cl_spec_NameOk, q1, q2, q3, v1, v2, hK, hf, hq, ne_eq, namesB, okName, emptyS, f_nm, f_mo, f_to, f_nu, hkd, BB, if_true, if_false, ite_true, ite_false, ite_self]
              · simp (maxSteps := 10000000) (disch := first | assumption | omega) only [cProgram, cNode, F_spec_NodeOk, params, EG, EL, ↓reduceIte, Nat.reduceEqDiff, Nat.reduceAdd, Nat.reduceSub, Nat.reduceMul, Nat.reduceLeDiff, Nat.reduceLT, Int.reduceLT, Int.reduceLE, Int.reduceEq, Int.reduceToNat, reduceCtorEq, FB, ED, FT, cx_spec_NodeOk, cl_spec_l01In, sem_spec_l01In, hw, h, hkn, hk, hk', hg, lp, cl_spec_l05Value, sem_spec_l05Value, cl_spec_l05Statement, sem_spec_l05Statement, cl_spec_l05Kids, hkk, cl_spec_NameOk, q1, q2, q3, v1, v2, hK, hf, hq, ne_eq, namesB, okName, emptyS, f_nm, f_mo, f_to, f_nu, hkd, BB, if_true, if_false, ite_true, ite_false, ite_self]
            · simp (maxSteps := 10000000) (disch := first | assumption | omega) only [cProgram, cNode, F_spec_NodeOk, params, EG, EL, ↓reduceIte, Nat.reduceEqDiff, Nat.reduceAdd, Nat.reduceSub, Nat.reduceMul, Nat.reduceLeDiff, Nat.reduceLT, Int.reduceLT, Int.reduceLE, Int.reduceEq, Int.reduceToNat, reduceCtorEq, FB, ED, FT, cx_spec_NodeOk, cl_spec_l01In, sem_spec_l01In, hw, h, hkn, hk, hk', hg, lp, cl_spec_l05Value, sem_spec_l05Value, cl_spec_l05Statement, sem_spec_l05Statement, cl_spec_l05Kids, hkk, cl_spec_NameOk, q1, q2, q3, v1, v2, hK, hf, hq, ne_eq, namesB, okName, emptyS, f_nm, f_mo, f_to, hkd, BB, if_true, if_false, ite_true, ite_false, ite_self]
          · simp (maxSteps := 10000000) (disch := first | assumption | omega) only [cProgram, cNode, F_spec_NodeOk, params, EG, EL, ↓reduceIte, Nat.reduceEqDiff, Nat.reduceAdd, Nat.reduceSub, Nat.reduceMul, Nat.reduceLeDiff, Nat.reduceLT, Int.reduceLT, Int.reduceLE, Int.reduceEq, Int.reduceToNat, reduceCtorEq, FB, ED, FT, cx_spec_NodeOk, cl_spec_l01In, sem_spec_l01In, hw, h, hkn, hk, hk', hg, lp, cl_spec_l05Value, sem_spec_l05Value, cl_spec_l05Statement, sem_spec_l05Statement, cl_spec_l05Kids, hkk, cl_spec_NameOk, q1, q2, q3, v1, v2, hK, hf, hq, ne_eq, namesB, okName, emptyS, f_nm, f_mo, hkd, BB, if_true, if_false, ite_true, ite_false, ite_self]
        · simp (maxSteps := 10000000) (disch := first | assumption | omega) only [cProgram, cNode, F_spec_NodeOk, params, EG, EL, ↓reduceIte, Nat.reduceEqDiff, Nat.reduceAdd, Nat.reduceSub, Nat.reduceMul, Nat.reduceLeDiff, Nat.reduceLT, Int.reduceLT, Int.reduceLE, Int.reduceEq, Int.reduceToNat, reduceCtorEq, FB, ED, FT, cx_spec_NodeOk, cl_spec_l01In, sem_spec_l01In, hw, h, hkn, hk, hk', hg, lp, cl_spec_l05Value, sem_spec_l05Value, cl_spec_l05Statement, sem_spec_l05Statement, cl_spec_l05Kids, hkk, cl_spec_NameOk, q1, q2, q3, v1, v2, hK, hf, hq, ne_eq, namesB, okName, emptyS, f_nm, hkd, BB, if_true, if_false, ite_true, ite_false, ite_self]
    · have v1 : isValK 2 = true := by decide
      have v2 : isStmK 2 = false := by decide
      rw [hK] at hkk hkd lp
      cases hq : kidsF p.Nodes k 2 x.Kids
      all_goals rw [hq] at hkk
      · simp (maxSteps := 10000000) (disch := first | assumption | omega) only [cProgram, cNode, F_spec_NodeOk, params, EG, EL, ↓reduceIte, Nat.reduceEqDiff, Nat.reduceAdd, Nat.reduceSub, Nat.reduceMul, Nat.reduceLeDiff, Nat.reduceLT, Int.reduceLT, Int.reduceLE, Int.reduceEq, Int.reduceToNat, reduceCtorEq, FB, ED, FT, cx_spec_NodeOk, cl_spec_l01In, sem_spec_l01In, hw, h, hkn, hk, hk', hg, lp, cl_spec_l05Value, sem_spec_l05Value, cl_spec_l05Statement, sem_spec_l05Statement, cl_spec_l05Kids, hkk, cl_spec_NameOk, q1, q2, q3, v1, v2, hK, hf, hq, ne_eq, namesB, okName, emptyS, hkd, BB, if_true, if_false, ite_true, ite_false, ite_self]
      · skip
        cases f_nm : nameOkF x.Name
        · simp (maxSteps := 10000000) (disch := first | assumption | omega) only [cProgram, cNode, F_spec_NodeOk, params, EG, EL, ↓reduceIte, Nat.reduceEqDiff, Nat.reduceAdd, Nat.reduceSub, Nat.reduceMul, Nat.reduceLeDiff, Nat.reduceLT, Int.reduceLT, Int.reduceLE, Int.reduceEq, Int.reduceToNat, reduceCtorEq, FB, ED, FT, cx_spec_NodeOk, cl_spec_l01In, sem_spec_l01In, hw, h, hkn, hk, hk', hg, lp, cl_spec_l05Value, sem_spec_l05Value, cl_spec_l05Statement, sem_spec_l05Statement, cl_spec_l05Kids, hkk, cl_spec_NameOk, q1, q2, q3, v1, v2, hK, hf, hq, ne_eq, namesB, okName, emptyS, f_nm, hkd, BB, if_true, if_false, ite_true, ite_false, ite_self]
        · skip
          rcases eqP (x.More = (⟨#[]⟩ : ByteArray)) with f_mo | f_mo
          · skip
            rcases eqP (x.To = (⟨#[]⟩ : ByteArray)) with f_to | f_to
            · skip
              rcases eqP (x.Num = 0) with f_nu | f_nu
              · skip
                simp (maxSteps := 10000000) (disch := first | assumption | omega) only [cProgram, cNode, F_spec_NodeOk, params, EG, EL, ↓reduceIte, Nat.reduceEqDiff, Nat.reduceAdd, Nat.reduceSub, Nat.reduceMul, Nat.reduceLeDiff, Nat.reduceLT, Int.reduceLT, Int.reduceLE, Int.reduceEq, Int.reduceToNat, reduceCtorEq, FB, ED, FT, cx_spec_NodeOk, cl_spec_l01In, sem_spec_l01In, hw, h, hkn, hk, hk', hg, lp, cl_spec_l05Value, sem_spec_l05Value, cl_spec_l05Statement, sem_spec_l05Statement, cl_spec_l05Kids, hkk, cl_spec_NameOk, q1, q2, q3, v1, v2, hK, hf, hq, ne_eq, namesB, okName, emptyS, f_nm, f_mo, f_to, f_nu, hkd, BB, if_true, if_false, ite_true, ite_false, ite_self]
              · simp (maxSteps := 10000000) (disch := first | assumption | omega) only [cProgram, cNode, F_spec_NodeOk, params, EG, EL, ↓reduceIte, Nat.reduceEqDiff, Nat.reduceAdd, Nat.reduceSub, Nat.reduceMul, Nat.reduceLeDiff, Nat.reduceLT, Int.reduceLT, Int.reduceLE, Int.reduceEq, Int.reduceToNat, reduceCtorEq, FB, ED, FT, cx_spec_NodeOk, cl_spec_l01In, sem_spec_l01In, hw, h, hkn, hk, hk', hg, lp, cl_spec_l05Value, sem_spec_l05Value, cl_spec_l05Statement, sem_spec_l05Statement, cl_spec_l05Kids, hkk, cl_spec_NameOk, q1, q2, q3, v1, v2, hK, hf, hq, ne_eq, namesB, okName, emptyS, f_nm, f_mo, f_to, f_nu, hkd, BB, if_true, if_false, ite_true, ite_false, ite_self]
            · simp (maxSteps := 10000000) (disch := first | assumption | omega) only [cProgram, cNode, F_spec_NodeOk, params, EG, EL, ↓reduceIte, Nat.reduceEqDiff, Nat.reduceAdd, Nat.reduceSub, Nat.reduceMul, Nat.reduceLeDiff, Nat.reduceLT, Int.reduceLT, Int.reduceLE, Int.reduceEq, Int.reduceToNat, reduceCtorEq, FB, ED, FT, cx_spec_NodeOk, cl_spec_l01In, sem_spec_l01In, hw, h, hkn, hk, hk', hg, lp, cl_spec_l05Value, sem_spec_l05Value, cl_spec_l05Statement, sem_spec_l05Statement, cl_spec_l05Kids, hkk, cl_spec_NameOk, q1, q2, q3, v1, v2, hK, hf, hq, ne_eq, namesB, okName, emptyS, f_nm, f_mo, f_to, hkd, BB, if_true, if_false, ite_true, ite_false, ite_self]
          · simp (maxSteps := 10000000) (disch := first | assumption | omega) only [cProgram, cNode, F_spec_NodeOk, params, EG, EL, ↓reduceIte, Nat.reduceEqDiff, Nat.reduceAdd, Nat.reduceSub, Nat.reduceMul, Nat.reduceLeDiff, Nat.reduceLT, Int.reduceLT, Int.reduceLE, Int.reduceEq, Int.reduceToNat, reduceCtorEq, FB, ED, FT, cx_spec_NodeOk, cl_spec_l01In, sem_spec_l01In, hw, h, hkn, hk, hk', hg, lp, cl_spec_l05Value, sem_spec_l05Value, cl_spec_l05Statement, sem_spec_l05Statement, cl_spec_l05Kids, hkk, cl_spec_NameOk, q1, q2, q3, v1, v2, hK, hf, hq, ne_eq, namesB, okName, emptyS, f_nm, f_mo, hkd, BB, if_true, if_false, ite_true, ite_false, ite_self]
    · have v1 : isValK 3 = true := by decide
      have v2 : isStmK 3 = false := by decide
      rw [hK] at hkk hkd lp
      cases hq : kidsF p.Nodes k 3 x.Kids
      all_goals rw [hq] at hkk
      · simp (maxSteps := 10000000) (disch := first | assumption | omega) only [cProgram, cNode, F_spec_NodeOk, params, EG, EL, ↓reduceIte, Nat.reduceEqDiff, Nat.reduceAdd, Nat.reduceSub, Nat.reduceMul, Nat.reduceLeDiff, Nat.reduceLT, Int.reduceLT, Int.reduceLE, Int.reduceEq, Int.reduceToNat, reduceCtorEq, FB, ED, FT, cx_spec_NodeOk, cl_spec_l01In, sem_spec_l01In, hw, h, hkn, hk, hk', hg, lp, cl_spec_l05Value, sem_spec_l05Value, cl_spec_l05Statement, sem_spec_l05Statement, cl_spec_l05Kids, hkk, cl_spec_NameOk, q1, q2, q3, v1, v2, hK, hf, hq, ne_eq, namesB, okName, emptyS, hkd, BB, if_true, if_false, ite_true, ite_false, ite_self]
      · skip
        rcases eqP (x.Name = (⟨#[]⟩ : ByteArray)) with f_nm | f_nm
        · skip
          rcases eqP (x.More = (⟨#[]⟩ : ByteArray)) with f_mo | f_mo
          · skip
            rcases eqP (x.To = (⟨#[]⟩ : ByteArray)) with f_to | f_to
            · skip
              rcases eqP (1 ≤ x.Num ∧ x.Num ≤ 9) with f_nu | f_nu
              · skip
                simp (maxSteps := 10000000) (disch := first | assumption | omega) only [cProgram, cNode, F_spec_NodeOk, params, EG, EL, ↓reduceIte, Nat.reduceEqDiff, Nat.reduceAdd, Nat.reduceSub, Nat.reduceMul, Nat.reduceLeDiff, Nat.reduceLT, Int.reduceLT, Int.reduceLE, Int.reduceEq, Int.reduceToNat, reduceCtorEq, FB, ED, FT, cx_spec_NodeOk, cl_spec_l01In, sem_spec_l01In, hw, h, hkn, hk, hk', hg, lp, cl_spec_l05Value, sem_spec_l05Value, cl_spec_l05Statement, sem_spec_l05Statement, cl_spec_l05Kids, hkk, cl_spec_NameOk, q1, q2, q3, v1, v2, hK, hf, hq, ne_eq, namesB, okName, emptyS, f_nm, f_mo, f_to, f_nu, hkd, BB, if_true, if_false, ite_true, ite_false, ite_self]
              · simp (maxSteps := 10000000) (disch := first | assumption | omega) only [cProgram, cNode, F_spec_NodeOk, params, EG, EL, ↓reduceIte, Nat.reduceEqDiff, Nat.reduceAdd, Nat.reduceSub, Nat.reduceMul, Nat.reduceLeDiff, Nat.reduceLT, Int.reduceLT, Int.reduceLE, Int.reduceEq, Int.reduceToNat, reduceCtorEq, FB, ED, FT, cx_spec_NodeOk, cl_spec_l01In, sem_spec_l01In, hw, h, hkn, hk, hk', hg, lp, cl_spec_l05Value, sem_spec_l05Value, cl_spec_l05Statement, sem_spec_l05Statement, cl_spec_l05Kids, hkk, cl_spec_NameOk, q1, q2, q3, v1, v2, hK, hf, hq, ne_eq, namesB, okName, emptyS, f_nm, f_mo, f_to, f_nu, hkd, BB, if_true, if_false, ite_true, ite_false, ite_self]
            · simp (maxSteps := 10000000) (disch := first | assumption | omega) only [cProgram, cNode, F_spec_NodeOk, params, EG, EL, ↓reduceIte, Nat.reduceEqDiff, Nat.reduceAdd, Nat.reduceSub, Nat.reduceMul, Nat.reduceLeDiff, Nat.reduceLT, Int.reduceLT, Int.reduceLE, Int.reduceEq, Int.reduceToNat, reduceCtorEq, FB, ED, FT, cx_spec_NodeOk, cl_spec_l01In, sem_spec_l01In, hw, h, hkn, hk, hk', hg, lp, cl_spec_l05Value, sem_spec_l05Value, cl_spec_l05Statement, sem_spec_l05Statement, cl_spec_l05Kids, hkk, cl_spec_NameOk, q1, q2, q3, v1, v2, hK, hf, hq, ne_eq, namesB, okName, emptyS, f_nm, f_mo, f_to, hkd, BB, if_true, if_false, ite_true, ite_false, ite_self]
          · simp (maxSteps := 10000000) (disch := first | assumption | omega) only [cProgram, cNode, F_spec_NodeOk, params, EG, EL, ↓reduceIte, Nat.reduceEqDiff, Nat.reduceAdd, Nat.reduceSub, Nat.reduceMul, Nat.reduceLeDiff, Nat.reduceLT, Int.reduceLT, Int.reduceLE, Int.reduceEq, Int.reduceToNat, reduceCtorEq, FB, ED, FT, cx_spec_NodeOk, cl_spec_l01In, sem_spec_l01In, hw, h, hkn, hk, hk', hg, lp, cl_spec_l05Value, sem_spec_l05Value, cl_spec_l05Statement, sem_spec_l05Statement, cl_spec_l05Kids, hkk, cl_spec_NameOk, q1, q2, q3, v1, v2, hK, hf, hq, ne_eq, namesB, okName, emptyS, f_nm, f_mo, hkd, BB, if_true, if_false, ite_true, ite_false, ite_self]
        · simp (maxSteps := 10000000) (disch := first | assumption | omega) only [cProgram, cNode, F_spec_NodeOk, params, EG, EL, ↓reduceIte, Nat.reduceEqDiff, Nat.reduceAdd, Nat.reduceSub, Nat.reduceMul, Nat.reduceLeDiff, Nat.reduceLT, Int.reduceLT, Int.reduceLE, Int.reduceEq, Int.reduceToNat, reduceCtorEq, FB, ED, FT, cx_spec_NodeOk, cl_spec_l01In, sem_spec_l01In, hw, h, hkn, hk, hk', hg, lp, cl_spec_l05Value, sem_spec_l05Value, cl_spec_l05Statement, sem_spec_l05Statement, cl_spec_l05Kids, hkk, cl_spec_NameOk, q1, q2, q3, v1, v2, hK, hf, hq, ne_eq, namesB, okName, emptyS, f_nm, hkd, BB, if_true, if_false, ite_true, ite_false, ite_self]
    · have v1 : isValK 4 = true := by decide
      have v2 : isStmK 4 = false := by decide
      rw [hK] at hkk hkd lp
      cases hq : kidsF p.Nodes k 4 x.Kids
      all_goals rw [hq] at hkk
      · simp (maxSteps := 10000000) (disch := first | assumption | omega) only [cProgram, cNode, F_spec_NodeOk, params, EG, EL, ↓reduceIte, Nat.reduceEqDiff, Nat.reduceAdd, Nat.reduceSub, Nat.reduceMul, Nat.reduceLeDiff, Nat.reduceLT, Int.reduceLT, Int.reduceLE, Int.reduceEq, Int.reduceToNat, reduceCtorEq, FB, ED, FT, cx_spec_NodeOk, cl_spec_l01In, sem_spec_l01In, hw, h, hkn, hk, hk', hg, lp, cl_spec_l05Value, sem_spec_l05Value, cl_spec_l05Statement, sem_spec_l05Statement, cl_spec_l05Kids, hkk, cl_spec_NameOk, q1, q2, q3, v1, v2, hK, hf, hq, ne_eq, namesB, okName, emptyS, hkd, BB, if_true, if_false, ite_true, ite_false, ite_self]
      · skip
        rcases eqP (x.Name = (⟨#[]⟩ : ByteArray)) with f_nm | f_nm
        · skip
          rcases eqP (x.More = (⟨#[]⟩ : ByteArray)) with f_mo | f_mo
          · skip
            rcases eqP (x.To = (⟨#[]⟩ : ByteArray)) with f_to | f_to
            · skip
              rcases eqP (x.Num = 0) with f_nu | f_nu
              · skip
                simp (maxSteps := 10000000) (disch := first | assumption | omega) only [cProgram, cNode, F_spec_NodeOk, params, EG, EL, ↓reduceIte, Nat.reduceEqDiff, Nat.reduceAdd, Nat.reduceSub, Nat.reduceMul, Nat.reduceLeDiff, Nat.reduceLT, Int.reduceLT, Int.reduceLE, Int.reduceEq, Int.reduceToNat, reduceCtorEq, FB, ED, FT, cx_spec_NodeOk, cl_spec_l01In, sem_spec_l01In, hw, h, hkn, hk, hk', hg, lp, cl_spec_l05Value, sem_spec_l05Value, cl_spec_l05Statement, sem_spec_l05Statement, cl_spec_l05Kids, hkk, cl_spec_NameOk, q1, q2, q3, v1, v2, hK, hf, hq, ne_eq, namesB, okName, emptyS, f_nm, f_mo, f_to, f_nu, hkd, BB, if_true, if_false, ite_true, ite_false, ite_self]
              · simp (maxSteps := 10000000) (disch := first | assumption | omega) only [cProgram, cNode, F_spec_NodeOk, params, EG, EL, ↓reduceIte, Nat.reduceEqDiff, Nat.reduceAdd, Nat.reduceSub, Nat.reduceMul, Nat.reduceLeDiff, Nat.reduceLT, Int.reduceLT, Int.reduceLE, Int.reduceEq, Int.reduceToNat, reduceCtorEq, FB, ED, FT, cx_spec_NodeOk, cl_spec_l01In, sem_spec_l01In, hw, h, hkn, hk, hk', hg, lp, cl_spec_l05Value, sem_spec_l05Value, cl_spec_l05Statement, sem_spec_l05Statement, cl_spec_l05Kids, hkk, cl_spec_NameOk, q1, q2, q3, v1, v2, hK, hf, hq, ne_eq, namesB, okName, emptyS, f_nm, f_mo, f_to, f_nu, hkd, BB, if_true, if_false, ite_true, ite_false, ite_self]
            · simp (maxSteps := 10000000) (disch := first | assumption | omega) only [cProgram, cNode, F_spec_NodeOk, params, EG, EL, ↓reduceIte, Nat.reduceEqDiff, Nat.reduceAdd, Nat.reduceSub, Nat.reduceMul, Nat.reduceLeDiff, Nat.reduceLT, Int.reduceLT, Int.reduceLE, Int.reduceEq, Int.reduceToNat, reduceCtorEq, FB, ED, FT, cx_spec_NodeOk, cl_spec_l01In, sem_spec_l01In, hw, h, hkn, hk, hk', hg, lp, cl_spec_l05Value, sem_spec_l05Value, cl_spec_l05Statement, sem_spec_l05Statement, cl_spec_l05Kids, hkk, cl_spec_NameOk, q1, q2, q3, v1, v2, hK, hf, hq, ne_eq, namesB, okName, emptyS, f_nm, f_mo, f_to, hkd, BB, if_true, if_false, ite_true, ite_false, ite_self]
          · simp (maxSteps := 10000000) (disch := first | assumption | omega) only [cProgram, cNode, F_spec_NodeOk, params, EG, EL, ↓reduceIte, Nat.reduceEqDiff, Nat.reduceAdd, Nat.reduceSub, Nat.reduceMul, Nat.reduceLeDiff, Nat.reduceLT, Int.reduceLT, Int.reduceLE, Int.reduceEq, Int.reduceToNat, reduceCtorEq, FB, ED, FT, cx_spec_NodeOk, cl_spec_l01In, sem_spec_l01In, hw, h, hkn, hk, hk', hg, lp, cl_spec_l05Value, sem_spec_l05Value, cl_spec_l05Statement, sem_spec_l05Statement, cl_spec_l05Kids, hkk, cl_spec_NameOk, q1, q2, q3, v1, v2, hK, hf, hq, ne_eq, namesB, okName, emptyS, f_nm, f_mo, hkd, BB, if_true, if_false, ite_true, ite_false, ite_self]
        · simp (maxSteps := 10000000) (disch := first | assumption | omega) only [cProgram, cNode, F_spec_NodeOk, params, EG, EL, ↓reduceIte, Nat.reduceEqDiff, Nat.reduceAdd, Nat.reduceSub, Nat.reduceMul, Nat.reduceLeDiff, Nat.reduceLT, Int.reduceLT, Int.reduceLE, Int.reduceEq, Int.reduceToNat, reduceCtorEq, FB, ED, FT, cx_spec_NodeOk, cl_spec_l01In, sem_spec_l01In, hw, h, hkn, hk, hk', hg, lp, cl_spec_l05Value, sem_spec_l05Value, cl_spec_l05Statement, sem_spec_l05Statement, cl_spec_l05Kids, hkk, cl_spec_NameOk, q1, q2, q3, v1, v2, hK, hf, hq, ne_eq, namesB, okName, emptyS, f_nm, hkd, BB, if_true, if_false, ite_true, ite_false, ite_self]
    · have v1 : isValK 5 = true := by decide
      have v2 : isStmK 5 = false := by decide
      rw [hK] at hkk hkd lp
      cases hq : kidsF p.Nodes k 5 x.Kids
      all_goals rw [hq] at hkk
      · simp (maxSteps := 10000000) (disch := first | assumption | omega) only [cProgram, cNode, F_spec_NodeOk, params, EG, EL, ↓reduceIte, Nat.reduceEqDiff, Nat.reduceAdd, Nat.reduceSub, Nat.reduceMul, Nat.reduceLeDiff, Nat.reduceLT, Int.reduceLT, Int.reduceLE, Int.reduceEq, Int.reduceToNat, reduceCtorEq, FB, ED, FT, cx_spec_NodeOk, cl_spec_l01In, sem_spec_l01In, hw, h, hkn, hk, hk', hg, lp, cl_spec_l05Value, sem_spec_l05Value, cl_spec_l05Statement, sem_spec_l05Statement, cl_spec_l05Kids, hkk, cl_spec_NameOk, q1, q2, q3, v1, v2, hK, hf, hq, ne_eq, namesB, okName, emptyS, hkd, BB, if_true, if_false, ite_true, ite_false, ite_self]
      · skip
        rcases eqP (x.Name = (⟨#[]⟩ : ByteArray)) with f_nm | f_nm
        · skip
          rcases eqP (x.More = (⟨#[]⟩ : ByteArray)) with f_mo | f_mo
          · skip
            rcases eqP (x.To = (⟨#[]⟩ : ByteArray)) with f_to | f_to
            · skip
              rcases eqP (x.Num = 0) with f_nu | f_nu
              · skip
                simp (maxSteps := 10000000) (disch := first | assumption | omega) only [cProgram, cNode, F_spec_NodeOk, params, EG, EL, ↓reduceIte, Nat.reduceEqDiff, Nat.reduceAdd, Nat.reduceSub, Nat.reduceMul, Nat.reduceLeDiff, Nat.reduceLT, Int.reduceLT, Int.reduceLE, Int.reduceEq, Int.reduceToNat, reduceCtorEq, FB, ED, FT, cx_spec_NodeOk, cl_spec_l01In, sem_spec_l01In, hw, h, hkn, hk, hk', hg, lp, cl_spec_l05Value, sem_spec_l05Value, cl_spec_l05Statement, sem_spec_l05Statement, cl_spec_l05Kids, hkk, cl_spec_NameOk, q1, q2, q3, v1, v2, hK, hf, hq, ne_eq, namesB, okName, emptyS, f_nm, f_mo, f_to, f_nu, hkd, BB, if_true, if_false, ite_true, ite_false, ite_self]
              · simp (maxSteps := 10000000) (disch := first | assumption | omega) only [cProgram, cNode, F_spec_NodeOk, params, EG, EL, ↓reduceIte, Nat.reduceEqDiff, Nat.reduceAdd, Nat.reduceSub, Nat.reduceMul, Nat.reduceLeDiff, Nat.reduceLT, Int.reduceLT, Int.reduceLE, Int.reduceEq, Int.reduceToNat, reduceCtorEq, FB, ED, FT, cx_spec_NodeOk, cl_spec_l01In, sem_spec_l01In, hw, h, hkn, hk, hk', hg, lp, cl_spec_l05Value, sem_spec_l05Value, cl_spec_l05Statement, sem_spec_l05Statement, cl_spec_l05Kids, hkk, cl_spec_NameOk, q1, q2, q3, v1, v2, hK, hf, hq, ne_eq, namesB, okName, emptyS, f_nm, f_mo, f_to, f_nu, hkd, BB, if_true, if_false, ite_true, ite_false, ite_self]
            · simp (maxSteps := 10000000) (disch := first | assumption | omega) only [cProgram, cNode, F_spec_NodeOk, params, EG, EL, ↓reduceIte, Nat.reduceEqDiff, Nat.reduceAdd, Nat.reduceSub, Nat.reduceMul, Nat.reduceLeDiff, Nat.reduceLT, Int.reduceLT, Int.reduceLE, Int.reduceEq, Int.reduceToNat, reduceCtorEq, FB, ED, FT, cx_spec_NodeOk, cl_spec_l01In, sem_spec_l01In, hw, h, hkn, hk, hk', hg, lp, cl_spec_l05Value, sem_spec_l05Value, cl_spec_l05Statement, sem_spec_l05Statement, cl_spec_l05Kids, hkk, cl_spec_NameOk, q1, q2, q3, v1, v2, hK, hf, hq, ne_eq, namesB, okName, emptyS, f_nm, f_mo, f_to, hkd, BB, if_true, if_false, ite_true, ite_false, ite_self]
          · simp (maxSteps := 10000000) (disch := first | assumption | omega) only [cProgram, cNode, F_spec_NodeOk, params, EG, EL, ↓reduceIte, Nat.reduceEqDiff, Nat.reduceAdd, Nat.reduceSub, Nat.reduceMul, Nat.reduceLeDiff, Nat.reduceLT, Int.reduceLT, Int.reduceLE, Int.reduceEq, Int.reduceToNat, reduceCtorEq, FB, ED, FT, cx_spec_NodeOk, cl_spec_l01In, sem_spec_l01In, hw, h, hkn, hk, hk', hg, lp, cl_spec_l05Value, sem_spec_l05Value, cl_spec_l05Statement, sem_spec_l05Statement, cl_spec_l05Kids, hkk, cl_spec_NameOk, q1, q2, q3, v1, v2, hK, hf, hq, ne_eq, namesB, okName, emptyS, f_nm, f_mo, hkd, BB, if_true, if_false, ite_true, ite_false, ite_self]
        · simp (maxSteps := 10000000) (disch := first | assumption | omega) only [cProgram, cNode, F_spec_NodeOk, params, EG, EL, ↓reduceIte, Nat.reduceEqDiff, Nat.reduceAdd, Nat.reduceSub, Nat.reduceMul, Nat.reduceLeDiff, Nat.reduceLT, Int.reduceLT, Int.reduceLE, Int.reduceEq, Int.reduceToNat, reduceCtorEq, FB, ED, FT, cx_spec_NodeOk, cl_spec_l01In, sem_spec_l01In, hw, h, hkn, hk, hk', hg, lp, cl_spec_l05Value, sem_spec_l05Value, cl_spec_l05Statement, sem_spec_l05Statement, cl_spec_l05Kids, hkk, cl_spec_NameOk, q1, q2, q3, v1, v2, hK, hf, hq, ne_eq, namesB, okName, emptyS, f_nm, hkd, BB, if_true, if_false, ite_true, ite_false, ite_self]
    · have v1 : isValK 11 = false := by decide
      have v2 : isStmK 11 = true := by decide
      rw [hK] at hkk hkd lp
      cases hq : kidsF p.Nodes k 11 x.Kids
      all_goals rw [hq] at hkk
      · simp (maxSteps := 10000000) (disch := first | assumption | omega) only [cProgram, cNode, F_spec_NodeOk, params, EG, EL, ↓reduceIte, Nat.reduceEqDiff, Nat.reduceAdd, Nat.reduceSub, Nat.reduceMul, Nat.reduceLeDiff, Nat.reduceLT, Int.reduceLT, Int.reduceLE, Int.reduceEq, Int.reduceToNat, reduceCtorEq, FB, ED, FT, cx_spec_NodeOk, cl_spec_l01In, sem_spec_l01In, hw, h, hkn, hk, hk', hg, lp, cl_spec_l05Value, sem_spec_l05Value, cl_spec_l05Statement, sem_spec_l05Statement, cl_spec_l05Kids, hkk, cl_spec_NameOk, q1, q2, q3, v1, v2, hK, hf, hq, ne_eq, namesB, okName, emptyS, hkd, BB, if_true, if_false, ite_true, ite_false, ite_self]
      · skip
        cases f_nm : nameOkF x.Name
        · simp (maxSteps := 10000000) (disch := first | assumption | omega) only [cProgram, cNode, F_spec_NodeOk, params, EG, EL, ↓reduceIte, Nat.reduceEqDiff, Nat.reduceAdd, Nat.reduceSub, Nat.reduceMul, Nat.reduceLeDiff, Nat.reduceLT, Int.reduceLT, Int.reduceLE, Int.reduceEq, Int.reduceToNat, reduceCtorEq, FB, ED, FT, cx_spec_NodeOk, cl_spec_l01In, sem_spec_l01In, hw, h, hkn, hk, hk', hg, lp, cl_spec_l05Value, sem_spec_l05Value, cl_spec_l05Statement, sem_spec_l05Statement, cl_spec_l05Kids, hkk, cl_spec_NameOk, q1, q2, q3, v1, v2, hK, hf, hq, ne_eq, namesB, okName, emptyS, f_nm, hkd, BB, if_true, if_false, ite_true, ite_false, ite_self]
        · skip
          rcases eqP (x.More = (⟨#[]⟩ : ByteArray)) with f_mo | f_mo
          · skip
            rcases eqP (x.To = (⟨#[]⟩ : ByteArray)) with f_to | f_to
            · skip
              rcases eqP (x.Num = 0) with f_nu | f_nu
              · skip
                simp (maxSteps := 10000000) (disch := first | assumption | omega) only [cProgram, cNode, F_spec_NodeOk, params, EG, EL, ↓reduceIte, Nat.reduceEqDiff, Nat.reduceAdd, Nat.reduceSub, Nat.reduceMul, Nat.reduceLeDiff, Nat.reduceLT, Int.reduceLT, Int.reduceLE, Int.reduceEq, Int.reduceToNat, reduceCtorEq, FB, ED, FT, cx_spec_NodeOk, cl_spec_l01In, sem_spec_l01In, hw, h, hkn, hk, hk', hg, lp, cl_spec_l05Value, sem_spec_l05Value, cl_spec_l05Statement, sem_spec_l05Statement, cl_spec_l05Kids, hkk, cl_spec_NameOk, q1, q2, q3, v1, v2, hK, hf, hq, ne_eq, namesB, okName, emptyS, f_nm, f_mo, f_to, f_nu, hkd, BB, if_true, if_false, ite_true, ite_false, ite_self]
              · simp (maxSteps := 10000000) (disch := first | assumption | omega) only [cProgram, cNode, F_spec_NodeOk, params, EG, EL, ↓reduceIte, Nat.reduceEqDiff, Nat.reduceAdd, Nat.reduceSub, Nat.reduceMul, Nat.reduceLeDiff, Nat.reduceLT, Int.reduceLT, Int.reduceLE, Int.reduceEq, Int.reduceToNat, reduceCtorEq, FB, ED, FT, cx_spec_NodeOk, cl_spec_l01In, sem_spec_l01In, hw, h, hkn, hk, hk', hg, lp, cl_spec_l05Value, sem_spec_l05Value, cl_spec_l05Statement, sem_spec_l05Statement, cl_spec_l05Kids, hkk, cl_spec_NameOk, q1, q2, q3, v1, v2, hK, hf, hq, ne_eq, namesB, okName, emptyS, f_nm, f_mo, f_to, f_nu, hkd, BB, if_true, if_false, ite_true, ite_false, ite_self]
            · simp (maxSteps := 10000000) (disch := first | assumption | omega) only [cProgram, cNode, F_spec_NodeOk, params, EG, EL, ↓reduceIte, Nat.reduceEqDiff, Nat.reduceAdd, Nat.reduceSub, Nat.reduceMul, Nat.reduceLeDiff, Nat.reduceLT, Int.reduceLT, Int.reduceLE, Int.reduceEq, Int.reduceToNat, reduceCtorEq, FB, ED, FT, cx_spec_NodeOk, cl_spec_l01In, sem_spec_l01In, hw, h, hkn, hk, hk', hg, lp, cl_spec_l05Value, sem_spec_l05Value, cl_spec_l05Statement, sem_spec_l05Statement, cl_spec_l05Kids, hkk, cl_spec_NameOk, q1, q2, q3, v1, v2, hK, hf, hq, ne_eq, namesB, okName, emptyS, f_nm, f_mo, f_to, hkd, BB, if_true, if_false, ite_true, ite_false, ite_self]
          · simp (maxSteps := 10000000) (disch := first | assumption | omega) only [cProgram, cNode, F_spec_NodeOk, params, EG, EL, ↓reduceIte, Nat.reduceEqDiff, Nat.reduceAdd, Nat.reduceSub, Nat.reduceMul, Nat.reduceLeDiff, Nat.reduceLT, Int.reduceLT, Int.reduceLE, Int.reduceEq, Int.reduceToNat, reduceCtorEq, FB, ED, FT, cx_spec_NodeOk, cl_spec_l01In, sem_spec_l01In, hw, h, hkn, hk, hk', hg, lp, cl_spec_l05Value, sem_spec_l05Value, cl_spec_l05Statement, sem_spec_l05Statement, cl_spec_l05Kids, hkk, cl_spec_NameOk, q1, q2, q3, v1, v2, hK, hf, hq, ne_eq, namesB, okName, emptyS, f_nm, f_mo, hkd, BB, if_true, if_false, ite_true, ite_false, ite_self]
    · have v1 : isValK 12 = false := by decide
      have v2 : isStmK 12 = true := by decide
      rw [hK] at hkk hkd lp
      cases hq : kidsF p.Nodes k 12 x.Kids
      all_goals rw [hq] at hkk
      · simp (maxSteps := 10000000) (disch := first | assumption | omega) only [cProgram, cNode, F_spec_NodeOk, params, EG, EL, ↓reduceIte, Nat.reduceEqDiff, Nat.reduceAdd, Nat.reduceSub, Nat.reduceMul, Nat.reduceLeDiff, Nat.reduceLT, Int.reduceLT, Int.reduceLE, Int.reduceEq, Int.reduceToNat, reduceCtorEq, FB, ED, FT, cx_spec_NodeOk, cl_spec_l01In, sem_spec_l01In, hw, h, hkn, hk, hk', hg, lp, cl_spec_l05Value, sem_spec_l05Value, cl_spec_l05Statement, sem_spec_l05Statement, cl_spec_l05Kids, hkk, cl_spec_NameOk, q1, q2, q3, v1, v2, hK, hf, hq, ne_eq, namesB, okName, emptyS, hkd, BB, if_true, if_false, ite_true, ite_false, ite_self]
      · skip
        rcases eqP (x.Name = (⟨#[]⟩ : ByteArray)) with f_nm | f_nm
        · skip
          rcases eqP (x.More = (⟨#[]⟩ : ByteArray)) with f_mo | f_mo
          · skip
            rcases eqP (x.To = (⟨#[]⟩ : ByteArray)) with f_to | f_to
            · skip
              rcases eqP (x.Num = 0) with f_nu | f_nu
              · skip
                simp (maxSteps := 10000000) (disch := first | assumption | omega) only [cProgram, cNode, F_spec_NodeOk, params, EG, EL, ↓reduceIte, Nat.reduceEqDiff, Nat.reduceAdd, Nat.reduceSub, Nat.reduceMul, Nat.reduceLeDiff, Nat.reduceLT, Int.reduceLT, Int.reduceLE, Int.reduceEq, Int.reduceToNat, reduceCtorEq, FB, ED, FT, cx_spec_NodeOk, cl_spec_l01In, sem_spec_l01In, hw, h, hkn, hk, hk', hg, lp, cl_spec_l05Value, sem_spec_l05Value, cl_spec_l05Statement, sem_spec_l05Statement, cl_spec_l05Kids, hkk, cl_spec_NameOk, q1, q2, q3, v1, v2, hK, hf, hq, ne_eq, namesB, okName, emptyS, f_nm, f_mo, f_to, f_nu, hkd, BB, if_true, if_false, ite_true, ite_false, ite_self]
              · simp (maxSteps := 10000000) (disch := first | assumption | omega) only [cProgram, cNode, F_spec_NodeOk, params, EG, EL, ↓reduceIte, Nat.reduceEqDiff, Nat.reduceAdd, Nat.reduceSub, Nat.reduceMul, Nat.reduceLeDiff, Nat.reduceLT, Int.reduceLT, Int.reduceLE, Int.reduceEq, Int.reduceToNat, reduceCtorEq, FB, ED, FT, cx_spec_NodeOk, cl_spec_l01In, sem_spec_l01In, hw, h, hkn, hk, hk', hg, lp, cl_spec_l05Value, sem_spec_l05Value, cl_spec_l05Statement, sem_spec_l05Statement, cl_spec_l05Kids, hkk, cl_spec_NameOk, q1, q2, q3, v1, v2, hK, hf, hq, ne_eq, namesB, okName, emptyS, f_nm, f_mo, f_to, f_nu, hkd, BB, if_true, if_false, ite_true, ite_false, ite_self]
            · simp (maxSteps := 10000000) (disch := first | assumption | omega) only [cProgram, cNode, F_spec_NodeOk, params, EG, EL, ↓reduceIte, Nat.reduceEqDiff, Nat.reduceAdd, Nat.reduceSub, Nat.reduceMul, Nat.reduceLeDiff, Nat.reduceLT, Int.reduceLT, Int.reduceLE, Int.reduceEq, Int.reduceToNat, reduceCtorEq, FB, ED, FT, cx_spec_NodeOk, cl_spec_l01In, sem_spec_l01In, hw, h, hkn, hk, hk', hg, lp, cl_spec_l05Value, sem_spec_l05Value, cl_spec_l05Statement, sem_spec_l05Statement, cl_spec_l05Kids, hkk, cl_spec_NameOk, q1, q2, q3, v1, v2, hK, hf, hq, ne_eq, namesB, okName, emptyS, f_nm, f_mo, f_to, hkd, BB, if_true, if_false, ite_true, ite_false, ite_self]
          · simp (maxSteps := 10000000) (disch := first | assumption | omega) only [cProgram, cNode, F_spec_NodeOk, params, EG, EL, ↓reduceIte, Nat.reduceEqDiff, Nat.reduceAdd, Nat.reduceSub, Nat.reduceMul, Nat.reduceLeDiff, Nat.reduceLT, Int.reduceLT, Int.reduceLE, Int.reduceEq, Int.reduceToNat, reduceCtorEq, FB, ED, FT, cx_spec_NodeOk, cl_spec_l01In, sem_spec_l01In, hw, h, hkn, hk, hk', hg, lp, cl_spec_l05Value, sem_spec_l05Value, cl_spec_l05Statement, sem_spec_l05Statement, cl_spec_l05Kids, hkk, cl_spec_NameOk, q1, q2, q3, v1, v2, hK, hf, hq, ne_eq, namesB, okName, emptyS, f_nm, f_mo, hkd, BB, if_true, if_false, ite_true, ite_false, ite_self]
        · simp (maxSteps := 10000000) (disch := first | assumption | omega) only [cProgram, cNode, F_spec_NodeOk, params, EG, EL, ↓reduceIte, Nat.reduceEqDiff, Nat.reduceAdd, Nat.reduceSub, Nat.reduceMul, Nat.reduceLeDiff, Nat.reduceLT, Int.reduceLT, Int.reduceLE, Int.reduceEq, Int.reduceToNat, reduceCtorEq, FB, ED, FT, cx_spec_NodeOk, cl_spec_l01In, sem_spec_l01In, hw, h, hkn, hk, hk', hg, lp, cl_spec_l05Value, sem_spec_l05Value, cl_spec_l05Statement, sem_spec_l05Statement, cl_spec_l05Kids, hkk, cl_spec_NameOk, q1, q2, q3, v1, v2, hK, hf, hq, ne_eq, namesB, okName, emptyS, f_nm, hkd, BB, if_true, if_false, ite_true, ite_false, ite_self]
    · have v1 : isValK 13 = false := by decide
      have v2 : isStmK 13 = true := by decide
      rw [hK] at hkk hkd lp
      cases hq : kidsF p.Nodes k 13 x.Kids
      all_goals rw [hq] at hkk
      · simp (maxSteps := 10000000) (disch := first | assumption | omega) only [cProgram, cNode, F_spec_NodeOk, params, EG, EL, ↓reduceIte, Nat.reduceEqDiff, Nat.reduceAdd, Nat.reduceSub, Nat.reduceMul, Nat.reduceLeDiff, Nat.reduceLT, Int.reduceLT, Int.reduceLE, Int.reduceEq, Int.reduceToNat, reduceCtorEq, FB, ED, FT, cx_spec_NodeOk, cl_spec_l01In, sem_spec_l01In, hw, h, hkn, hk, hk', hg, lp, cl_spec_l05Value, sem_spec_l05Value, cl_spec_l05Statement, sem_spec_l05Statement, cl_spec_l05Kids, hkk, cl_spec_NameOk, q1, q2, q3, v1, v2, hK, hf, hq, ne_eq, namesB, okName, emptyS, hkd, BB, if_true, if_false, ite_true, ite_false, ite_self]
      · skip
        rcases eqP (x.Name = (⟨#[]⟩ : ByteArray)) with f_nm | f_nm
        · skip
          rcases eqP (x.More = (⟨#[]⟩ : ByteArray)) with f_mo | f_mo
          · skip
            rcases eqP (x.To = (⟨#[]⟩ : ByteArray)) with f_to | f_to
            · skip
              rcases eqP (x.Num = 0) with f_nu | f_nu
              · skip
                simp (maxSteps := 10000000) (disch := first | assumption | omega) only [cProgram, cNode, F_spec_NodeOk, params, EG, EL, ↓reduceIte, Nat.reduceEqDiff, Nat.reduceAdd, Nat.reduceSub, Nat.reduceMul, Nat.reduceLeDiff, Nat.reduceLT, Int.reduceLT, Int.reduceLE, Int.reduceEq, Int.reduceToNat, reduceCtorEq, FB, ED, FT, cx_spec_NodeOk, cl_spec_l01In, sem_spec_l01In, hw, h, hkn, hk, hk', hg, lp, cl_spec_l05Value, sem_spec_l05Value, cl_spec_l05Statement, sem_spec_l05Statement, cl_spec_l05Kids, hkk, cl_spec_NameOk, q1, q2, q3, v1, v2, hK, hf, hq, ne_eq, namesB, okName, emptyS, f_nm, f_mo, f_to, f_nu, hkd, BB, if_true, if_false, ite_true, ite_false, ite_self]
              · simp (maxSteps := 10000000) (disch := first | assumption | omega) only [cProgram, cNode, F_spec_NodeOk, params, EG, EL, ↓reduceIte, Nat.reduceEqDiff, Nat.reduceAdd, Nat.reduceSub, Nat.reduceMul, Nat.reduceLeDiff, Nat.reduceLT, Int.reduceLT, Int.reduceLE, Int.reduceEq, Int.reduceToNat, reduceCtorEq, FB, ED, FT, cx_spec_NodeOk, cl_spec_l01In, sem_spec_l01In, hw, h, hkn, hk, hk', hg, lp, cl_spec_l05Value, sem_spec_l05Value, cl_spec_l05Statement, sem_spec_l05Statement, cl_spec_l05Kids, hkk, cl_spec_NameOk, q1, q2, q3, v1, v2, hK, hf, hq, ne_eq, namesB, okName, emptyS, f_nm, f_mo, f_to, f_nu, hkd, BB, if_true, if_false, ite_true, ite_false, ite_self]
            · simp (maxSteps := 10000000) (disch := first | assumption | omega) only [cProgram, cNode, F_spec_NodeOk, params, EG, EL, ↓reduceIte, Nat.reduceEqDiff, Nat.reduceAdd, Nat.reduceSub, Nat.reduceMul, Nat.reduceLeDiff, Nat.reduceLT, Int.reduceLT, Int.reduceLE, Int.reduceEq, Int.reduceToNat, reduceCtorEq, FB, ED, FT, cx_spec_NodeOk, cl_spec_l01In, sem_spec_l01In, hw, h, hkn, hk, hk', hg, lp, cl_spec_l05Value, sem_spec_l05Value, cl_spec_l05Statement, sem_spec_l05Statement, cl_spec_l05Kids, hkk, cl_spec_NameOk, q1, q2, q3, v1, v2, hK, hf, hq, ne_eq, namesB, okName, emptyS, f_nm, f_mo, f_to, hkd, BB, if_true, if_false, ite_true, ite_false, ite_self]
          · simp (maxSteps := 10000000) (disch := first | assumption | omega) only [cProgram, cNode, F_spec_NodeOk, params, EG, EL, ↓reduceIte, Nat.reduceEqDiff, Nat.reduceAdd, Nat.reduceSub, Nat.reduceMul, Nat.reduceLeDiff, Nat.reduceLT, Int.reduceLT, Int.reduceLE, Int.reduceEq, Int.reduceToNat, reduceCtorEq, FB, ED, FT, cx_spec_NodeOk, cl_spec_l01In, sem_spec_l01In, hw, h, hkn, hk, hk', hg, lp, cl_spec_l05Value, sem_spec_l05Value, cl_spec_l05Statement, sem_spec_l05Statement, cl_spec_l05Kids, hkk, cl_spec_NameOk, q1, q2, q3, v1, v2, hK, hf, hq, ne_eq, namesB, okName, emptyS, f_nm, f_mo, hkd, BB, if_true, if_false, ite_true, ite_false, ite_self]
        · simp (maxSteps := 10000000) (disch := first | assumption | omega) only [cProgram, cNode, F_spec_NodeOk, params, EG, EL, ↓reduceIte, Nat.reduceEqDiff, Nat.reduceAdd, Nat.reduceSub, Nat.reduceMul, Nat.reduceLeDiff, Nat.reduceLT, Int.reduceLT, Int.reduceLE, Int.reduceEq, Int.reduceToNat, reduceCtorEq, FB, ED, FT, cx_spec_NodeOk, cl_spec_l01In, sem_spec_l01In, hw, h, hkn, hk, hk', hg, lp, cl_spec_l05Value, sem_spec_l05Value, cl_spec_l05Statement, sem_spec_l05Statement, cl_spec_l05Kids, hkk, cl_spec_NameOk, q1, q2, q3, v1, v2, hK, hf, hq, ne_eq, namesB, okName, emptyS, f_nm, hkd, BB, if_true, if_false, ite_true, ite_false, ite_self]
    · have v1 : isValK 14 = false := by decide
      have v2 : isStmK 14 = true := by decide
      rw [hK] at hkk hkd lp
      cases hq : kidsF p.Nodes k 14 x.Kids
      all_goals rw [hq] at hkk
      · simp (maxSteps := 10000000) (disch := first | assumption | omega) only [cProgram, cNode, F_spec_NodeOk, params, EG, EL, ↓reduceIte, Nat.reduceEqDiff, Nat.reduceAdd, Nat.reduceSub, Nat.reduceMul, Nat.reduceLeDiff, Nat.reduceLT, Int.reduceLT, Int.reduceLE, Int.reduceEq, Int.reduceToNat, reduceCtorEq, FB, ED, FT, cx_spec_NodeOk, cl_spec_l01In, sem_spec_l01In, hw, h, hkn, hk, hk', hg, lp, cl_spec_l05Value, sem_spec_l05Value, cl_spec_l05Statement, sem_spec_l05Statement, cl_spec_l05Kids, hkk, cl_spec_NameOk, q1, q2, q3, v1, v2, hK, hf, hq, ne_eq, namesB, okName, emptyS, hkd, BB, if_true, if_false, ite_true, ite_false, ite_self]
      · skip
        cases f_nm : nameOkF x.Name
        · simp (maxSteps := 10000000) (disch := first | assumption | omega) only [cProgram, cNode, F_spec_NodeOk, params, EG, EL, ↓reduceIte, Nat.reduceEqDiff, Nat.reduceAdd, Nat.reduceSub, Nat.reduceMul, Nat.reduceLeDiff, Nat.reduceLT, Int.reduceLT, Int.reduceLE, Int.reduceEq, Int.reduceToNat, reduceCtorEq, FB, ED, FT, cx_spec_NodeOk, cl_spec_l01In, sem_spec_l01In, hw, h, hkn, hk, hk', hg, lp, cl_spec_l05Value, sem_spec_l05Value, cl_spec_l05Statement, sem_spec_l05Statement, cl_spec_l05Kids, hkk, cl_spec_NameOk, q1, q2, q3, v1, v2, hK, hf, hq, ne_eq, namesB, okName, emptyS, f_nm, hkd, BB, if_true, if_false, ite_true, ite_false, ite_self]
        · skip
          cases f_mo : nameOkF x.More
          · simp (maxSteps := 10000000) (disch := first | assumption | omega) only [cProgram, cNode, F_spec_NodeOk, params, EG, EL, ↓reduceIte, Nat.reduceEqDiff, Nat.reduceAdd, Nat.reduceSub, Nat.reduceMul, Nat.reduceLeDiff, Nat.reduceLT, Int.reduceLT, Int.reduceLE, Int.reduceEq, Int.reduceToNat, reduceCtorEq, FB, ED, FT, cx_spec_NodeOk, cl_spec_l01In, sem_spec_l01In, hw, h, hkn, hk, hk', hg, lp, cl_spec_l05Value, sem_spec_l05Value, cl_spec_l05Statement, sem_spec_l05Statement, cl_spec_l05Kids, hkk, cl_spec_NameOk, q1, q2, q3, v1, v2, hK, hf, hq, ne_eq, namesB, okName, emptyS, f_nm, f_mo, hkd, BB, if_true, if_false, ite_true, ite_false, ite_self]
          · skip
            rcases eqP (x.To = (⟨#[]⟩ : ByteArray)) with f_to | f_to
            · skip
              rcases eqP (x.Num = 0) with f_nu | f_nu
              · skip
                simp (maxSteps := 10000000) (disch := first | assumption | omega) only [cProgram, cNode, F_spec_NodeOk, params, EG, EL, ↓reduceIte, Nat.reduceEqDiff, Nat.reduceAdd, Nat.reduceSub, Nat.reduceMul, Nat.reduceLeDiff, Nat.reduceLT, Int.reduceLT, Int.reduceLE, Int.reduceEq, Int.reduceToNat, reduceCtorEq, FB, ED, FT, cx_spec_NodeOk, cl_spec_l01In, sem_spec_l01In, hw, h, hkn, hk, hk', hg, lp, cl_spec_l05Value, sem_spec_l05Value, cl_spec_l05Statement, sem_spec_l05Statement, cl_spec_l05Kids, hkk, cl_spec_NameOk, q1, q2, q3, v1, v2, hK, hf, hq, ne_eq, namesB, okName, emptyS, f_nm, f_mo, f_to, f_nu, hkd, BB, if_true, if_false, ite_true, ite_false, ite_self]
              · simp (maxSteps := 10000000) (disch := first | assumption | omega) only [cProgram, cNode, F_spec_NodeOk, params, EG, EL, ↓reduceIte, Nat.reduceEqDiff, Nat.reduceAdd, Nat.reduceSub, Nat.reduceMul, Nat.reduceLeDiff, Nat.reduceLT, Int.reduceLT, Int.reduceLE, Int.reduceEq, Int.reduceToNat, reduceCtorEq, FB, ED, FT, cx_spec_NodeOk, cl_spec_l01In, sem_spec_l01In, hw, h, hkn, hk, hk', hg, lp, cl_spec_l05Value, sem_spec_l05Value, cl_spec_l05Statement, sem_spec_l05Statement, cl_spec_l05Kids, hkk, cl_spec_NameOk, q1, q2, q3, v1, v2, hK, hf, hq, ne_eq, namesB, okName, emptyS, f_nm, f_mo, f_to, f_nu, hkd, BB, if_true, if_false, ite_true, ite_false, ite_self]
            · cases f_t2 : nameOkF x.To
              · simp (maxSteps := 10000000) (disch := first | assumption | omega) only [cProgram, cNode, F_spec_NodeOk, params, EG, EL, ↓reduceIte, Nat.reduceEqDiff, Nat.reduceAdd, Nat.reduceSub, Nat.reduceMul, Nat.reduceLeDiff, Nat.reduceLT, Int.reduceLT, Int.reduceLE, Int.reduceEq, Int.reduceToNat, reduceCtorEq, FB, ED, FT, cx_spec_NodeOk, cl_spec_l01In, sem_spec_l01In, hw, h, hkn, hk, hk', hg, lp, cl_spec_l05Value, sem_spec_l05Value, cl_spec_l05Statement, sem_spec_l05Statement, cl_spec_l05Kids, hkk, cl_spec_NameOk, q1, q2, q3, v1, v2, hK, hf, hq, ne_eq, namesB, okName, emptyS, f_nm, f_mo, f_to, f_t2, hkd, BB, if_true, if_false, ite_true, ite_false, ite_self]
              · skip
                rcases eqP (x.Num = 0) with f_nu | f_nu
                · skip
                  simp (maxSteps := 10000000) (disch := first | assumption | omega) only [cProgram, cNode, F_spec_NodeOk, params, EG, EL, ↓reduceIte, Nat.reduceEqDiff, Nat.reduceAdd, Nat.reduceSub, Nat.reduceMul, Nat.reduceLeDiff, Nat.reduceLT, Int.reduceLT, Int.reduceLE, Int.reduceEq, Int.reduceToNat, reduceCtorEq, FB, ED, FT, cx_spec_NodeOk, cl_spec_l01In, sem_spec_l01In, hw, h, hkn, hk, hk', hg, lp, cl_spec_l05Value, sem_spec_l05Value, cl_spec_l05Statement, sem_spec_l05Statement, cl_spec_l05Kids, hkk, cl_spec_NameOk, q1, q2, q3, v1, v2, hK, hf, hq, ne_eq, namesB, okName, emptyS, f_nm, f_mo, f_to, f_t2, f_nu, hkd, BB, if_true, if_false, ite_true, ite_false, ite_self]
                · simp (maxSteps := 10000000) (disch := first | assumption | omega) only [cProgram, cNode, F_spec_NodeOk, params, EG, EL, ↓reduceIte, Nat.reduceEqDiff, Nat.reduceAdd, Nat.reduceSub, Nat.reduceMul, Nat.reduceLeDiff, Nat.reduceLT, Int.reduceLT, Int.reduceLE, Int.reduceEq, Int.reduceToNat, reduceCtorEq, FB, ED, FT, cx_spec_NodeOk, cl_spec_l01In, sem_spec_l01In, hw, h, hkn, hk, hk', hg, lp, cl_spec_l05Value, sem_spec_l05Value, cl_spec_l05Statement, sem_spec_l05Statement, cl_spec_l05Kids, hkk, cl_spec_NameOk, q1, q2, q3, v1, v2, hK, hf, hq, ne_eq, namesB, okName, emptyS, f_nm, f_mo, f_to, f_t2, f_nu, hkd, BB, if_true, if_false, ite_true, ite_false, ite_self]
    · have v1 : isValK 15 = false := by decide
      have v2 : isStmK 15 = true := by decide
      rw [hK] at hkk hkd lp
      cases hq : kidsF p.Nodes k 15 x.Kids
      all_goals rw [hq] at hkk
      · simp (maxSteps := 10000000) (disch := first | assumption | omega) only [cProgram, cNode, F_spec_NodeOk, params, EG, EL, ↓reduceIte, Nat.reduceEqDiff, Nat.reduceAdd, Nat.reduceSub, Nat.reduceMul, Nat.reduceLeDiff, Nat.reduceLT, Int.reduceLT, Int.reduceLE, Int.reduceEq, Int.reduceToNat, reduceCtorEq, FB, ED, FT, cx_spec_NodeOk, cl_spec_l01In, sem_spec_l01In, hw, h, hkn, hk, hk', hg, lp, cl_spec_l05Value, sem_spec_l05Value, cl_spec_l05Statement, sem_spec_l05Statement, cl_spec_l05Kids, hkk, cl_spec_NameOk, q1, q2, q3, v1, v2, hK, hf, hq, ne_eq, namesB, okName, emptyS, hkd, BB, if_true, if_false, ite_true, ite_false, ite_self]
      · skip
        rcases eqP (x.Name = (⟨#[]⟩ : ByteArray)) with f_nm | f_nm
        · skip
          rcases eqP (x.More = (⟨#[]⟩ : ByteArray)) with f_mo | f_mo
          · skip
            rcases eqP (x.To = (⟨#[]⟩ : ByteArray)) with f_to | f_to
            · skip
              rcases eqP (x.Num = 0) with f_nu | f_nu
              · skip
                simp (maxSteps := 10000000) (disch := first | assumption | omega) only [cProgram, cNode, F_spec_NodeOk, params, EG, EL, ↓reduceIte, Nat.reduceEqDiff, Nat.reduceAdd, Nat.reduceSub, Nat.reduceMul, Nat.reduceLeDiff, Nat.reduceLT, Int.reduceLT, Int.reduceLE, Int.reduceEq, Int.reduceToNat, reduceCtorEq, FB, ED, FT, cx_spec_NodeOk, cl_spec_l01In, sem_spec_l01In, hw, h, hkn, hk, hk', hg, lp, cl_spec_l05Value, sem_spec_l05Value, cl_spec_l05Statement, sem_spec_l05Statement, cl_spec_l05Kids, hkk, cl_spec_NameOk, q1, q2, q3, v1, v2, hK, hf, hq, ne_eq, namesB, okName, emptyS, f_nm, f_mo, f_to, f_nu, hkd, BB, if_true, if_false, ite_true, ite_false, ite_self]
              · simp (maxSteps := 10000000) (disch := first | assumption | omega) only [cProgram, cNode, F_spec_NodeOk, params, EG, EL, ↓reduceIte, Nat.reduceEqDiff, Nat.reduceAdd, Nat.reduceSub, Nat.reduceMul, Nat.reduceLeDiff, Nat.reduceLT, Int.reduceLT, Int.reduceLE, Int.reduceEq, Int.reduceToNat, reduceCtorEq, FB, ED, FT, cx_spec_NodeOk, cl_spec_l01In, sem_spec_l01In, hw, h, hkn, hk, hk', hg, lp, cl_spec_l05Value, sem_spec_l05Value, cl_spec_l05Statement, sem_spec_l05Statement, cl_spec_l05Kids, hkk, cl_spec_NameOk, q1, q2, q3, v1, v2, hK, hf, hq, ne_eq, namesB, okName, emptyS, f_nm, f_mo, f_to, f_nu, hkd, BB, if_true, if_false, ite_true, ite_false, ite_self]
            · simp (maxSteps := 10000000) (disch := first | assumption | omega) only [cProgram, cNode, F_spec_NodeOk, params, EG, EL, ↓reduceIte, Nat.reduceEqDiff, Nat.reduceAdd, Nat.reduceSub, Nat.reduceMul, Nat.reduceLeDiff, Nat.reduceLT, Int.reduceLT, Int.reduceLE, Int.reduceEq, Int.reduceToNat, reduceCtorEq, FB, ED, FT, cx_spec_NodeOk, cl_spec_l01In, sem_spec_l01In, hw, h, hkn, hk, hk', hg, lp, cl_spec_l05Value, sem_spec_l05Value, cl_spec_l05Statement, sem_spec_l05Statement, cl_spec_l05Kids, hkk, cl_spec_NameOk, q1, q2, q3, v1, v2, hK, hf, hq, ne_eq, namesB, okName, emptyS, f_nm, f_mo, f_to, hkd, BB, if_true, if_false, ite_true, ite_false, ite_self]
          · simp (maxSteps := 10000000) (disch := first | assumption | omega) only [cProgram, cNode, F_spec_NodeOk, params, EG, EL, ↓reduceIte, Nat.reduceEqDiff, Nat.reduceAdd, Nat.reduceSub, Nat.reduceMul, Nat.reduceLeDiff, Nat.reduceLT, Int.reduceLT, Int.reduceLE, Int.reduceEq, Int.reduceToNat, reduceCtorEq, FB, ED, FT, cx_spec_NodeOk, cl_spec_l01In, sem_spec_l01In, hw, h, hkn, hk, hk', hg, lp, cl_spec_l05Value, sem_spec_l05Value, cl_spec_l05Statement, sem_spec_l05Statement, cl_spec_l05Kids, hkk, cl_spec_NameOk, q1, q2, q3, v1, v2, hK, hf, hq, ne_eq, namesB, okName, emptyS, f_nm, f_mo, hkd, BB, if_true, if_false, ite_true, ite_false, ite_self]
        · simp (maxSteps := 10000000) (disch := first | assumption | omega) only [cProgram, cNode, F_spec_NodeOk, params, EG, EL, ↓reduceIte, Nat.reduceEqDiff, Nat.reduceAdd, Nat.reduceSub, Nat.reduceMul, Nat.reduceLeDiff, Nat.reduceLT, Int.reduceLT, Int.reduceLE, Int.reduceEq, Int.reduceToNat, reduceCtorEq, FB, ED, FT, cx_spec_NodeOk, cl_spec_l01In, sem_spec_l01In, hw, h, hkn, hk, hk', hg, lp, cl_spec_l05Value, sem_spec_l05Value, cl_spec_l05Statement, sem_spec_l05Statement, cl_spec_l05Kids, hkk, cl_spec_NameOk, q1, q2, q3, v1, v2, hK, hf, hq, ne_eq, namesB, okName, emptyS, f_nm, hkd, BB, if_true, if_false, ite_true, ite_false, ite_self]
    · have v1 : isValK 16 = false := by decide
      have v2 : isStmK 16 = true := by decide
      rw [hK] at hkk hkd lp
      cases hq : kidsF p.Nodes k 16 x.Kids
      all_goals rw [hq] at hkk
      · simp (maxSteps := 10000000) (disch := first | assumption | omega) only [cProgram, cNode, F_spec_NodeOk, params, EG, EL, ↓reduceIte, Nat.reduceEqDiff, Nat.reduceAdd, Nat.reduceSub, Nat.reduceMul, Nat.reduceLeDiff, Nat.reduceLT, Int.reduceLT, Int.reduceLE, Int.reduceEq, Int.reduceToNat, reduceCtorEq, FB, ED, FT, cx_spec_NodeOk, cl_spec_l01In, sem_spec_l01In, hw, h, hkn, hk, hk', hg, lp, cl_spec_l05Value, sem_spec_l05Value, cl_spec_l05Statement, sem_spec_l05Statement, cl_spec_l05Kids, hkk, cl_spec_NameOk, q1, q2, q3, v1, v2, hK, hf, hq, ne_eq, namesB, okName, emptyS, hkd, BB, if_true, if_false, ite_true, ite_false, ite_self]
      · skip
        cases f_nm : nameOkF x.Name
        · simp (maxSteps := 10000000) (disch := first | assumption | omega) only [cProgram, cNode, F_spec_NodeOk, params, EG, EL, ↓reduceIte, Nat.reduceEqDiff, Nat.reduceAdd, Nat.reduceSub, Nat.reduceMul, Nat.reduceLeDiff, Nat.reduceLT, Int.reduceLT, Int.reduceLE, Int.reduceEq, Int.reduceToNat, reduceCtorEq, FB, ED, FT, cx_spec_NodeOk, cl_spec_l01In, sem_spec_l01In, hw, h, hkn, hk, hk', hg, lp, cl_spec_l05Value, sem_spec_l05Value, cl_spec_l05Statement, sem_spec_l05Statement, cl_spec_l05Kids, hkk, cl_spec_NameOk, q1, q2, q3, v1, v2, hK, hf, hq, ne_eq, namesB, okName, emptyS, f_nm, hkd, BB, if_true, if_false, ite_true, ite_false, ite_self]
        · skip
          rcases eqP (x.More = (⟨#[]⟩ : ByteArray)) with f_mo | f_mo
          · skip
            rcases eqP (x.To = (⟨#[]⟩ : ByteArray)) with f_to | f_to
            · skip
              rcases eqP (x.Num = 0) with f_nu | f_nu
              · skip
                simp (maxSteps := 10000000) (disch := first | assumption | omega) only [cProgram, cNode, F_spec_NodeOk, params, EG, EL, ↓reduceIte, Nat.reduceEqDiff, Nat.reduceAdd, Nat.reduceSub, Nat.reduceMul, Nat.reduceLeDiff, Nat.reduceLT, Int.reduceLT, Int.reduceLE, Int.reduceEq, Int.reduceToNat, reduceCtorEq, FB, ED, FT, cx_spec_NodeOk, cl_spec_l01In, sem_spec_l01In, hw, h, hkn, hk, hk', hg, lp, cl_spec_l05Value, sem_spec_l05Value, cl_spec_l05Statement, sem_spec_l05Statement, cl_spec_l05Kids, hkk, cl_spec_NameOk, q1, q2, q3, v1, v2, hK, hf, hq, ne_eq, namesB, okName, emptyS, f_nm, f_mo, f_to, f_nu, hkd, BB, if_true, if_false, ite_true, ite_false, ite_self]
              · simp (maxSteps := 10000000) (disch := first | assumption | omega) only [cProgram, cNode, F_spec_NodeOk, params, EG, EL, ↓reduceIte, Nat.reduceEqDiff, Nat.reduceAdd, Nat.reduceSub, Nat.reduceMul, Nat.reduceLeDiff, Nat.reduceLT, Int.reduceLT, Int.reduceLE, Int.reduceEq, Int.reduceToNat, reduceCtorEq, FB, ED, FT, cx_spec_NodeOk, cl_spec_l01In, sem_spec_l01In, hw, h, hkn, hk, hk', hg, lp, cl_spec_l05Value, sem_spec_l05Value, cl_spec_l05Statement, sem_spec_l05Statement, cl_spec_l05Kids, hkk, cl_spec_NameOk, q1, q2, q3, v1, v2, hK, hf, hq, ne_eq, namesB, okName, emptyS, f_nm, f_mo, f_to, f_nu, hkd, BB, if_true, if_false, ite_true, ite_false, ite_self]
            · simp (maxSteps := 10000000) (disch := first | assumption | omega) only [cProgram, cNode, F_spec_NodeOk, params, EG, EL, ↓reduceIte, Nat.reduceEqDiff, Nat.reduceAdd, Nat.reduceSub, Nat.reduceMul, Nat.reduceLeDiff, Nat.reduceLT, Int.reduceLT, Int.reduceLE, Int.reduceEq, Int.reduceToNat, reduceCtorEq, FB, ED, FT, cx_spec_NodeOk, cl_spec_l01In, sem_spec_l01In, hw, h, hkn, hk, hk', hg, lp, cl_spec_l05Value, sem_spec_l05Value, cl_spec_l05Statement, sem_spec_l05Statement, cl_spec_l05Kids, hkk, cl_spec_NameOk, q1, q2, q3, v1, v2, hK, hf, hq, ne_eq, namesB, okName, emptyS, f_nm, f_mo, f_to, hkd, BB, if_true, if_false, ite_true, ite_false, ite_self]
          · simp (maxSteps := 10000000) (disch := first | assumption | omega) only [cProgram, cNode, F_spec_NodeOk, params, EG, EL, ↓reduceIte, Nat.reduceEqDiff, Nat.reduceAdd, Nat.reduceSub, Nat.reduceMul, Nat.reduceLeDiff, Nat.reduceLT, Int.reduceLT, Int.reduceLE, Int.reduceEq, Int.reduceToNat, reduceCtorEq, FB, ED, FT, cx_spec_NodeOk, cl_spec_l01In, sem_spec_l01In, hw, h, hkn, hk, hk', hg, lp, cl_spec_l05Value, sem_spec_l05Value, cl_spec_l05Statement, sem_spec_l05Statement, cl_spec_l05Kids, hkk, cl_spec_NameOk, q1, q2, q3, v1, v2, hK, hf, hq, ne_eq, namesB, okName, emptyS, f_nm, f_mo, hkd, BB, if_true, if_false, ite_true, ite_false, ite_self]
    · have v1 : isValK 17 = false := by decide
      have v2 : isStmK 17 = true := by decide
      rw [hK] at hkk hkd lp
      cases hq : kidsF p.Nodes k 17 x.Kids
      all_goals rw [hq] at hkk
      · simp (maxSteps := 10000000) (disch := first | assumption | omega) only [cProgram, cNode, F_spec_NodeOk, params, EG, EL, ↓reduceIte, Nat.reduceEqDiff, Nat.reduceAdd, Nat.reduceSub, Nat.reduceMul, Nat.reduceLeDiff, Nat.reduceLT, Int.reduceLT, Int.reduceLE, Int.reduceEq, Int.reduceToNat, reduceCtorEq, FB, ED, FT, cx_spec_NodeOk, cl_spec_l01In, sem_spec_l01In, hw, h, hkn, hk, hk', hg, lp, cl_spec_l05Value, sem_spec_l05Value, cl_spec_l05Statement, sem_spec_l05Statement, cl_spec_l05Kids, hkk, cl_spec_NameOk, q1, q2, q3, v1, v2, hK, hf, hq, ne_eq, namesB, okName, emptyS, hkd, BB, if_true, if_false, ite_true, ite_false, ite_self]
      · skip
        cases f_nm : nameOkF x.Name
        · simp (maxSteps := 10000000) (disch := first | assumption | omega) only [cProgram, cNode, F_spec_NodeOk, params, EG, EL, ↓reduceIte, Nat.reduceEqDiff, Nat.reduceAdd, Nat.reduceSub, Nat.reduceMul, Nat.reduceLeDiff, Nat.reduceLT, Int.reduceLT, Int.reduceLE, Int.reduceEq, Int.reduceToNat, reduceCtorEq, FB, ED, FT, cx_spec_NodeOk, cl_spec_l01In, sem_spec_l01In, hw, h, hkn, hk, hk', hg, lp, cl_spec_l05Value, sem_spec_l05Value, cl_spec_l05Statement, sem_spec_l05Statement, cl_spec_l05Kids, hkk, cl_spec_NameOk, q1, q2, q3, v1, v2, hK, hf, hq, ne_eq, namesB, okName, emptyS, f_nm, hkd, BB, if_true, if_false, ite_true, ite_false, ite_self]
        · skip
          rcases eqP (x.More = (⟨#[]⟩ : ByteArray)) with f_mo | f_mo
          · skip
            rcases eqP (x.To = (⟨#[]⟩ : ByteArray)) with f_to | f_to
            · skip
              rcases eqP (x.Num = 0) with f_nu | f_nu
              · skip
                simp (maxSteps := 10000000) (disch := first | assumption | omega) only [cProgram, cNode, F_spec_NodeOk, params, EG, EL, ↓reduceIte, Nat.reduceEqDiff, Nat.reduceAdd, Nat.reduceSub, Nat.reduceMul, Nat.reduceLeDiff, Nat.reduceLT, Int.reduceLT, Int.reduceLE, Int.reduceEq, Int.reduceToNat, reduceCtorEq, FB, ED, FT, cx_spec_NodeOk, cl_spec_l01In, sem_spec_l01In, hw, h, hkn, hk, hk', hg, lp, cl_spec_l05Value, sem_spec_l05Value, cl_spec_l05Statement, sem_spec_l05Statement, cl_spec_l05Kids, hkk, cl_spec_NameOk, q1, q2, q3, v1, v2, hK, hf, hq, ne_eq, namesB, okName, emptyS, f_nm, f_mo, f_to, f_nu, hkd, BB, if_true, if_false, ite_true, ite_false, ite_self]
              · simp (maxSteps := 10000000) (disch := first | assumption | omega) only [cProgram, cNode, F_spec_NodeOk, params, EG, EL, ↓reduceIte, Nat.reduceEqDiff, Nat.reduceAdd, Nat.reduceSub, Nat.reduceMul, Nat.reduceLeDiff, Nat.reduceLT, Int.reduceLT, Int.reduceLE, Int.reduceEq, Int.reduceToNat, reduceCtorEq, FB, ED, FT, cx_spec_NodeOk, cl_spec_l01In, sem_spec_l01In, hw, h, hkn, hk, hk', hg, lp, cl_spec_l05Value, sem_spec_l05Value, cl_spec_l05Statement, sem_spec_l05Statement, cl_spec_l05Kids, hkk, cl_spec_NameOk, q1, q2, q3, v1, v2, hK, hf, hq, ne_eq, namesB, okName, emptyS, f_nm, f_mo, f_to, f_nu, hkd, BB, if_true, if_false, ite_true, ite_false, ite_self]
            · simp (maxSteps := 10000000) (disch := first | assumption | omega) only [cProgram, cNode, F_spec_NodeOk, params, EG, EL, ↓reduceIte, Nat.reduceEqDiff, Nat.reduceAdd, Nat.reduceSub, Nat.reduceMul, Nat.reduceLeDiff, Nat.reduceLT, Int.reduceLT, Int.reduceLE, Int.reduceEq, Int.reduceToNat, reduceCtorEq, FB, ED, FT, cx_spec_NodeOk, cl_spec_l01In, sem_spec_l01In, hw, h, hkn, hk, hk', hg, lp, cl_spec_l05Value, sem_spec_l05Value, cl_spec_l05Statement, sem_spec_l05Statement, cl_spec_l05Kids, hkk, cl_spec_NameOk, q1, q2, q3, v1, v2, hK, hf, hq, ne_eq, namesB, okName, emptyS, f_nm, f_mo, f_to, hkd, BB, if_true, if_false, ite_true, ite_false, ite_self]
          · simp (maxSteps := 10000000) (disch := first | assumption | omega) only [cProgram, cNode, F_spec_NodeOk, params, EG, EL, ↓reduceIte, Nat.reduceEqDiff, Nat.reduceAdd, Nat.reduceSub, Nat.reduceMul, Nat.reduceLeDiff, Nat.reduceLT, Int.reduceLT, Int.reduceLE, Int.reduceEq, Int.reduceToNat, reduceCtorEq, FB, ED, FT, cx_spec_NodeOk, cl_spec_l01In, sem_spec_l01In, hw, h, hkn, hk, hk', hg, lp, cl_spec_l05Value, sem_spec_l05Value, cl_spec_l05Statement, sem_spec_l05Statement, cl_spec_l05Kids, hkk, cl_spec_NameOk, q1, q2, q3, v1, v2, hK, hf, hq, ne_eq, namesB, okName, emptyS, f_nm, f_mo, hkd, BB, if_true, if_false, ite_true, ite_false, ite_self]
    · have v1 : isValK 18 = false := by decide
      have v2 : isStmK 18 = true := by decide
      rw [hK] at hkk hkd lp
      cases hq : kidsF p.Nodes k 18 x.Kids
      all_goals rw [hq] at hkk
      · simp (maxSteps := 10000000) (disch := first | assumption | omega) only [cProgram, cNode, F_spec_NodeOk, params, EG, EL, ↓reduceIte, Nat.reduceEqDiff, Nat.reduceAdd, Nat.reduceSub, Nat.reduceMul, Nat.reduceLeDiff, Nat.reduceLT, Int.reduceLT, Int.reduceLE, Int.reduceEq, Int.reduceToNat, reduceCtorEq, FB, ED, FT, cx_spec_NodeOk, cl_spec_l01In, sem_spec_l01In, hw, h, hkn, hk, hk', hg, lp, cl_spec_l05Value, sem_spec_l05Value, cl_spec_l05Statement, sem_spec_l05Statement, cl_spec_l05Kids, hkk, cl_spec_NameOk, q1, q2, q3, v1, v2, hK, hf, hq, ne_eq, namesB, okName, emptyS, hkd, BB, if_true, if_false, ite_true, ite_false, ite_self]
      · skip
        cases f_nm : nameOkF x.Name
        · simp (maxSteps := 10000000) (disch := first | assumption | omega) only [cProgram, cNode, F_spec_NodeOk, params, EG, EL, ↓reduceIte, Nat.reduceEqDiff, Nat.reduceAdd, Nat.reduceSub, Nat.reduceMul, Nat.reduceLeDiff, Nat.reduceLT, Int.reduceLT, Int.reduceLE, Int.reduceEq, Int.reduceToNat, reduceCtorEq, FB, ED, FT, cx_spec_NodeOk, cl_spec_l01In, sem_spec_l01In, hw, h, hkn, hk, hk', hg, lp, cl_spec_l05Value, sem_spec_l05Value, cl_spec_l05Statement, sem_spec_l05Statement, cl_spec_l05Kids, hkk, cl_spec_NameOk, q1, q2, q3, v1, v2, hK, hf, hq, ne_eq, namesB, okName, emptyS, f_nm, hkd, BB, if_true, if_false, ite_true, ite_false, ite_self]
        · skip
          rcases eqP (x.More = (⟨#[]⟩ : ByteArray)) with f_mo | f_mo
          · skip
            rcases eqP (x.To = (⟨#[]⟩ : ByteArray)) with f_to | f_to
            · skip
              rcases eqP (x.Num = 0) with f_nu | f_nu
              · skip
                simp (maxSteps := 10000000) (disch := first | assumption | omega) only [cProgram, cNode, F_spec_NodeOk, params, EG, EL, ↓reduceIte, Nat.reduceEqDiff, Nat.reduceAdd, Nat.reduceSub, Nat.reduceMul, Nat.reduceLeDiff, Nat.reduceLT, Int.reduceLT, Int.reduceLE, Int.reduceEq, Int.reduceToNat, reduceCtorEq, FB, ED, FT, cx_spec_NodeOk, cl_spec_l01In, sem_spec_l01In, hw, h, hkn, hk, hk', hg, lp, cl_spec_l05Value, sem_spec_l05Value, cl_spec_l05Statement, sem_spec_l05Statement, cl_spec_l05Kids, hkk, cl_spec_NameOk, q1, q2, q3, v1, v2, hK, hf, hq, ne_eq, namesB, okName, emptyS, f_nm, f_mo, f_to, f_nu, hkd, BB, if_true, if_false, ite_true, ite_false, ite_self]
              · simp (maxSteps := 10000000) (disch := first | assumption | omega) only [cProgram, cNode, F_spec_NodeOk, params, EG, EL, ↓reduceIte, Nat.reduceEqDiff, Nat.reduceAdd, Nat.reduceSub, Nat.reduceMul, Nat.reduceLeDiff, Nat.reduceLT, Int.reduceLT, Int.reduceLE, Int.reduceEq, Int.reduceToNat, reduceCtorEq, FB, ED, FT, cx_spec_NodeOk, cl_spec_l01In, sem_spec_l01In, hw, h, hkn, hk, hk', hg, lp, cl_spec_l05Value, sem_spec_l05Value, cl_spec_l05Statement, sem_spec_l05Statement, cl_spec_l05Kids, hkk, cl_spec_NameOk, q1, q2, q3, v1, v2, hK, hf, hq, ne_eq, namesB, okName, emptyS, f_nm, f_mo, f_to, f_nu, hkd, BB, if_true, if_false, ite_true, ite_false, ite_self]
            · simp (maxSteps := 10000000) (disch := first | assumption | omega) only [cProgram, cNode, F_spec_NodeOk, params, EG, EL, ↓reduceIte, Nat.reduceEqDiff, Nat.reduceAdd, Nat.reduceSub, Nat.reduceMul, Nat.reduceLeDiff, Nat.reduceLT, Int.reduceLT, Int.reduceLE, Int.reduceEq, Int.reduceToNat, reduceCtorEq, FB, ED, FT, cx_spec_NodeOk, cl_spec_l01In, sem_spec_l01In, hw, h, hkn, hk, hk', hg, lp, cl_spec_l05Value, sem_spec_l05Value, cl_spec_l05Statement, sem_spec_l05Statement, cl_spec_l05Kids, hkk, cl_spec_NameOk, q1, q2, q3, v1, v2, hK, hf, hq, ne_eq, namesB, okName, emptyS, f_nm, f_mo, f_to, hkd, BB, if_true, if_false, ite_true, ite_false, ite_self]
          · simp (maxSteps := 10000000) (disch := first | assumption | omega) only [cProgram, cNode, F_spec_NodeOk, params, EG, EL, ↓reduceIte, Nat.reduceEqDiff, Nat.reduceAdd, Nat.reduceSub, Nat.reduceMul, Nat.reduceLeDiff, Nat.reduceLT, Int.reduceLT, Int.reduceLE, Int.reduceEq, Int.reduceToNat, reduceCtorEq, FB, ED, FT, cx_spec_NodeOk, cl_spec_l01In, sem_spec_l01In, hw, h, hkn, hk, hk', hg, lp, cl_spec_l05Value, sem_spec_l05Value, cl_spec_l05Statement, sem_spec_l05Statement, cl_spec_l05Kids, hkk, cl_spec_NameOk, q1, q2, q3, v1, v2, hK, hf, hq, ne_eq, namesB, okName, emptyS, f_nm, f_mo, hkd, BB, if_true, if_false, ite_true, ite_false, ite_self]
    · have v1 : isValK 19 = false := by decide
      have v2 : isStmK 19 = true := by decide
      rw [hK] at hkk hkd lp
      cases hq : kidsF p.Nodes k 19 x.Kids
      all_goals rw [hq] at hkk
      · simp (maxSteps := 10000000) (disch := first | assumption | omega) only [cProgram, cNode, F_spec_NodeOk, params, EG, EL, ↓reduceIte, Nat.reduceEqDiff, Nat.reduceAdd, Nat.reduceSub, Nat.reduceMul, Nat.reduceLeDiff, Nat.reduceLT, Int.reduceLT, Int.reduceLE, Int.reduceEq, Int.reduceToNat, reduceCtorEq, FB, ED, FT, cx_spec_NodeOk, cl_spec_l01In, sem_spec_l01In, hw, h, hkn, hk, hk', hg, lp, cl_spec_l05Value, sem_spec_l05Value, cl_spec_l05Statement, sem_spec_l05Statement, cl_spec_l05Kids, hkk, cl_spec_NameOk, q1, q2, q3, v1, v2, hK, hf, hq, ne_eq, namesB, okName, emptyS, hkd, BB, if_true, if_false, ite_true, ite_false, ite_self]
      · skip
        rcases eqP (x.Name = (⟨#[]⟩ : ByteArray)) with f_nm | f_nm
        · skip
          rcases eqP (x.More = (⟨#[]⟩ : ByteArray)) with f_mo | f_mo
          · skip
            rcases eqP (x.To = (⟨#[]⟩ : ByteArray)) with f_to | f_to
            · skip
              rcases eqP (x.Num = 0) with f_nu | f_nu
              · skip
                simp (maxSteps := 10000000) (disch := first | assumption | omega) only [cProgram, cNode, F_spec_NodeOk, params, EG, EL, ↓reduceIte, Nat.reduceEqDiff, Nat.reduceAdd, Nat.reduceSub, Nat.reduceMul, Nat.reduceLeDiff, Nat.reduceLT, Int.reduceLT, Int.reduceLE, Int.reduceEq, Int.reduceToNat, reduceCtorEq, FB, ED, FT, cx_spec_NodeOk, cl_spec_l01In, sem_spec_l01In, hw, h, hkn, hk, hk', hg, lp, cl_spec_l05Value, sem_spec_l05Value, cl_spec_l05Statement, sem_spec_l05Statement, cl_spec_l05Kids, hkk, cl_spec_NameOk, q1, q2, q3, v1, v2, hK, hf, hq, ne_eq, namesB, okName, emptyS, f_nm, f_mo, f_to, f_nu, hkd, BB, if_true, if_false, ite_true, ite_false, ite_self]
              · simp (maxSteps := 10000000) (disch := first | assumption | omega) only [cProgram, cNode, F_spec_NodeOk, params, EG, EL, ↓reduceIte, Nat.reduceEqDiff, Nat.reduceAdd, Nat.reduceSub, Nat.reduceMul, Nat.reduceLeDiff, Nat.reduceLT, Int.reduceLT, Int.reduceLE, Int.reduceEq, Int.reduceToNat, reduceCtorEq, FB, ED, FT, cx_spec_NodeOk, cl_spec_l01In, sem_spec_l01In, hw, h, hkn, hk, hk', hg, lp, cl_spec_l05Value, sem_spec_l05Value, cl_spec_l05Statement, sem_spec_l05Statement, cl_spec_l05Kids, hkk, cl_spec_NameOk, q1, q2, q3, v1, v2, hK, hf, hq, ne_eq, namesB, okName, emptyS, f_nm, f_mo, f_to, f_nu, hkd, BB, if_true, if_false, ite_true, ite_false, ite_self]
            · simp (maxSteps := 10000000) (disch := first | assumption | omega) only [cProgram, cNode, F_spec_NodeOk, params, EG, EL, ↓reduceIte, Nat.reduceEqDiff, Nat.reduceAdd, Nat.reduceSub, Nat.reduceMul, Nat.reduceLeDiff, Nat.reduceLT, Int.reduceLT, Int.reduceLE, Int.reduceEq, Int.reduceToNat, reduceCtorEq, FB, ED, FT, cx_spec_NodeOk, cl_spec_l01In, sem_spec_l01In, hw, h, hkn, hk, hk', hg, lp, cl_spec_l05Value, sem_spec_l05Value, cl_spec_l05Statement, sem_spec_l05Statement, cl_spec_l05Kids, hkk, cl_spec_NameOk, q1, q2, q3, v1, v2, hK, hf, hq, ne_eq, namesB, okName, emptyS, f_nm, f_mo, f_to, hkd, BB, if_true, if_false, ite_true, ite_false, ite_self]
          · simp (maxSteps := 10000000) (disch := first | assumption | omega) only [cProgram, cNode, F_spec_NodeOk, params, EG, EL, ↓reduceIte, Nat.reduceEqDiff, Nat.reduceAdd, Nat.reduceSub, Nat.reduceMul, Nat.reduceLeDiff, Nat.reduceLT, Int.reduceLT, Int.reduceLE, Int.reduceEq, Int.reduceToNat, reduceCtorEq, FB, ED, FT, cx_spec_NodeOk, cl_spec_l01In, sem_spec_l01In, hw, h, hkn, hk, hk', hg, lp, cl_spec_l05Value, sem_spec_l05Value, cl_spec_l05Statement, sem_spec_l05Statement, cl_spec_l05Kids, hkk, cl_spec_NameOk, q1, q2, q3, v1, v2, hK, hf, hq, ne_eq, namesB, okName, emptyS, f_nm, f_mo, hkd, BB, if_true, if_false, ite_true, ite_false, ite_self]
        · simp (maxSteps := 10000000) (disch := first | assumption | omega) only [cProgram, cNode, F_spec_NodeOk, params, EG, EL, ↓reduceIte, Nat.reduceEqDiff, Nat.reduceAdd, Nat.reduceSub, Nat.reduceMul, Nat.reduceLeDiff, Nat.reduceLT, Int.reduceLT, Int.reduceLE, Int.reduceEq, Int.reduceToNat, reduceCtorEq, FB, ED, FT, cx_spec_NodeOk, cl_spec_l01In, sem_spec_l01In, hw, h, hkn, hk, hk', hg, lp, cl_spec_l05Value, sem_spec_l05Value, cl_spec_l05Statement, sem_spec_l05Statement, cl_spec_l05Kids, hkk, cl_spec_NameOk, q1, q2, q3, v1, v2, hK, hf, hq, ne_eq, namesB, okName, emptyS, f_nm, hkd, BB, if_true, if_false, ite_true, ite_false, ite_self]
    · have v1 : isValK 20 = false := by decide
      have v2 : isStmK 20 = false := by decide
      rw [hK] at hkk hkd lp
      cases hq : kidsF p.Nodes k 20 x.Kids
      all_goals rw [hq] at hkk
      · simp (maxSteps := 10000000) (disch := first | assumption | omega) only [cProgram, cNode, F_spec_NodeOk, params, EG, EL, ↓reduceIte, Nat.reduceEqDiff, Nat.reduceAdd, Nat.reduceSub, Nat.reduceMul, Nat.reduceLeDiff, Nat.reduceLT, Int.reduceLT, Int.reduceLE, Int.reduceEq, Int.reduceToNat, reduceCtorEq, FB, ED, FT, cx_spec_NodeOk, cl_spec_l01In, sem_spec_l01In, hw, h, hkn, hk, hk', hg, lp, cl_spec_l05Value, sem_spec_l05Value, cl_spec_l05Statement, sem_spec_l05Statement, cl_spec_l05Kids, hkk, cl_spec_NameOk, q1, q2, q3, v1, v2, hK, hf, hq, ne_eq, namesB, okName, emptyS, hkd, BB, if_true, if_false, ite_true, ite_false, ite_self]
      · skip
        rcases eqP (x.Name = (⟨#[]⟩ : ByteArray)) with f_nm | f_nm
        · skip
          rcases eqP (x.More = (⟨#[]⟩ : ByteArray)) with f_mo | f_mo
          · skip
            rcases eqP (x.To = (⟨#[]⟩ : ByteArray)) with f_to | f_to
            · skip
              rcases eqP (x.Num = 0) with f_nu | f_nu
              · skip
                simp (maxSteps := 10000000) (disch := first | assumption | omega) only [cProgram, cNode, F_spec_NodeOk, params, EG, EL, ↓reduceIte, Nat.reduceEqDiff, Nat.reduceAdd, Nat.reduceSub, Nat.reduceMul, Nat.reduceLeDiff, Nat.reduceLT, Int.reduceLT, Int.reduceLE, Int.reduceEq, Int.reduceToNat, reduceCtorEq, FB, ED, FT, cx_spec_NodeOk, cl_spec_l01In, sem_spec_l01In, hw, h, hkn, hk, hk', hg, lp, cl_spec_l05Value, sem_spec_l05Value, cl_spec_l05Statement, sem_spec_l05Statement, cl_spec_l05Kids, hkk, cl_spec_NameOk, q1, q2, q3, v1, v2, hK, hf, hq, ne_eq, namesB, okName, emptyS, f_nm, f_mo, f_to, f_nu, hkd, BB, if_true, if_false, ite_true, ite_false, ite_self]
              · simp (maxSteps := 10000000) (disch := first | assumption | omega) only [cProgram, cNode, F_spec_NodeOk, params, EG, EL, ↓reduceIte, Nat.reduceEqDiff, Nat.reduceAdd, Nat.reduceSub, Nat.reduceMul, Nat.reduceLeDiff, Nat.reduceLT, Int.reduceLT, Int.reduceLE, Int.reduceEq, Int.reduceToNat, reduceCtorEq, FB, ED, FT, cx_spec_NodeOk, cl_spec_l01In, sem_spec_l01In, hw, h, hkn, hk, hk', hg, lp, cl_spec_l05Value, sem_spec_l05Value, cl_spec_l05Statement, sem_spec_l05Statement, cl_spec_l05Kids, hkk, cl_spec_NameOk, q1, q2, q3, v1, v2, hK, hf, hq, ne_eq, namesB, okName, emptyS, f_nm, f_mo, f_to, f_nu, hkd, BB, if_true, if_false, ite_true, ite_false, ite_self]
            · simp (maxSteps := 10000000) (disch := first | assumption | omega) only [cProgram, cNode, F_spec_NodeOk, params, EG, EL, ↓reduceIte, Nat.reduceEqDiff, Nat.reduceAdd, Nat.reduceSub, Nat.reduceMul, Nat.reduceLeDiff, Nat.reduceLT, Int.reduceLT, Int.reduceLE, Int.reduceEq, Int.reduceToNat, reduceCtorEq, FB, ED, FT, cx_spec_NodeOk, cl_spec_l01In, sem_spec_l01In, hw, h, hkn, hk, hk', hg, lp, cl_spec_l05Value, sem_spec_l05Value, cl_spec_l05Statement, sem_spec_l05Statement, cl_spec_l05Kids, hkk, cl_spec_NameOk, q1, q2, q3, v1, v2, hK, hf, hq, ne_eq, namesB, okName, emptyS, f_nm, f_mo, f_to, hkd, BB, if_true, if_false, ite_true, ite_false, ite_self]
          · simp (maxSteps := 10000000) (disch := first | assumption | omega) only [cProgram, cNode, F_spec_NodeOk, params, EG, EL, ↓reduceIte, Nat.reduceEqDiff, Nat.reduceAdd, Nat.reduceSub, Nat.reduceMul, Nat.reduceLeDiff, Nat.reduceLT, Int.reduceLT, Int.reduceLE, Int.reduceEq, Int.reduceToNat, reduceCtorEq, FB, ED, FT, cx_spec_NodeOk, cl_spec_l01In, sem_spec_l01In, hw, h, hkn, hk, hk', hg, lp, cl_spec_l05Value, sem_spec_l05Value, cl_spec_l05Statement, sem_spec_l05Statement, cl_spec_l05Kids, hkk, cl_spec_NameOk, q1, q2, q3, v1, v2, hK, hf, hq, ne_eq, namesB, okName, emptyS, f_nm, f_mo, hkd, BB, if_true, if_false, ite_true, ite_false, ite_self]
        · simp (maxSteps := 10000000) (disch := first | assumption | omega) only [cProgram, cNode, F_spec_NodeOk, params, EG, EL, ↓reduceIte, Nat.reduceEqDiff, Nat.reduceAdd, Nat.reduceSub, Nat.reduceMul, Nat.reduceLeDiff, Nat.reduceLT, Int.reduceLT, Int.reduceLE, Int.reduceEq, Int.reduceToNat, reduceCtorEq, FB, ED, FT, cx_spec_NodeOk, cl_spec_l01In, sem_spec_l01In, hw, h, hkn, hk, hk', hg, lp, cl_spec_l05Value, sem_spec_l05Value, cl_spec_l05Statement, sem_spec_l05Statement, cl_spec_l05Kids, hkk, cl_spec_NameOk, q1, q2, q3, v1, v2, hK, hf, hq, ne_eq, namesB, okName, emptyS, f_nm, hkd, BB, if_true, if_false, ite_true, ite_false, ite_self]
  · simp (maxSteps := 10000000) (disch := first | assumption | omega) only [cProgram, F_spec_NodeOk, params, EG, EL, ↓reduceIte, Nat.reduceEqDiff, Nat.reduceAdd, Nat.reduceSub, Nat.reduceMul, Nat.reduceLeDiff, Nat.reduceLT, Int.reduceLT, Int.reduceLE, Int.reduceEq, Int.reduceToNat, reduceCtorEq, FB, ED, FT, cx_spec_NodeOk, cl_spec_l01In, sem_spec_l01In, hw, h, BB, if_true, if_false, ite_true, ite_false, ite_self]
def rngL (k : Nat) : List Int → List Int → Bool
  | _, [] => true
  | seen, x :: r => decide (0 ≤ x ∧ x ≤ (k : Int) - 1) && (decide (x ∉ seen) && rngL k (seen ++ [x]) r)
theorem rngL_eq {k : Nat} : ∀ {seen xs : List Int}, rngL k seen xs = (xs.all (fun x => decide (0 ≤ x ∧ x ≤ (k : Int) - 1)) && freshL seen xs)
  | seen, [] => rfl
  | seen, x :: r => by
    unfold rngL freshL
    rw [rngL_eq, List.all_cons]
    cases decide (0 ≤ x ∧ x ≤ (k : Int) - 1) <;> cases decide (x ∉ seen) <;> simp
theorem kidK_in {ns : List DNode} {k : Nat} {x : Int} (h : kidK ns k x ≠ 0) : 0 ≤ x ∧ x ≤ (k : Int) - 1 := by
  unfold kidK at h
  by_cases hx : 0 ≤ x ∧ x ≤ (k : Int) - 1
  · exact hx
  · rw [if_neg hx] at h; exact absurd rfl h
theorem kidsF_in {ns : List DNode} {k : Nat} {kind : Int} {xs : List Int} (h : kidsF ns k kind xs = true) : ∀ x ∈ xs, 0 ≤ x ∧ x ≤ (k : Int) - 1 := by
  have hv : ∀ ys : List Int, valsB ns k ys = true → ∀ x ∈ ys, 0 ≤ x ∧ x ≤ (k : Int) - 1 := by
    intro ys hy x hx
    have := List.all_eq_true.1 hy x hx
    refine kidK_in (ns := ns) (fun e => ?_)
    rw [e] at this; simp [isValK] at this
  have hb : ∀ ys : List Int, blksB ns k ys = true → ∀ x ∈ ys, 0 ≤ x ∧ x ≤ (k : Int) - 1 := by
    intro ys hy x hx
    have := List.all_eq_true.1 hy x hx
    refine kidK_in (ns := ns) (fun e => ?_)
    rw [e] at this; simp [isBlkK] at this
  have hs : ∀ ys : List Int, stmsB ns k ys = true → ∀ x ∈ ys, 0 ≤ x ∧ x ≤ (k : Int) - 1 := by
    intro ys hy x hx
    have := List.all_eq_true.1 hy x hx
    refine kidK_in (ns := ns) (fun e => ?_)
    rw [e] at this; simp [isStmK] at this
  unfold kidsF at h
  split at h
  · intro x hx
    have : xs = [] := List.length_eq_zero_iff.1 (of_decide_eq_true h)
    rw [this] at hx; cases hx
  split at h
  · rw [Bool.and_eq_true, decide_eq_true_eq] at h
    rw [← List.take_of_length_le (Nat.le_of_eq h.1)]; exact hv _ h.2
  split at h
  · rw [Bool.and_eq_true, decide_eq_true_eq] at h
    rw [← List.take_of_length_le (Nat.le_of_eq h.1)]; exact hv _ h.2
  split at h
  · rw [Bool.and_eq_true, Bool.and_eq_true] at h
    intro x hx
    rw [← List.take_append_drop 1 xs] at hx
    rcases List.mem_append.1 hx with h1 | h1
    · exact hv _ h.2.1 x h1
    · exact hb _ h.2.2 x h1
  split at h
  · rw [Bool.and_eq_true, Bool.and_eq_true] at h
    intro x hx
    rw [← List.take_append_drop 1 xs] at hx
    rcases List.mem_append.1 hx with h1 | h1
    · exact hv _ h.2.1 x h1
    · exact hb _ h.2.2 x h1
  · rw [Bool.and_eq_true] at h
    exact hs _ h.1
theorem loop0_impl_NodeOk (p : DProgram) (k : Nat) (hk : (k : Int) ≤ 1099511627776) (x : DNode) (hx : x.Kids.length ≤ 1099511627776) : loopV X_impl_NodeOk 0 [1, 2, 5, 28, 29, 30] [(1, [2, 5]), (0, [4])] B0_impl_NodeOk ⟨[(1, .int .i64 (k : Int)), (2, .ptr ⟨0, none, 0⟩ 3 0 0), (5, .ptr ⟨1, none, 0⟩ 6 0 0), (28, .tree 1 (x.Kids.map cI)), (29, .int .i64 (x.Kids.length : Int)), (30, .int .i64 0)], [some ⟨true, 0, 3, [[.tree 6 (p.Nodes.map cNode), .tree 4 (p.Monitors.map cMonitor), .tree 4 (p.Processes.map cProcess)]]⟩, some ⟨true, 0, 6, [[.int .i64 x.Kind, .int .i64 x.Num, .str x.Name, .str x.More, .str x.To, .tree 1 (x.Kids.map cI)]]⟩]⟩ = okR (rngL k [] x.Kids) 0 ⟨[(2, .ptr ⟨0, none, 0⟩ 3 0 0), (5, .ptr ⟨1, none, 0⟩ 6 0 0)], [some ⟨true, 0, 3, [[.tree 6 (p.Nodes.map cNode), .tree 4 (p.Monitors.map cMonitor), .tree 4 (p.Processes.map cProcess)]]⟩, some ⟨true, 0, 6, [[.int .i64 x.Kind, .int .i64 x.Num, .str x.Name, .str x.More, .str x.To, .tree 1 (x.Kids.map cI)]]⟩]⟩ 4 := by
  refine loop_list x.Kids (fun i (a : List Int) => a = x.Kids.take i) (fun i _ => ⟨[(1, .int .i64 (k : Int)), (2, .ptr ⟨0, none, 0⟩ 3 0 0), (5, .ptr ⟨1, none, 0⟩ 6 0 0), (28, .tree 1 (x.Kids.map cI)), (29, .int .i64 (x.Kids.length : Int)), (30, .int .i64 ((i : Nat) : Int))], [some ⟨true, 0, 3, [[.tree 6 (p.Nodes.map cNode), .tree 4 (p.Monitors.map cMonitor), .tree 4 (p.Processes.map cProcess)]]⟩, some ⟨true, 0, 6, [[.int .i64 x.Kind, .int .i64 x.Num, .str x.Name, .str x.More, .str x.To, .tree 1 (x.Kids.map cI)]]⟩]⟩) (fun rest a => okR (rngL k a rest) 0 ⟨[(2, .ptr ⟨0, none, 0⟩ 3 0 0), (5, .ptr ⟨1, none, 0⟩ 6 0 0)], [some ⟨true, 0, 3, [[.tree 6 (p.Nodes.map cNode), .tree 4 (p.Monitors.map cMonitor), .tree 4 (p.Processes.map cProcess)]]⟩, some ⟨true, 0, 6, [[.int .i64 x.Kind, .int .i64 x.Num, .str x.Name, .str x.More, .str x.To, .tree 1 (x.Kids.map cI)]]⟩]⟩ 4) ?_ ?_ [] (by simp)
  · intro _ _
    rw [loopV_by B0_impl_NodeOk.eq_1]
    simp only [EG, EL, ↓reduceIte, Nat.reduceEqDiff, Nat.reduceAdd, Nat.reduceSub, Nat.reduceMul, Nat.reduceLeDiff, Nat.reduceLT, Int.reduceLT, Int.reduceLE, Int.reduceEq, Int.reduceToNat, reduceCtorEq, FB, ED, int_lt_irrefl, rngL, okR_true]
  · rintro i hi0 y rest a rfl rfl rfl ih
    have hi : (i : Int) < (x.Kids.length : Int) := by omega
    have hi1 : (i : Int) ≤ (x.Kids.length : Int) := by omega
    have hm : (x.Kids.take i).length = i := by rw [List.length_take]; omega
    have hm2 : (x.Kids.take i).length ≤ 140737488351232 := by omega
    have hw : IntKind.wrap .i64 ((k : Int) - 1) = (k : Int) - 1 := wrapI (by omega) (by omega)
    have hgi := getRow cI x.Kids hi0
    have i1 := ih (x.Kids.take i ++ [x.Kids[i]]) (by rw [List.take_succ_eq_append_getElem hi0])
    rw [loopV_by B0_impl_NodeOk.eq_1]
    generalize x.Kids[i] = y at i1 hgi ⊢
    unfold rngL
    rcases eqP (0 ≤ y ∧ y ≤ (k : Int) - 1) with h1 | h1
    · rcases eqP (y ∈ x.Kids.take i) with h2 | h2
      · simp (maxSteps := 10000000) (disch := first | assumption | omega) only [EG, EL, ↓reduceIte, Nat.reduceEqDiff, Nat.reduceAdd, Nat.reduceSub, Nat.reduceMul, Nat.reduceLeDiff, Nat.reduceLT, Int.reduceLT, Int.reduceLE, Int.reduceEq, Int.reduceToNat, reduceCtorEq, FB, ED, FT, hi, hi0, hi1, hm, wrap_succ, hw, hgi, cx_impl_NodeOk, cl_impl_within, sem_impl_within, seg_take, cl_slices_Contains_int_int, sem_slices_Contains_int_int, Nat.sub_zero, h1, h2, okR_false, BB, if_true, if_false, ite_true, ite_false, ite_self]
      · simp (maxSteps := 10000000) (disch := first | assumption | omega) only [EG, EL, ↓reduceIte, Nat.reduceEqDiff, Nat.reduceAdd, Nat.reduceSub, Nat.reduceMul, Nat.reduceLeDiff, Nat.reduceLT, Int.reduceLT, Int.reduceLE, Int.reduceEq, Int.reduceToNat, reduceCtorEq, FB, ED, FT, hi, hi0, hi1, hm, wrap_succ, hw, hgi, cx_impl_NodeOk, cl_impl_within, sem_impl_within, seg_take, cl_slices_Contains_int_int, sem_slices_Contains_int_int, Nat.sub_zero, h1, h2, i1, BB, if_true, if_false, ite_true, ite_false, ite_self]
    · simp (maxSteps := 10000000) (disch := first | assumption | omega) only [EG, EL, ↓reduceIte, Nat.reduceEqDiff, Nat.reduceAdd, Nat.reduceSub, Nat.reduceMul, Nat.reduceLeDiff, Nat.reduceLT, Int.reduceLT, Int.reduceLE, Int.reduceEq, Int.reduceToNat, reduceCtorEq, FB, ED, FT, hi, hi0, hi1, hm, wrap_succ, hw, hgi, cx_impl_NodeOk, cl_impl_within, sem_impl_within, h1, okR_false, BB, if_true, if_false, ite_true, ite_false, ite_self]
set_option maxHeartbeats 4000000 in
theorem sem_impl_NodeOk (p : DProgram) (hp : gdN p) (y : Int) : S_impl_NodeOk.sem [.agg (cProgram p), .int .i64 y] = some (.bool (nodeOkF p.Nodes y), []) := by
  have h0 := hp.1
  have hq := sem_impl_isNode p h0 y
  rw [sg_impl_NodeOk, sem_go]
  unfold nodeOkF
  unfold inNd at hq
  simp only [cProgram] at hq
  rcases eqP (0 ≤ y ∧ y ≤ (p.Nodes.length : Int) - 1) with h | h
  · have hy := of_eq_true h
    obtain ⟨k, rfl⟩ : ∃ n : Nat, y = (n : Int) := ⟨y.toNat, by omega⟩
    simp only [h, decide_true] at hq
    have hk : k < p.Nodes.length := by omega
    have hk' : (k : Int) < (p.Nodes.length : Int) := by omega
    have hkn : ((k : Int) ≤ (p.Nodes.length : Int) - 1) = True := eq_true (by omega)
    have hg := getRowN p.Nodes hk
    have hgd := gdN_get hp hk
    have lp := loop0_impl_NodeOk p k (by omega) (ndF p.Nodes k) hgd.1
    have hkk := sem_impl_kidsOk p hp k hk (ndF p.Nodes k) hgd.1
    have hnn := sem_impl_namesOk (ndF p.Nodes k) hgd.2
    rw [Int.toNat_natCast]
    unfold nodeB
    generalize ndF p.Nodes k = x at *
    simp only [cProgram, cNode] at hkk hnn
    cases hkd : kindB x.Kind
    · have hv : (1 ≤ x.Kind ∧ x.Kind ≤ 5) = False := eq_false (fun e => by simp [kindB, isValK, e] at hkd)
      have hs : (11 ≤ x.Kind ∧ x.Kind ≤ 20) = False := eq_false (fun e => by
        simp only [kindB, isStmK, isBlkK, Bool.or_eq_false_iff, decide_eq_false_iff_not] at hkd; omega)
      simp (maxSteps := 10000000) (disch := first | assumption | omega) only [cProgram, cNode, F_impl_NodeOk, params, EG, EL, ↓reduceIte, Nat.reduceEqDiff, Nat.reduceAdd, Nat.reduceSub, Nat.reduceMul, Nat.reduceLeDiff, Nat.reduceLT, Int.reduceLT, Int.reduceLE, Int.reduceEq, Int.reduceToNat, reduceCtorEq, FB, ED, FT, cx_impl_NodeOk, cl_impl_isNode, hq, cl_impl_within, sem_impl_within, hkn, hk, hk', hg, hv, hs, BB, if_true, if_false, ite_true, ite_false, ite_self]
    · replace hkk := fun h1 => hkk h1 hkd
      replace hnn := hnn hkd
      have hR := rngL_eq (k := k) (seen := []) (xs := x.Kids)
      cases hr : rngL k [] x.Kids
      · rw [hr, okR_false] at lp
        have hz : (freshL [] x.Kids && (true && (kidsF p.Nodes k x.Kind x.Kids && namesB x))) = false := by
          cases hf : freshL [] x.Kids
          · rfl
          · cases hkf : kidsF p.Nodes k x.Kind x.Kids
            · rfl
            · exfalso
              have := kidsF_in hkf
              rw [hr, hf] at hR
              have h2 : x.Kids.all (fun x => decide (0 ≤ x ∧ x ≤ (k : Int) - 1)) = true := List.all_eq_true.2 (fun z hz => decide_eq_true (this z hz))
              rw [h2] at hR; simp at hR
        rw [hz]
        rcases eqP (1 ≤ x.Kind ∧ x.Kind ≤ 5) with hv | hv
        · simp (maxSteps := 10000000) (disch := first | assumption | omega) only [cProgram, cNode, F_impl_NodeOk, params, EG, EL, ↓reduceIte, Nat.reduceEqDiff, Nat.reduceAdd, Nat.reduceSub, Nat.reduceMul, Nat.reduceLeDiff, Nat.reduceLT, Int.reduceLT, Int.reduceLE, Int.reduceEq, Int.reduceToNat, reduceCtorEq, FB, ED, FT, cx_impl_NodeOk, cl_impl_isNode, hq, cl_impl_within, sem_impl_within, hkn, hk, hk', hg, hv, lp, BB, if_true, if_false, ite_true, ite_false, ite_self]
        · have hs : (11 ≤ x.Kind ∧ x.Kind ≤ 20) = True := eq_true (by
            have := kind15 hkd; have := of_eq_false hv; omega)
          simp (maxSteps := 10000000) (disch := first | assumption | omega) only [cProgram, cNode, F_impl_NodeOk, params, EG, EL, ↓reduceIte, Nat.reduceEqDiff, Nat.reduceAdd, Nat.reduceSub, Nat.reduceMul, Nat.reduceLeDiff, Nat.reduceLT, Int.reduceLT, Int.reduceLE, Int.reduceEq, Int.reduceToNat, reduceCtorEq, FB, ED, FT, cx_impl_NodeOk, cl_impl_isNode, hq, cl_impl_within, sem_impl_within, hkn, hk, hk', hg, hv, hs, lp, BB, if_true, if_false, ite_true, ite_false, ite_self]
      · rw [hr, okR_true] at lp
        rw [hr] at hR
        have hR' := Bool.and_eq_true_iff.1 hR.symm
        have hf := hR'.2
        have hkk2 := hkk (fun z hz => of_decide_eq_true (List.all_eq_true.1 hR'.1 z hz))
        rw [hf]
        rcases eqP (1 ≤ x.Kind ∧ x.Kind ≤ 5) with hv | hv
        · cases hkf : kidsF p.Nodes k x.Kind x.Kids
          all_goals rw [hkf] at hkk2
          all_goals simp (maxSteps := 10000000) (disch := first | assumption | omega) only [cProgram, cNode, F_impl_NodeOk, params, EG, EL, ↓reduceIte, Nat.reduceEqDiff, Nat.reduceAdd, Nat.reduceSub, Nat.reduceMul, Nat.reduceLeDiff, Nat.reduceLT, Int.reduceLT, Int.reduceLE, Int.reduceEq, Int.reduceToNat, reduceCtorEq, FB, ED, FT, cx_impl_NodeOk, cl_impl_isNode, hq, cl_impl_within, sem_impl_within, hkn, hk, hk', hg, hv, lp, cl_impl_kidsOk, hkk2, cl_impl_namesOk, hnn, BB, if_true, if_false, ite_true, ite_false, ite_self]
        · have hs : (11 ≤ x.Kind ∧ x.Kind ≤ 20) = True := eq_true (by
            have := kind15 hkd; have := of_eq_false hv; omega)
          cases hkf : kidsF p.Nodes k x.Kind x.Kids
          all_goals rw [hkf] at hkk2
          all_goals simp (maxSteps := 10000000) (disch := first | assumption | omega) only [cProgram, cNode, F_impl_NodeOk, params, EG, EL, ↓reduceIte, Nat.reduceEqDiff, Nat.reduceAdd, Nat.reduceSub, Nat.reduceMul, Nat.reduceLeDiff, Nat.reduceLT, Int.reduceLT, Int.reduceLE, Int.reduceEq, Int.reduceToNat, reduceCtorEq, FB, ED, FT, cx_impl_NodeOk, cl_impl_isNode, hq, cl_impl_within, sem_impl_within, hkn, hk, hk', hg, hv, hs, lp, cl_impl_kidsOk, hkk2, cl_impl_namesOk, hnn, BB, if_true, if_false, ite_true, ite_false, ite_self]
  · simp only [h, decide_false] at hq
    simp (maxSteps := 10000000) (disch := first | assumption | omega) only [cProgram, F_impl_NodeOk, params, EG, EL, ↓reduceIte, Nat.reduceEqDiff, Nat.reduceAdd, Nat.reduceSub, Nat.reduceMul, Nat.reduceLeDiff, Nat.reduceLT, Int.reduceLT, Int.reduceLE, Int.reduceEq, Int.reduceToNat, reduceCtorEq, FB, ED, FT, cx_impl_NodeOk, cl_impl_isNode, hq, h, BB, if_true, if_false, ite_true, ite_false, ite_self]
def upF (out : List Int) : Int → List Int → Int
  | a, [] => a
  | a, x :: r => upF out (if a < out.getD x.toNat 0 + 1 then out.getD x.toNat 0 + 1 else a) r
theorem upF_le {out : List Int} : ∀ {a : Int} {xs : List Int}, a ≤ upF out a xs
  | a, [] => Int.le_refl _
  | a, x :: r => by
    unfold upF
    refine Int.le_trans ?_ (upF_le (xs := r))
    by_cases h : a < out.getD x.toNat 0 + 1
    · rw [if_pos h]; omega
    · rw [if_neg h]; omega
theorem getD_le {out : List Int} (h : ∀ x ∈ out, 0 ≤ x ∧ x ≤ 10) (k : Nat) : 0 ≤ out.getD k 0 ∧ out.getD k 0 ≤ 10 := by
  rcases Nat.lt_or_ge k out.length with hk | hk
  · have := h _ (List.getElem_mem hk)
    simpa [hk] using this
  · simp [hk]
theorem upF_ge {out : List Int} (ho : ∀ x ∈ out, 0 ≤ x ∧ x ≤ 10) : ∀ {a : Int} {xs : List Int}, a ≤ 11 → upF out a xs ≤ 11
  | a, [], h => h
  | a, x :: r, h => by
    unfold upF
    have := getD_le ho x.toNat
    refine upF_ge ho ?_
    by_cases h : a < out.getD x.toNat 0 + 1
    · rw [if_pos h]; omega
    · rw [if_neg h]; omega
theorem upF_app {out z : List Int} : ∀ {a : Int} {xs : List Int}, (∀ x ∈ xs, 0 ≤ x ∧ x ≤ (out.length : Int) - 1) → upF (out ++ z) a xs = upF out a xs
  | a, [], h => rfl
  | a, x :: r, h => by
    have h1 := h x (by simp)
    have h2 : (out ++ z).getD x.toNat 0 = out.getD x.toNat 0 := by
      have : x.toNat < out.length := by omega
      simp [List.getElem?_append_left this]
    unfold upF
    rw [h2]
    exact upF_app (fun y hy => h y (List.mem_cons_of_mem _ hy))
def dStep (ns : List DNode) (out : List Int) : Int :=
  if nodeB ns out.length = true ∧ upF out 1 (ndF ns out.length).Kids ≤ 10 ∧ (out.length = 0 ∨ out.getD (out.length - 1) 0 ≠ 0) then upF out 1 (ndF ns out.length).Kids else 0
def dsF (ns : List DNode) : Nat → List Int
  | 0 => []
  | n + 1 => dsF ns n ++ [dStep ns (dsF ns n)]
theorem dsF_len {ns : List DNode} : ∀ {n : Nat}, (dsF ns n).length = n
  | 0 => rfl
  | n + 1 => by unfold dsF; rw [List.length_append, dsF_len]; rfl
theorem dStep_bd {ns : List DNode} {out : List Int} : 0 ≤ dStep ns out ∧ dStep ns out ≤ 10 := by
  unfold dStep
  split
  · rename_i h
    have := upF_le (out := out) (a := 1) (xs := (ndF ns out.length).Kids)
    exact ⟨by omega, h.2.1⟩
  · omega
theorem dsF_bd {ns : List DNode} : ∀ {n : Nat}, ∀ x ∈ dsF ns n, 0 ≤ x ∧ x ≤ 10
  | 0 => by simp [dsF]
  | n + 1 => by
    intro x hx
    unfold dsF at hx
    rcases List.mem_append.1 hx with h | h
    · exact dsF_bd x h
    · rw [List.mem_singleton] at h; rw [h]; exact dStep_bd
theorem dsF_stop {ns : List DNode} {i : Nat} (h : dStep ns (dsF ns i) = 0) : ∀ d, dsF ns (i + d) = dsF ns i ++ List.replicate d 0
  | 0 => by simp
  | 1 => by rw [show i + 1 = i + 1 from rfl, dsF, h]; rfl
  | d + 2 => by
    have ih := dsF_stop h (d + 1)
    have hz : dStep ns (dsF ns (i + (d + 1))) = 0 := by
      unfold dStep
      rw [if_neg]
      rintro ⟨_, _, h3⟩
      rw [dsF_len] at h3
      rcases h3 with h3 | h3
      · omega
      · apply h3
        rw [ih]
        have e : i + (d + 1) - 1 = (dsF ns i).length + d := by rw [dsF_len]; omega
        rw [e]
        simp
    rw [show i + (d + 2) = (i + (d + 1)) + 1 by omega, dsF, hz, ih, List.append_assoc]
    congr 1
    rw [show d + 2 = (d + 1) + 1 by omega, List.replicate_succ' (n := d + 1)]
theorem nodeOk_nat {ns : List DNode} {i : Nat} (h : i < ns.length) : nodeOkF ns (i : Int) = nodeB ns i := by
  unfold nodeOkF
  rw [decide_eq_true (by omega), Int.toNat_natCast]; rfl
theorem nodeB_in {ns : List DNode} {k : Nat} (h : nodeB ns k = true) : ∀ x ∈ (ndF ns k).Kids, 0 ≤ x ∧ x ≤ (k : Int) - 1 := by
  unfold nodeB at h
  simp only [Bool.and_eq_true] at h
  exact kidsF_in h.2.2.1
def deepF (ns : List DNode) (k : Int) : Int := if 0 ≤ k ∧ k ≤ (ns.length : Int) - 1 then (dsF ns (k.toNat + 1)).getD k.toNat 0 else 0
theorem dsF_get {ns : List DNode} {k : Nat} : ∀ d, (dsF ns (k + 1 + d)).getD k 0 = (dsF ns (k + 1)).getD k 0
  | 0 => rfl
  | d + 1 => by
    rw [← dsF_get d, show k + 1 + (d + 1) = (k + 1 + d) + 1 by omega, dsF]
    have : k < (dsF ns (k + 1 + d)).length := by rw [dsF_len]; omega
    simp [List.getElem?_append_left this]
theorem loop1_spec_l05Deeps (p : DProgram) (hp : gdN p) (k : Nat) (hk : k < p.Nodes.length) (out : List Int) (hl : out.length = k) (ho : ∀ x ∈ out, 0 ≤ x ∧ x ≤ 10) (hx : ∀ x ∈ (ndF p.Nodes k).Kids, 0 ≤ x ∧ x ≤ (k : Int) - 1) : loopV X_spec_l05Deeps 0 [1, 3, 4, 5, 6] [(3, [1, 3, 4, 5])] B1_spec_l05Deeps ⟨[(1, .ptr ⟨0, none, 0⟩ 3 0 0), (3, .sl ⟨1, none, 0⟩ 1 0 k), (4, .int .i64 (k : Int)), (5, .int .i64 1), (6, .int .i64 0)], [some ⟨true, 0, 3, [[.tree 6 (p.Nodes.map cNode), .tree 4 (p.Monitors.map cMonitor), .tree 4 (p.Processes.map cProcess)]]⟩, some ⟨false, 0, 1, out.map cI⟩]⟩ = some (.exit 2, ⟨[(1, .ptr ⟨0, none, 0⟩ 3 0 0), (3, .sl ⟨1, none, 0⟩ 1 0 k), (4, .int .i64 (k : Int)), (5, .int .i64 (upF out 1 (ndF p.Nodes k).Kids))], [some ⟨true, 0, 3, [[.tree 6 (p.Nodes.map cNode), .tree 4 (p.Monitors.map cMonitor), .tree 4 (p.Processes.map cProcess)]]⟩, some ⟨false, 0, 1, out.map cI⟩]⟩) := by
  have hk' : (k : Int) < (p.Nodes.length : Int) := by omega
  have hg := getRowN p.Nodes hk
  have hgd := (gdN_get hp hk).1
  have h0 := hp.1
  generalize (ndF p.Nodes k).Kids = xs at *
  refine loop_list xs (fun _ (a : Int) => 1 ≤ a ∧ a ≤ 11) (fun i a => ⟨[(1, .ptr ⟨0, none, 0⟩ 3 0 0), (3, .sl ⟨1, none, 0⟩ 1 0 k), (4, .int .i64 (k : Int)), (5, .int .i64 a), (6, .int .i64 ((i : Nat) : Int))], [some ⟨true, 0, 3, [[.tree 6 (p.Nodes.map cNode), .tree 4 (p.Monitors.map cMonitor), .tree 4 (p.Processes.map cProcess)]]⟩, some ⟨false, 0, 1, out.map cI⟩]⟩) (fun rest a => some (.exit 2, ⟨[(1, .ptr ⟨0, none, 0⟩ 3 0 0), (3, .sl ⟨1, none, 0⟩ 1 0 k), (4, .int .i64 (k : Int)), (5, .int .i64 (upF out a rest))], [some ⟨true, 0, 3, [[.tree 6 (p.Nodes.map cNode), .tree 4 (p.Monitors.map cMonitor), .tree 4 (p.Processes.map cProcess)]]⟩, some ⟨false, 0, 1, out.map cI⟩]⟩)) ?_ ?_ 1 (by omega)
  · rintro a ⟨_, _⟩
    rw [loopV_by B1_spec_l05Deeps.eq_1]
    simp (maxSteps := 10000000) (disch := first | assumption | omega) only [EG, EL, ↓reduceIte, Nat.reduceEqDiff, Nat.reduceAdd, Nat.reduceSub, Nat.reduceMul, Nat.reduceLeDiff, Nat.reduceLT, Int.reduceLT, Int.reduceLE, Int.reduceEq, Int.reduceToNat, reduceCtorEq, FB, ED, EF, hk, hk', hg, int_lt_irrefl, upF]
  · rintro i hi0 y rest a rfl rfl ⟨ha, ha2⟩ ih
    have hi : (i : Int) < (xs.length : Int) := by omega
    have hgi := getRow cI xs hi0
    have hxy := hx _ (List.getElem_mem hi0)
    rw [loopV_by B1_spec_l05Deeps.eq_1]
    generalize xs[i] = y at hgi hxy ⊢
    obtain ⟨n, rfl⟩ : ∃ n : Nat, y = (n : Int) := ⟨y.toNat, by omega⟩
    have hn : n < out.length := by omega
    have hn1 : n < k := by omega
    have hn2 : (n : Int) < (k : Int) := by omega
    have hgn := getRowI out hn
    have hb := getD_le ho n
    have e0 : upF out a ((n : Int) :: xs.drop (i + 1)) = upF out (if a < out.getD n 0 + 1 then out.getD n 0 + 1 else a) (xs.drop (i + 1)) := by
      rw [upF, Int.toNat_natCast]
    rw [e0]
    generalize out.getD n 0 = o at hgn hb ⊢
    have hw : IntKind.wrap .i64 (o + 1) = o + 1 := wrapI (by omega) (by omega)
    by_cases hc : a < o + 1
    · have hc' : (a < o + 1) = True := eq_true hc
      have i1 := ih (o + 1) (by omega)
      simp (maxSteps := 10000000) (disch := first | assumption | omega) only [EG, EL, ↓reduceIte, Nat.reduceEqDiff, Nat.reduceAdd, Nat.reduceSub, Nat.reduceMul, Nat.reduceLeDiff, Nat.reduceLT, Int.reduceLT, Int.reduceLE, Int.reduceEq, Int.reduceToNat, reduceCtorEq, FB, ED, EF, hk, hk', hg, hi, hi0, hgi, hn, hn1, hn2, hgn, hw, gt_iff_lt, hc', wrap_succ, i1, if_true, if_false]
    · have hc' : (a < o + 1) = False := eq_false hc
      have i1 := ih a (by omega)
      simp (maxSteps := 10000000) (disch := first | assumption | omega) only [EG, EL, ↓reduceIte, Nat.reduceEqDiff, Nat.reduceAdd, Nat.reduceSub, Nat.reduceMul, Nat.reduceLeDiff, Nat.reduceLT, Int.reduceLT, Int.reduceLE, Int.reduceEq, Int.reduceToNat, reduceCtorEq, FB, ED, EF, hk, hk', hg, hi, hi0, hgi, hn, hn1, hn2, hgn, hw, gt_iff_lt, hc', wrap_succ, i1, if_true, if_false]
set_option maxHeartbeats 1000000 in
theorem loop0_spec_l05Deeps (p : DProgram) (hp : gdN p) : loopV X_spec_l05Deeps 0 [1, 3, 4] [(1, [3])] B0_spec_l05Deeps ⟨[(1, .ptr ⟨0, none, 0⟩ 3 0 0), (3, .sl ⟨1, none, 0⟩ 1 0 0), (4, .int .i64 0)], [some ⟨true, 0, 3, [[.tree 6 (p.Nodes.map cNode), .tree 4 (p.Monitors.map cMonitor), .tree 4 (p.Processes.map cProcess)]]⟩, some ⟨false, 0, 1, []⟩]⟩ = some (.exit 0, ⟨[(3, .sl ⟨0, none, 0⟩ 1 0 p.Nodes.length)], [some ⟨false, 0, 1, (dsF p.Nodes p.Nodes.length).map cI⟩]⟩) := by
  have h0 := hp.1
  refine loop_list p.Nodes (fun i (out : List Int) => out = dsF p.Nodes i) (fun i out => ⟨[(1, .ptr ⟨0, none, 0⟩ 3 0 0), (3, .sl ⟨1, none, 0⟩ 1 0 i), (4, .int .i64 ((i : Nat) : Int))], [some ⟨true, 0, 3, [[.tree 6 (p.Nodes.map cNode), .tree 4 (p.Monitors.map cMonitor), .tree 4 (p.Processes.map cProcess)]]⟩, some ⟨false, 0, 1, out.map cI⟩]⟩) (fun _ _ => some (.exit 0, ⟨[(3, .sl ⟨0, none, 0⟩ 1 0 p.Nodes.length)], [some ⟨false, 0, 1, (dsF p.Nodes p.Nodes.length).map cI⟩]⟩)) ?_ ?_ [] rfl
  · rintro out rfl
    rw [loopV_by B0_spec_l05Deeps.eq_1]
    simp (maxSteps := 10000000) (disch := first | assumption | omega) only [EG, EL, ↓reduceIte, Nat.reduceEqDiff, Nat.reduceAdd, Nat.reduceSub, Nat.reduceMul, Nat.reduceLeDiff, Nat.reduceLT, Int.reduceLT, Int.reduceLE, Int.reduceEq, Int.reduceToNat, reduceCtorEq, FB, ED, EF, int_lt_irrefl]
  · rintro i hi0 y rest out rfl rfl ho ih
    have hi : (i : Int) < (p.Nodes.length : Int) := by omega
    have hl : out.length = i := by rw [ho]; exact dsF_len
    have hbd : ∀ x ∈ out, 0 ≤ x ∧ x ≤ 10 := by rw [ho]; exact dsF_bd
    have hq := sem_spec_NodeOk p hp (i : Int)
    rw [nodeOk_nat hi0] at hq
    simp only [cProgram] at hq
    have i1 := ih (out ++ [dStep p.Nodes out]) (by rw [ho, dsF])
    have hc : (i + 1) * 8 ≤ 70368744177664 := by omega
    have hd : dStep p.Nodes out = if nodeB p.Nodes i = true ∧ upF out 1 (ndF p.Nodes i).Kids ≤ 10 ∧ (i = 0 ∨ out.getD (i - 1) 0 ≠ 0) then upF out 1 (ndF p.Nodes i).Kids else 0 := by unfold dStep; rw [hl]
    generalize dStep p.Nodes out = ds at i1 hd
    have hlm : (out.map cI).length = i := by rw [List.length_map, hl]
    have hseg : seg (out.map cI) 0 i = out.map cI := by unfold seg; rw [List.drop_zero, ← hlm, List.take_length]
    rw [loopV_by B0_spec_l05Deeps.eq_1]
    have hpos : (((0 : Int) < (i : Int)) = False ∧ i = 0) ∨ (((0 : Int) < (i : Int)) = True ∧ IntKind.wrap .i64 ((i : Int) - 1) = ((i - 1 : Nat) : Int) ∧ (i - 1 : Nat) < i ∧ (((i - 1 : Nat) : Int) < (i : Int)) ∧ (out.map cI).getD (i - 1) [] = cI (out.getD (i - 1) 0) ∧ i ≠ 0) := by
      rcases Nat.eq_zero_or_pos i with hz | hz
      · exact .inl ⟨eq_false (by omega), hz⟩
      · exact .inr ⟨eq_true (by omega), by rw [wrapI (by omega) (by omega)]; omega, by omega, by omega, getRowI out (by omega), by omega⟩
    cases hb : nodeB p.Nodes i
    all_goals rw [hb] at hq hd
    · simp only [Bool.false_eq_true, false_and, if_false] at hd
      subst hd
      rcases hpos with ⟨z1, hz⟩ | ⟨z1, z2, z3, z4, z5, z6⟩
      · simp (maxSteps := 10000000) (disch := first | assumption | omega) only [EG, EL, ↓reduceIte, Nat.reduceEqDiff, Nat.reduceAdd, Nat.reduceSub, Nat.reduceMul, Nat.reduceLeDiff, Nat.reduceLT, Int.reduceLT, Int.reduceLE, Int.reduceEq, Int.reduceToNat, reduceCtorEq, FB, ED, EF, FT, cx_spec_l05Deeps, cl_spec_NodeOk, hq, hi, hi0, hl, hlm, hseg, z1, gt_iff_lt, wrap_succ, i1, map_cI_snoc, hc, BB, if_true, if_false, ite_true, ite_false, ite_self]
      · rcases eqP (out.getD (i - 1) 0 = 0) with hy | hy
        all_goals simp (maxSteps := 10000000) (disch := first | assumption | omega) only [EG, EL, ↓reduceIte, Nat.reduceEqDiff, Nat.reduceAdd, Nat.reduceSub, Nat.reduceMul, Nat.reduceLeDiff, Nat.reduceLT, Int.reduceLT, Int.reduceLE, Int.reduceEq, Int.reduceToNat, reduceCtorEq, FB, ED, EF, FT, cx_spec_l05Deeps, cl_spec_NodeOk, hq, hi, hi0, hl, hlm, hseg, z1, z2, z3, z4, z5, hy, gt_iff_lt, wrap_succ, i1, map_cI_snoc, hc, BB, if_true, if_false, ite_true, ite_false, ite_self]
    · have l1 := loop1_spec_l05Deeps p hp i hi0 out hl hbd (nodeB_in hb)
      have u1 := upF_le (out := out) (a := 1) (xs := (ndF p.Nodes i).Kids)
      generalize upF out 1 (ndF p.Nodes i).Kids = U at l1 hd u1
      rcases hpos with ⟨z1, hz⟩ | ⟨z1, z2, z3, z4, z5, z6⟩
      · rcases eqP (10 < U) with hu | hu
        · rw [if_neg (fun e => by have := of_eq_true hu; omega)] at hd
          subst hd
          simp (maxSteps := 10000000) (disch := first | assumption | omega) only [EG, EL, ↓reduceIte, Nat.reduceEqDiff, Nat.reduceAdd, Nat.reduceSub, Nat.reduceMul, Nat.reduceLeDiff, Nat.reduceLT, Int.reduceLT, Int.reduceLE, Int.reduceEq, Int.reduceToNat, reduceCtorEq, FB, ED, EF, FT, cx_spec_l05Deeps, cl_spec_NodeOk, hq, l1, hu, hi, hi0, hl, hlm, hseg, z1, gt_iff_lt, wrap_succ, i1, map_cI_snoc, hc, BB, if_true, if_false, ite_true, ite_false, ite_self]
        · rw [if_pos ⟨rfl, by have := of_eq_false hu; omega, .inl hz⟩] at hd
          subst hd
          simp (maxSteps := 10000000) (disch := first | assumption | omega) only [EG, EL, ↓reduceIte, Nat.reduceEqDiff, Nat.reduceAdd, Nat.reduceSub, Nat.reduceMul, Nat.reduceLeDiff, Nat.reduceLT, Int.reduceLT, Int.reduceLE, Int.reduceEq, Int.reduceToNat, reduceCtorEq, FB, ED, EF, FT, cx_spec_l05Deeps, cl_spec_NodeOk, hq, l1, hu, hi, hi0, hl, hlm, hseg, z1, gt_iff_lt, wrap_succ, i1, map_cI_snoc, hc, BB, if_true, if_false, ite_true, ite_false, ite_self]
      · rcases eqP (10 < U) with hu | hu
        · rw [if_neg (fun e => by have := of_eq_true hu; omega)] at hd
          subst hd
          simp (maxSteps := 10000000) (disch := first | assumption | omega) only [EG, EL, ↓reduceIte, Nat.reduceEqDiff, Nat.reduceAdd, Nat.reduceSub, Nat.reduceMul, Nat.reduceLeDiff, Nat.reduceLT, Int.reduceLT, Int.reduceLE, Int.reduceEq, Int.reduceToNat, reduceCtorEq, FB, ED, EF, FT, cx_spec_l05Deeps, cl_spec_NodeOk, hq, l1, hu, hi, hi0, hl, hlm, hseg, z1, z2, z3, z4, z5, gt_iff_lt, wrap_succ, i1, map_cI_snoc, hc, BB, if_true, if_false, ite_true, ite_false, ite_self]
        · rcases eqP (out.getD (i - 1) 0 = 0) with hy | hy
          · rw [if_neg (fun e => by rcases e.2.2 with e | e; exact z6 e; exact e (of_eq_true hy))] at hd
            subst hd
            simp (maxSteps := 10000000) (disch := first | assumption | omega) only [EG, EL, ↓reduceIte, Nat.reduceEqDiff, Nat.reduceAdd, Nat.reduceSub, Nat.reduceMul, Nat.reduceLeDiff, Nat.reduceLT, Int.reduceLT, Int.reduceLE, Int.reduceEq, Int.reduceToNat, reduceCtorEq, FB, ED, EF, FT, cx_spec_l05Deeps, cl_spec_NodeOk, hq, l1, hu, hi, hi0, hl, hlm, hseg, z1, z2, z3, z4, z5, hy, gt_iff_lt, wrap_succ, i1, map_cI_snoc, hc, BB, if_true, if_false, ite_true, ite_false, ite_self]
          · rw [if_pos ⟨rfl, by have := of_eq_false hu; omega, .inr (of_eq_false hy)⟩] at hd
            subst hd
            simp (maxSteps := 10000000) (disch := first | assumption | omega) only [EG, EL, ↓reduceIte, Nat.reduceEqDiff, Nat.reduceAdd, Nat.reduceSub, Nat.reduceMul, Nat.reduceLeDiff, Nat.reduceLT, Int.reduceLT, Int.reduceLE, Int.reduceEq, Int.reduceToNat, reduceCtorEq, FB, ED, EF, FT, cx_spec_l05Deeps, cl_spec_NodeOk, hq, l1, hu, hi, hi0, hl, hlm, hseg, z1, z2, z3, z4, z5, hy, gt_iff_lt, wrap_succ, i1, map_cI_snoc, hc, BB, if_true, if_false, ite_true, ite_false, ite_self]
theorem sem_spec_l05Deeps (p : DProgram) (hp : gdN p) : S_spec_l05Deeps.sem [.agg (cProgram p)] = some (.tree 1 ((dsF p.Nodes p.Nodes.length).map cI), []) := by
  have hd : (dsF p.Nodes p.Nodes.length).length = p.Nodes.length := dsF_len
  have h0 := hp.1
  have l := loop0_spec_l05Deeps p hp
  generalize dsF p.Nodes p.Nodes.length = L at hd l ⊢
  rw [← hd] at l
  rw [sg_spec_l05Deeps, sem_go]
  simp (maxSteps := 10000000) (disch := first | assumption | omega) only [cProgram, F_spec_l05Deeps, params, EG, EL, ↓reduceIte, Nat.reduceEqDiff, Nat.reduceAdd, Nat.reduceSub, Nat.reduceMul, Nat.reduceLeDiff, Nat.reduceLT, Int.reduceLT, Int.reduceLE, Int.reduceEq, Int.reduceToNat, reduceCtorEq, FB, ED, EF, FT, cx_spec_l05Deeps, l, List.map_nil, hd]
theorem sem_spec_DeepOf (p : DProgram) (hp : gdN p) (y : Int) : S_spec_DeepOf.sem [.agg (cProgram p), .int .i64 y] = some (.int .i64 (deepF p.Nodes y), []) := by
  have h0 := hp.1
  have hw : IntKind.wrap .i64 ((p.Nodes.length : Int) - 1) = (p.Nodes.length : Int) - 1 := wrapI (by omega) (by omega)
  have hq := sem_spec_l05Deeps p hp
  simp only [cProgram] at hq
  rw [sg_spec_DeepOf, sem_go]
  unfold deepF
  rcases eqP (0 ≤ y ∧ y ≤ (p.Nodes.length : Int) - 1) with h | h
  · have hy := of_eq_true h
    obtain ⟨k, rfl⟩ : ∃ n : Nat, y = (n : Int) := ⟨y.toNat, by omega⟩
    have hk : k < p.Nodes.length := by omega
    have hk' : (k : Int) < (p.Nodes.length : Int) := by omega
    have hkn : ((k : Int) ≤ (p.Nodes.length : Int) - 1) = True := eq_true (by omega)
    have hl : (dsF p.Nodes p.Nodes.length).length = p.Nodes.length := dsF_len
    have hgk := getRowI (dsF p.Nodes p.Nodes.length) (i := k) (by rw [hl]; exact hk)
    have hge := dsF_get (ns := p.Nodes) (k := k) (p.Nodes.length - (k + 1))
    rw [show k + 1 + (p.Nodes.length - (k + 1)) = p.Nodes.length by omega] at hge
    rw [hge] at hgk
    simp (maxSteps := 10000000) (disch := first | assumption | omega) only [cProgram, F_spec_DeepOf, params, EG, EL, ↓reduceIte, Nat.reduceEqDiff, Nat.reduceAdd, Nat.reduceSub, Nat.reduceMul, Nat.reduceLeDiff, Nat.reduceLT, Int.reduceLT, Int.reduceLE, Int.reduceEq, Int.reduceToNat, reduceCtorEq, FB, ED, EF, FT, cx_spec_DeepOf, cl_spec_l01In, sem_spec_l01In, hw, h, hk, hk', hkn, cl_spec_l05Deeps, hq, hl, hgk, Int.toNat_natCast, BB, if_true, if_false, ite_true, ite_false, ite_self]
  · simp (maxSteps := 10000000) (disch := first | assumption | omega) only [cProgram, F_spec_DeepOf, params, EG, EL, ↓reduceIte, Nat.reduceEqDiff, Nat.reduceAdd, Nat.reduceSub, Nat.reduceMul, Nat.reduceLeDiff, Nat.reduceLT, Int.reduceLT, Int.reduceLE, Int.reduceEq, Int.reduceToNat, reduceCtorEq, FB, ED, EF, FT, cx_spec_DeepOf, cl_spec_l01In, sem_spec_l01In, hw, h, BB, if_true, if_false, ite_true, ite_false, ite_self]
def iUp (L : List Int) (k : Nat) : Int → List Int → Int
  | a, [] => a
  | a, x :: r => if (0 ≤ x ∧ x ≤ (k : Int) - 1) ∧ L.getD x.toNat 0 ≠ 0 then iUp L k (if a < L.getD x.toNat 0 + 1 then L.getD x.toNat 0 + 1 else a) r else 11
theorem iUp_up {L : List Int} {k : Nat} : ∀ {a : Int} {xs : List Int}, (∀ x ∈ xs, (0 ≤ x ∧ x ≤ (k : Int) - 1) ∧ L.getD x.toNat 0 ≠ 0) → iUp L k a xs = upF L a xs
  | a, [], _ => rfl
  | a, x :: r, h => by
    unfold iUp upF
    rw [if_pos (h x (by simp))]
    exact iUp_up (fun y hy => h y (List.mem_cons_of_mem _ hy))
theorem iUp_11 {L : List Int} {k : Nat} (ho : ∀ x ∈ L, 0 ≤ x ∧ x ≤ 10) : ∀ {xs : List Int}, iUp L k 11 xs = 11
  | [] => rfl
  | x :: r => by
    unfold iUp
    have := getD_le ho x.toNat
    split
    · rw [if_neg (by omega)]; exact iUp_11 ho
    · rfl
theorem loop1_impl_deeps (p : DProgram) (k m : Nat) (L : List Int) (hL : L.length = m) (hkm : k < m) (hm : m ≤ 1099511627776) (ho : ∀ x ∈ L, 0 ≤ x ∧ x ≤ 10) (xs : List Int) (hxs : xs.length ≤ 1099511627776) (a0 : Int) (h0 : 1 ≤ a0 ∧ a0 ≤ 11) : loopV X_impl_deeps 0 [2, 5, 6, 7, 14, 15, 27, 28, 29] [(3, [2, 5, 6, 7, 14, 15])] B1_impl_deeps ⟨[(2, .ptr ⟨0, none, 0⟩ 3 0 0), (5, .sl ⟨1, none, 0⟩ 1 0 m), (6, .int .i64 (k : Int)), (7, .int .i64 a0), (14, .int .i64 (m : Int)), (15, .int .i64 (k : Int)), (27, .tree 1 (xs.map cI)), (28, .int .i64 (xs.length : Int)), (29, .int .i64 0)], [some ⟨true, 0, 3, [[.tree 6 (p.Nodes.map cNode), .tree 4 (p.Monitors.map cMonitor), .tree 4 (p.Processes.map cProcess)]]⟩, some ⟨false, 0, 1, L.map cI⟩]⟩ = some (.exit 2, ⟨[(2, .ptr ⟨0, none, 0⟩ 3 0 0), (5, .sl ⟨1, none, 0⟩ 1 0 m), (6, .int .i64 (k : Int)), (7, .int .i64 (iUp L k a0 xs)), (14, .int .i64 (m : Int)), (15, .int .i64 (k : Int))], [some ⟨true, 0, 3, [[.tree 6 (p.Nodes.map cNode), .tree 4 (p.Monitors.map cMonitor), .tree 4 (p.Processes.map cProcess)]]⟩, some ⟨false, 0, 1, L.map cI⟩]⟩) := by
  refine loop_list xs (fun _ (a : Int) => 1 ≤ a ∧ a ≤ 11) (fun i a => ⟨[(2, .ptr ⟨0, none, 0⟩ 3 0 0), (5, .sl ⟨1, none, 0⟩ 1 0 m), (6, .int .i64 (k : Int)), (7, .int .i64 a), (14, .int .i64 (m : Int)), (15, .int .i64 (k : Int)), (27, .tree 1 (xs.map cI)), (28, .int .i64 (xs.length : Int)), (29, .int .i64 ((i : Nat) : Int))], [some ⟨true, 0, 3, [[.tree 6 (p.Nodes.map cNode), .tree 4 (p.Monitors.map cMonitor), .tree 4 (p.Processes.map cProcess)]]⟩, some ⟨false, 0, 1, L.map cI⟩]⟩) (fun rest a => some (.exit 2, ⟨[(2, .ptr ⟨0, none, 0⟩ 3 0 0), (5, .sl ⟨1, none, 0⟩ 1 0 m), (6, .int .i64 (k : Int)), (7, .int .i64 (iUp L k a rest)), (14, .int .i64 (m : Int)), (15, .int .i64 (k : Int))], [some ⟨true, 0, 3, [[.tree 6 (p.Nodes.map cNode), .tree 4 (p.Monitors.map cMonitor), .tree 4 (p.Processes.map cProcess)]]⟩, some ⟨false, 0, 1, L.map cI⟩]⟩)) ?_ ?_ a0 h0
  · rintro a ⟨_, _⟩
    rw [loopV_by B1_impl_deeps.eq_1]
    simp (maxSteps := 10000000) (disch := first | assumption | omega) only [EG, EL, ↓reduceIte, Nat.reduceEqDiff, Nat.reduceAdd, Nat.reduceSub, Nat.reduceMul, Nat.reduceLeDiff, Nat.reduceLT, Int.reduceLT, Int.reduceLE, Int.reduceEq, Int.reduceToNat, reduceCtorEq, FB, ED, EF, int_lt_irrefl, iUp]
  · rintro i hi0 y rest a rfl rfl ⟨ha, ha2⟩ ih
    have hi : (i : Int) < (xs.length : Int) := by omega
    have hgi := getRow cI xs hi0
    have hwk : IntKind.wrap .i64 ((k : Int) - 1) = (k : Int) - 1 := wrapI (by omega) (by omega)
    rw [loopV_by B1_impl_deeps.eq_1]
    generalize xs[i] = y at hgi ⊢
    unfold iUp
    rcases eqP (0 ≤ y ∧ y ≤ (k : Int) - 1) with h1 | h1
    · have hy := of_eq_true h1
      obtain ⟨n, rfl⟩ : ∃ n : Nat, y = (n : Int) := ⟨y.toNat, by omega⟩
      have hnk : ((n : Int) ≤ (k : Int) - 1) = True := eq_true (by omega)
      have hn : n < L.length := by omega
      have hn1 : n < m := by omega
      have hn2 : (n : Int) < (m : Int) := by omega
      have hgn := getRowI L hn
      have hb := getD_le ho n
      rw [Int.toNat_natCast]
      generalize L.getD n 0 = o at hgn hb ⊢
      have hw : IntKind.wrap .i64 (o + 1) = o + 1 := wrapI (by omega) (by omega)
      rcases eqP (o = 0) with h2 | h2
      · rw [if_neg (fun e => e.2 (of_eq_true h2))]
        simp (maxSteps := 10000000) (disch := first | assumption | omega) only [EG, EL, ↓reduceIte, Nat.reduceEqDiff, Nat.reduceAdd, Nat.reduceSub, Nat.reduceMul, Nat.reduceLeDiff, Nat.reduceLT, Int.reduceLT, Int.reduceLE, Int.reduceEq, Int.reduceToNat, reduceCtorEq, FB, ED, EF, FT, cx_impl_deeps, cl_impl_within, sem_impl_within, hwk, h1, hnk, hi, hi0, hgi, hn, hn1, hn2, hgn, hw, h2, BB, if_true, if_false, ite_true, ite_false, ite_self]
      · rw [if_pos ⟨hy, of_eq_false h2⟩]
        by_cases hc : a < o + 1
        · have hc' : (a < o + 1) = True := eq_true hc
          have hm1 : max a (o + 1) = o + 1 := by omega
          have i1 := ih (o + 1) (by omega)
          rw [if_pos hc]
          simp (maxSteps := 10000000) (disch := first | assumption | omega) only [EG, EL, ↓reduceIte, Nat.reduceEqDiff, Nat.reduceAdd, Nat.reduceSub, Nat.reduceMul, Nat.reduceLeDiff, Nat.reduceLT, Int.reduceLT, Int.reduceLE, Int.reduceEq, Int.reduceToNat, reduceCtorEq, FB, ED, EF, FT, cx_impl_deeps, cl_impl_within, sem_impl_within, hwk, h1, hnk, hi, hi0, hgi, hn, hn1, hn2, hgn, hw, h2, hc', hm1, wrap_succ, i1, BB, if_true, if_false, ite_true, ite_false, ite_self]
        · have hc' : (a < o + 1) = False := eq_false hc
          have hm1 : max a (o + 1) = a := by omega
          have i1 := ih a (by omega)
          rw [if_neg hc]
          simp (maxSteps := 10000000) (disch := first | assumption | omega) only [EG, EL, ↓reduceIte, Nat.reduceEqDiff, Nat.reduceAdd, Nat.reduceSub, Nat.reduceMul, Nat.reduceLeDiff, Nat.reduceLT, Int.reduceLT, Int.reduceLE, Int.reduceEq, Int.reduceToNat, reduceCtorEq, FB, ED, EF, FT, cx_impl_deeps, cl_impl_within, sem_impl_within, hwk, h1, hnk, hi, hi0, hgi, hn, hn1, hn2, hgn, hw, h2, hc', hm1, wrap_succ, i1, BB, if_true, if_false, ite_true, ite_false, ite_self]
    · rw [if_neg (fun e => of_eq_false h1 e.1)]
      simp (maxSteps := 10000000) (disch := first | assumption | omega) only [EG, EL, ↓reduceIte, Nat.reduceEqDiff, Nat.reduceAdd, Nat.reduceSub, Nat.reduceMul, Nat.reduceLeDiff, Nat.reduceLT, Int.reduceLT, Int.reduceLE, Int.reduceEq, Int.reduceToNat, reduceCtorEq, FB, ED, EF, FT, cx_impl_deeps, cl_impl_within, sem_impl_within, hwk, h1, hi, hi0, hgi, BB, if_true, if_false, ite_true, ite_false, ite_self]
theorem rep_bd {out : List Int} {d : Nat} (h : ∀ x ∈ out, 0 ≤ x ∧ x ≤ 10) : ∀ x ∈ out ++ List.replicate d 0, 0 ≤ x ∧ x ≤ 10 := by
  intro x hx
  rcases List.mem_append.1 hx with h1 | h1
  · exact h x h1
  · rw [(List.mem_replicate.1 h1).2]; omega
theorem rep_set {out : List Int} {d : Nat} {v : Int} : (out ++ List.replicate (d + 1) 0).set out.length v = (out ++ [v]) ++ List.replicate d 0 := by
  simp [List.set_append, List.replicate_succ]
set_option maxHeartbeats 1000000 in
theorem loop0_impl_deeps (p : DProgram) (hp : gdN p) (m : Nat) (hm : m ≤ p.Nodes.length) : loopV X_impl_deeps 0 [2, 5, 14, 15] [(1, [5])] B0_impl_deeps ⟨[(2, .ptr ⟨0, none, 0⟩ 3 0 0), (5, .sl ⟨1, none, 0⟩ 1 0 m), (14, .int .i64 (m : Int)), (15, .int .i64 0)], [some ⟨true, 0, 3, [[.tree 6 (p.Nodes.map cNode), .tree 4 (p.Monitors.map cMonitor), .tree 4 (p.Processes.map cProcess)]]⟩, some ⟨false, 0, 1, (List.replicate m 0).map cI⟩]⟩ = some (.exit 0, ⟨[(5, .sl ⟨0, none, 0⟩ 1 0 m)], [some ⟨false, 0, 1, (dsF p.Nodes m).map cI⟩]⟩) := by
  have h0 := hp.1
  obtain ⟨us, hlen⟩ : ∃ us : List Unit, us.length = m := ⟨List.replicate m (), List.length_replicate⟩
  have start : (List.replicate m (0 : Int)) = [] ++ List.replicate (m - 0) 0 := by simp
  rw [start]
  refine loop_list us (fun i (out : List Int) => out = dsF p.Nodes i ∧ ∀ x ∈ out, x ≠ 0) (fun i out => ⟨[(2, .ptr ⟨0, none, 0⟩ 3 0 0), (5, .sl ⟨1, none, 0⟩ 1 0 m), (14, .int .i64 (m : Int)), (15, .int .i64 ((i : Nat) : Int))], [some ⟨true, 0, 3, [[.tree 6 (p.Nodes.map cNode), .tree 4 (p.Monitors.map cMonitor), .tree 4 (p.Processes.map cProcess)]]⟩, some ⟨false, 0, 1, (out ++ List.replicate (m - i) 0).map cI⟩]⟩) (fun _ _ => some (.exit 0, ⟨[(5, .sl ⟨0, none, 0⟩ 1 0 m)], [some ⟨false, 0, 1, (dsF p.Nodes m).map cI⟩]⟩)) ?_ ?_ [] ⟨rfl, by simp⟩
  · rintro out ⟨ho, _⟩
    rw [hlen] at ho ⊢
    rw [loopV_by B0_impl_deeps.eq_1, Nat.sub_self, List.replicate_zero, List.append_nil, ho]
    simp (maxSteps := 10000000) (disch := first | assumption | omega) only [EG, EL, ↓reduceIte, Nat.reduceEqDiff, Nat.reduceAdd, Nat.reduceSub, Nat.reduceMul, Nat.reduceLeDiff, Nat.reduceLT, Int.reduceLT, Int.reduceLE, Int.reduceEq, Int.reduceToNat, reduceCtorEq, FB, ED, EF, int_lt_irrefl]
  · rintro i hi0 y rest out rfl rfl ⟨ho, hnz⟩ ih
    rw [hlen] at hi0
    have hi : (i : Int) < (m : Int) := by omega
    have hin : i < p.Nodes.length := by omega
    have hin' : (i : Int) < (p.Nodes.length : Int) := by omega
    have hl : out.length = i := by rw [ho]; exact dsF_len
    have hbd : ∀ x ∈ out, 0 ≤ x ∧ x ≤ 10 := by rw [ho]; exact dsF_bd
    have hq := sem_impl_NodeOk p hp (i : Int)
    rw [nodeOk_nat hin] at hq
    simp only [cProgram] at hq
    have hg := getRowN p.Nodes hin
    have hgd := (gdN_get hp hin).1
    obtain ⟨d, hd⟩ : ∃ d, m - i = d + 1 := ⟨m - i - 1, by omega⟩
    have hd1 : m - (i + 1) = d := by omega
    obtain ⟨L, hL⟩ : ∃ L, L = out ++ List.replicate (m - i) 0 := ⟨_, rfl⟩
    rw [← hL]
    have hLl : L.length = m := by rw [hL, List.length_append, List.length_replicate, hl]; exact Nat.add_sub_cancel' (Nat.le_of_lt hi0)
    have hLb : ∀ x ∈ L, 0 ≤ x ∧ x ≤ 10 := by rw [hL]; exact rep_bd (d := m - i) hbd
    have stop : ¬ (nodeB p.Nodes i = true ∧ upF out 1 (ndF p.Nodes i).Kids ≤ 10) → L = dsF p.Nodes m := by
      intro hno
      have h1 : dStep p.Nodes (dsF p.Nodes i) = 0 := by
        unfold dStep
        rw [dsF_len, ← ho, if_neg (fun e => hno ⟨e.1, e.2.1⟩)]
      have := dsF_stop h1 (m - i)
      rw [Nat.add_sub_cancel' (Nat.le_of_lt hi0)] at this
      rw [hL, this, ho]
    have goon : (nodeB p.Nodes i = true ∧ upF out 1 (ndF p.Nodes i).Kids ≤ 10) → out ++ [upF out 1 (ndF p.Nodes i).Kids] = dsF p.Nodes (i + 1) := by
      rintro ⟨h1, h2⟩
      have hlast : i = 0 ∨ out.getD (i - 1) 0 ≠ 0 := by
        rcases Nat.eq_zero_or_pos i with hz | hz
        · exact .inl hz
        · have h3 : i - 1 < out.length := by rw [hl]; exact Nat.sub_lt hz Nat.one_pos
          have h4 : out.getD (i - 1) 0 = out[i - 1] := by rw [List.getD_eq_getElem?_getD, List.getElem?_eq_getElem h3]; rfl
          rw [h4]
          exact .inr (hnz _ (List.getElem_mem h3))
      have e : dStep p.Nodes out = upF out 1 (ndF p.Nodes i).Kids := by
        unfold dStep
        rw [hl, if_pos ⟨h1, h2, hlast⟩]
      rw [dsF, ← ho, e]
    rw [loopV_by B0_impl_deeps.eq_1]
    cases hb : nodeB p.Nodes i
    · rw [hb] at hq
      have l1 := loop1_impl_deeps p i m _ hLl hi0 (by omega) hLb (ndF p.Nodes i).Kids hgd 11 (by omega)
      rw [iUp_11 hLb] at l1
      have st := stop (fun e => by rw [hb] at e; exact absurd e.1 (by simp))
      rw [st] at l1 ⊢
      simp (maxSteps := 10000000) (disch := first | assumption | omega) only [EG, EL, ↓reduceIte, Nat.reduceEqDiff, Nat.reduceAdd, Nat.reduceSub, Nat.reduceMul, Nat.reduceLeDiff, Nat.reduceLT, Int.reduceLT, Int.reduceLE, Int.reduceEq, Int.reduceToNat, reduceCtorEq, FB, ED, EF, FT, cx_impl_deeps, cl_impl_NodeOk, hq, l1, hi, hi0, hin, hin', hg, gt_iff_lt, Int.reduceLT, BB, if_true, if_false, ite_true, ite_false, ite_self]
    · rw [hb] at hq
      have l1 := loop1_impl_deeps p i m _ hLl hi0 (by omega) hLb (ndF p.Nodes i).Kids hgd 1 (by omega)
      have hkin := nodeB_in hb
      have hup : iUp L i 1 (ndF p.Nodes i).Kids = upF out 1 (ndF p.Nodes i).Kids := by
        rw [iUp_up, hL, upF_app (by rw [hl]; exact hkin)]
        intro x hx
        have h1 := hkin x hx
        refine ⟨h1, ?_⟩
        have h2 : x.toNat < out.length := by omega
        have h3 : L.getD x.toNat 0 = out[x.toNat] := by rw [hL]; simp [List.getElem?_append_left h2, h2]
        rw [h3]
        exact hnz _ (List.getElem_mem h2)
      rw [hup] at l1
      have u1 := upF_le (out := out) (a := 1) (xs := (ndF p.Nodes i).Kids)
      generalize upF out 1 (ndF p.Nodes i).Kids = U at *
      rcases eqP (10 < U) with hu | hu
      · have st := stop (fun e => by have := of_eq_true hu; omega)
        rw [st] at l1 ⊢
        simp (maxSteps := 10000000) (disch := first | assumption | omega) only [EG, EL, ↓reduceIte, Nat.reduceEqDiff, Nat.reduceAdd, Nat.reduceSub, Nat.reduceMul, Nat.reduceLeDiff, Nat.reduceLT, Int.reduceLT, Int.reduceLE, Int.reduceEq, Int.reduceToNat, reduceCtorEq, FB, ED, EF, FT, cx_impl_deeps, cl_impl_NodeOk, hq, l1, hu, hi, hi0, hin, hin', hg, gt_iff_lt, Int.reduceLT, BB, if_true, if_false, ite_true, ite_false, ite_self]
      · have gn := goon ⟨hb, by have := of_eq_false hu; omega⟩
        have i1 := ih (out ++ [U]) ⟨gn, by
          intro x hx
          rcases List.mem_append.1 hx with h1 | h1
          · exact hnz x h1
          · rw [List.mem_singleton] at h1; omega⟩
        rw [hd1] at i1
        obtain ⟨L', hL'⟩ : ∃ L', L' = (out ++ [U]) ++ List.replicate d 0 := ⟨_, rfl⟩
        rw [← hL'] at i1
        have hset2 : (L.map cI).set i [.int .i64 U] = L'.map cI := by
          rw [hL', ← rep_set, List.map_set, hl, hL, hd]
        have hrow := getRowI L (i := i) (by rw [hLl]; exact hi0)
        have hset3 : (L.map cI).set i (.int .i64 U :: ((L.map cI).getD i []).drop 1) = L'.map cI := by rw [hrow]; exact hset2
        simp (maxSteps := 10000000) (disch := first | assumption | omega) only [EG, EL, ↓reduceIte, Nat.reduceEqDiff, Nat.reduceAdd, Nat.reduceSub, Nat.reduceMul, Nat.reduceLeDiff, Nat.reduceLT, Int.reduceLT, Int.reduceLE, Int.reduceEq, Int.reduceToNat, reduceCtorEq, FB, ED, EF, FT, cx_impl_deeps, cl_impl_NodeOk, hq, l1, hu, hi, hi0, hin, hin', hg, hLl, hset3, wrap_succ, i1, gt_iff_lt, Int.reduceLT, BB, if_true, if_false, ite_true, ite_false, ite_self]
theorem sem_impl_deeps (p : DProgram) (hp : gdN p) (k : Nat) (hk : k < p.Nodes.length) : S_impl_deeps.sem [.agg (cProgram p), .int .i64 (k : Int)] = some (.tree 1 ((dsF p.Nodes (k + 1)).map cI), []) := by
  have h0 := hp.1
  have hw : IntKind.wrap .i64 ((k : Int) + 1) = ((k + 1 : Nat) : Int) := by rw [wrapI (by omega) (by omega)]; omega
  have l := loop0_impl_deeps p hp (k + 1) hk
  have hd : (dsF p.Nodes (k + 1)).length = k + 1 := dsF_len
  have hle : ((k + 1 : Nat) : Int) ≤ ((k + 1 : Nat) : Int) ∧ 8 * ((k + 1 : Nat) : Int) ≤ 70368744177664 ∧ ((k + 1 : Nat) : Int) ≤ 70368744177664 := by omega
  have hle1 := hle.1
  have hle2 := hle.2.1
  have hle3 := hle.2.2
  have hc0 : cI 0 = [.int .i64 0] := rfl
  rw [List.map_replicate, hc0] at l
  generalize dsF p.Nodes (k + 1) = L at *
  have hseg : seg (L.map cI) 0 (k + 1) = L.map cI := by
    unfold seg; rw [List.drop_zero, List.take_of_length_le (by rw [List.length_map]; omega)]
  rw [sg_impl_deeps, sem_go]
  simp (maxSteps := 10000000) (disch := first | assumption | omega) only [cProgram, F_impl_deeps, params, EG, EL, ↓reduceIte, Nat.reduceEqDiff, Nat.reduceAdd, Nat.reduceSub, Nat.reduceMul, Nat.reduceLeDiff, Nat.reduceLT, Int.reduceLT, Int.reduceLE, Int.reduceEq, Int.reduceToNat, reduceCtorEq, FB, ED, EF, FT, cx_impl_deeps, hw, hle1, hle2, hle3, l, hseg, hd, BB, if_true, if_false, ite_true, ite_false, ite_self]
theorem sem_impl_DeepOf (p : DProgram) (hp : gdN p) (y : Int) : S_impl_DeepOf.sem [.agg (cProgram p), .int .i64 y] = some (.int .i64 (deepF p.Nodes y), []) := by
  have h0 := hp.1
  have hq := sem_impl_isNode p h0 y
  unfold inNd at hq
  simp only [cProgram] at hq
  rw [sg_impl_DeepOf, sem_go]
  unfold deepF
  rcases eqP (0 ≤ y ∧ y ≤ (p.Nodes.length : Int) - 1) with h | h
  · have hy := of_eq_true h
    obtain ⟨k, rfl⟩ : ∃ n : Nat, y = (n : Int) := ⟨y.toNat, by omega⟩
    have hk : k < p.Nodes.length := by omega
    simp only [h, decide_true] at hq
    have hkn : ((k : Int) ≤ (p.Nodes.length : Int) - 1) = True := eq_true (by omega)
    have hs := sem_impl_deeps p hp k hk
    simp only [cProgram] at hs
    have hl : (dsF p.Nodes (k + 1)).length = k + 1 := dsF_len
    have hgk := getRowI (dsF p.Nodes (k + 1)) (i := k) (by rw [hl]; omega)
    have hk1 : k < k + 1 := by omega
    have hk2 : (k : Int) < ((k + 1 : Nat) : Int) := by omega
    rw [Int.toNat_natCast]
    generalize dsF p.Nodes (k + 1) = L at *
    simp (maxSteps := 10000000) (disch := first | assumption | omega) only [cProgram, F_impl_DeepOf, params, EG, EL, ↓reduceIte, Nat.reduceEqDiff, Nat.reduceAdd, Nat.reduceSub, Nat.reduceMul, Nat.reduceLeDiff, Nat.reduceLT, Int.reduceLT, Int.reduceLE, Int.reduceEq, Int.reduceToNat, reduceCtorEq, FB, ED, EF, FT, cx_impl_DeepOf, cl_impl_isNode, hq, h, hkn, hk1, hk2, cl_impl_deeps, hs, hl, hgk, Int.toNat_natCast, BB, if_true, if_false, ite_true, ite_false, ite_self]
  · simp only [h, decide_false] at hq
    simp (maxSteps := 10000000) (disch := first | assumption | omega) only [cProgram, F_impl_DeepOf, params, EG, EL, ↓reduceIte, Nat.reduceEqDiff, Nat.reduceAdd, Nat.reduceSub, Nat.reduceMul, Nat.reduceLeDiff, Nat.reduceLT, Int.reduceLT, Int.reduceLE, Int.reduceEq, Int.reduceToNat, reduceCtorEq, FB, ED, EF, FT, cx_impl_DeepOf, cl_impl_isNode, hq, h, BB, if_true, if_false, ite_true, ite_false, ite_self]
theorem deepF_nat {ns : List DNode} {k : Nat} (hk : k < ns.length) : deepF ns (k : Int) = dStep ns (dsF ns k) := by
  unfold deepF
  rw [if_pos (by omega), Int.toNat_natCast, dsF]
  simp [dsF_len]
def goodN (ns : List DNode) (k : Nat) : Prop := k < ns.length ∧ ∀ j, j ≤ k → nodeB ns j = true ∧ dStep ns (dsF ns j) ≠ 0
theorem deepF_good {ns : List DNode} {k : Nat} (hk : k < ns.length) (h : deepF ns (k : Int) ≠ 0) : goodN ns k := by
  refine ⟨hk, fun j hj => ?_⟩
  have h1 : dStep ns (dsF ns j) ≠ 0 := by
    intro e
    have := dsF_stop e (k + 1 - j)
    rw [show j + (k + 1 - j) = k + 1 by omega] at this
    apply h
    unfold deepF
    rw [if_pos (by omega), Int.toNat_natCast, this]
    rw [List.getD_eq_getElem?_getD, List.getElem?_append_right (by rw [dsF_len]; exact hj), List.getElem?_replicate]
    split <;> rfl
  refine ⟨?_, h1⟩
  unfold dStep at h1
  rw [dsF_len] at h1
  cases hb : nodeB ns j
  · rw [if_neg (fun e => by rw [hb] at e; exact absurd e.1 (by simp))] at h1; exact absurd rfl h1
  · rfl
theorem good_deepF {ns : List DNode} {k : Nat} (h : goodN ns k) : deepF ns (k : Int) ≠ 0 := by
  rw [deepF_nat h.1]; exact (h.2 k (Nat.le_refl _)).2
theorem good_down {ns : List DNode} {k j : Nat} (h : goodN ns k) (hj : j ≤ k) : goodN ns j := ⟨Nat.lt_of_le_of_lt hj h.1, fun i hi => h.2 i (Nat.le_trans hi hj)⟩
def rgF (ns : List DNode) : Nat → Nat → Int
  | 0, _ => 0
  | f + 1, k => if (ndF ns k).Kind = 1 ∨ (ndF ns k).Kind = 2 then 1 else if (ndF ns k).Kind = 3 then max (rgF ns f ((ndF ns k).Kids.getD 0 0).toNat) (rgF ns f ((ndF ns k).Kids.getD 1 0).toNat + 1) else rgF ns f ((ndF ns k).Kids.getD 0 0).toNat
theorem rgF_succ {ns : List DNode} {f k : Nat} : rgF ns (f + 1) k = if (ndF ns k).Kind = 1 ∨ (ndF ns k).Kind = 2 then 1 else if (ndF ns k).Kind = 3 then max (rgF ns f ((ndF ns k).Kids.getD 0 0).toNat) (rgF ns f ((ndF ns k).Kids.getD 1 0).toNat + 1) else rgF ns f ((ndF ns k).Kids.getD 0 0).toNat := rfl
theorem rgF_bd {ns : List DNode} : ∀ {f k : Nat}, 0 ≤ rgF ns f k ∧ rgF ns f k ≤ (f : Int)
  | 0, _ => by simp [rgF]
  | f + 1, k => by
    have a := rgF_bd (ns := ns) (f := f) (k := ((ndF ns k).Kids.getD 0 0).toNat)
    have b := rgF_bd (ns := ns) (f := f) (k := ((ndF ns k).Kids.getD 1 0).toNat)
    unfold rgF
    split
    · omega
    · split
      · omega
      · omega
def regsF (ns : List DNode) (y : Int) : Int := if (0 ≤ y ∧ y ≤ (ns.length : Int) - 1) ∧ isValK (ndF ns y.toNat).Kind = true ∧ deepF ns y ≠ 0 then rgF ns (y.toNat + 1) y.toNat else 0
theorem vals_get {ns : List DNode} {k i : Nat} {xs : List Int} (h : valsB ns k xs = true) (hi : i < xs.length) : (0 ≤ xs.getD i 0 ∧ xs.getD i 0 ≤ (k : Int) - 1) ∧ isValK (ndF ns (xs.getD i 0).toNat).Kind = true := by
  have h1 := List.all_eq_true.1 h _ (List.getElem_mem hi)
  have h2 : xs.getD i 0 = xs[i] := by simp [hi]
  rw [h2]
  have h3 : 0 ≤ xs[i] ∧ xs[i] ≤ (k : Int) - 1 := by
    refine kidK_in (ns := ns) (fun e => ?_)
    rw [e] at h1; simp [isValK] at h1
  unfold kidK at h1
  rw [if_pos h3] at h1
  exact ⟨h3, h1⟩
/-- a right value's kids -/
theorem val_kids {ns : List DNode} {k : Nat} (h : nodeB ns k = true) (hv : isValK (ndF ns k).Kind = true) :
    ((ndF ns k).Kind = 1 ∨ (ndF ns k).Kind = 2) ∨
    ((ndF ns k).Kind = 3 ∧ (ndF ns k).Kids.length = 2 ∧ ∃ a b : Nat, (ndF ns k).Kids.getD 0 0 = (a : Int) ∧ (ndF ns k).Kids.getD 1 0 = (b : Int) ∧ a < k ∧ b < k ∧ isValK (ndF ns a).Kind = true ∧ isValK (ndF ns b).Kind = true) ∨
    (((ndF ns k).Kind = 4 ∨ (ndF ns k).Kind = 5) ∧ (ndF ns k).Kids.length = 1 ∧ ∃ a : Nat, (ndF ns k).Kids.getD 0 0 = (a : Int) ∧ a < k ∧ isValK (ndF ns a).Kind = true) := by
  unfold nodeB at h
  simp only [Bool.and_eq_true] at h
  have hk := h.2.2.1
  have hc : (ndF ns k).Kind = 1 ∨ (ndF ns k).Kind = 2 ∨ (ndF ns k).Kind = 3 ∨ (ndF ns k).Kind = 4 ∨ (ndF ns k).Kind = 5 := by
    have := of_decide_eq_true hv; omega
  have tk : ∀ (xs : List Int), xs.take xs.length = xs := fun xs => List.take_length
  rcases hc with e | e | e | e | e
  · exact .inl (.inl e)
  · exact .inl (.inr e)
  · refine .inr (.inl ⟨e, ?_⟩)
    unfold kidsF at hk
    rw [e, if_neg (by decide), if_pos rfl, Bool.and_eq_true, decide_eq_true_eq] at hk
    have h2 := hk.2
    rw [List.take_of_length_le (by omega)] at h2
    have a0 := vals_get h2 (i := 0) (by omega)
    have a1 := vals_get h2 (i := 1) (by omega)
    refine ⟨hk.1, ((ndF ns k).Kids.getD 0 0).toNat, ((ndF ns k).Kids.getD 1 0).toNat, by omega, by omega, by omega, by omega, a0.2, a1.2⟩
  · refine .inr (.inr ⟨.inl e, ?_⟩)
    unfold kidsF at hk
    rw [e, if_neg (by decide), if_neg (by decide), if_pos (by decide), Bool.and_eq_true, decide_eq_true_eq] at hk
    have h2 := hk.2
    rw [List.take_of_length_le (by omega)] at h2
    have a0 := vals_get h2 (i := 0) (by omega)
    exact ⟨hk.1, ((ndF ns k).Kids.getD 0 0).toNat, by omega, by omega, a0.2⟩
  · refine .inr (.inr ⟨.inr e, ?_⟩)
    unfold kidsF at hk
    rw [e, if_neg (by decide), if_neg (by decide), if_pos (by decide), Bool.and_eq_true, decide_eq_true_eq] at hk
    have h2 := hk.2
    rw [List.take_of_length_le (by omega)] at h2
    have a0 := vals_get h2 (i := 0) (by omega)
    exact ⟨hk.1, ((ndF ns k).Kids.getD 0 0).toNat, by omega, by omega, a0.2⟩
theorem rec_spec_l17Regs (p : DProgram) (hp : gdN p) : ∀ f k : Nat, k < f → f ≤ 1099511627777 → goodN p.Nodes k → isValK (ndF p.Nodes k).Kind = true → ∀ n, k ≤ n → (V_spec_l17Regs n).sem [.agg (cProgram p), .int .i64 (k : Int)] = some (.int .i64 (rgF p.Nodes f k), [])
  | 0, k, h, _, _, _, _, _ => absurd h (Nat.not_lt_zero _)
  | f + 1, k, hkf, hf, hgood, hv, n, hn => by
    have hk := hgood.1
    have hk' : (k : Int) < (p.Nodes.length : Int) := by omega
    have hg := getRowN p.Nodes hk
    have h0 := hp.1
    have IH := rec_spec_l17Regs p hp f
    rw [sd_spec_l17Regs, sem_go]
    rcases val_kids (hgood.2 k (Nat.le_refl _)).1 hv with hK | ⟨hK, hl, a, b, ea, eb, ha, hb, va, vb⟩ | ⟨hK, hl, a, ea, ha, va⟩
    · have e : rgF p.Nodes (f + 1) k = 1 := by rw [rgF_succ, if_pos hK]
      rw [e]
      rcases hK with hK | hK
      · simp (maxSteps := 10000000) (disch := first | assumption | omega) only [cProgram, F_spec_l17Regs, params, EG, EL, ↓reduceIte, Nat.reduceEqDiff, Nat.reduceAdd, Nat.reduceSub, Nat.reduceMul, Nat.reduceLeDiff, Nat.reduceLT, Int.reduceLT, Int.reduceLE, Int.reduceEq, Int.reduceToNat, reduceCtorEq, FB, ED, EF, hk, hk', hg, hK, BB, if_true, if_false, ite_true, ite_false, ite_self]
      · simp (maxSteps := 10000000) (disch := first | assumption | omega) only [cProgram, F_spec_l17Regs, params, EG, EL, ↓reduceIte, Nat.reduceEqDiff, Nat.reduceAdd, Nat.reduceSub, Nat.reduceMul, Nat.reduceLeDiff, Nat.reduceLT, Int.reduceLT, Int.reduceLE, Int.reduceEq, Int.reduceToNat, reduceCtorEq, FB, ED, EF, hk, hk', hg, hK, BB, if_true, if_false, ite_true, ite_false, ite_self]
    · skip
      have e : rgF p.Nodes (f + 1) k = max (rgF p.Nodes f a) (rgF p.Nodes f b + 1) := by rw [rgF_succ, hK, if_neg (by decide), if_pos rfl, ea, eb, Int.toNat_natCast, Int.toNat_natCast]
      rw [e]
      obtain ⟨m, rfl⟩ : ∃ m, n = m + 1 := ⟨n - 1, by omega⟩
      have ra := IH a (by omega) (by omega) (good_down hgood (by omega)) va m (by omega)
      have rb := IH b (by omega) (by omega) (good_down hgood (by omega)) vb m (by omega)
      simp only [cProgram] at ra rb
      have bb := rgF_bd (ns := p.Nodes) (f := f) (k := b)
      have g0 := getRowI (ndF p.Nodes k).Kids (i := 0) (by omega)
      have g1 := getRowI (ndF p.Nodes k).Kids (i := 1) (by omega)
      rw [ea] at g0
      rw [eb] at g1
      generalize rgF p.Nodes f a = A at *
      generalize rgF p.Nodes f b = C at *
      have hw : IntKind.wrap .i64 (C + 1) = C + 1 := wrapI (by omega) (by omega)
      have l0 : (0 : Nat) < 2 := by omega
      have l1 : (1 : Nat) < 2 := by omega
      rcases eqP (C + 1 < A) with hc | hc
      · have hm : max A (C + 1) = A := by have := of_eq_true hc; omega
        simp (maxSteps := 10000000) (disch := first | assumption | omega) only [cProgram, F_spec_l17Regs, params, EG, EL, ↓reduceIte, Nat.reduceEqDiff, Nat.reduceAdd, Nat.reduceSub, Nat.reduceMul, Nat.reduceLeDiff, Nat.reduceLT, Int.reduceLT, Int.reduceLE, Int.reduceEq, Int.reduceToNat, reduceCtorEq, FB, ED, EF, hk, hk', hg, hK, hl, g0, g1, l0, l1, cx_spec_l17Regs m, cw_spec_l17Regs, ra, rb, hw, gt_iff_lt, hc, hm, BB, if_true, if_false, ite_true, ite_false, ite_self]
      · have hm : max A (C + 1) = C + 1 := by have := of_eq_false hc; omega
        simp (maxSteps := 10000000) (disch := first | assumption | omega) only [cProgram, F_spec_l17Regs, params, EG, EL, ↓reduceIte, Nat.reduceEqDiff, Nat.reduceAdd, Nat.reduceSub, Nat.reduceMul, Nat.reduceLeDiff, Nat.reduceLT, Int.reduceLT, Int.reduceLE, Int.reduceEq, Int.reduceToNat, reduceCtorEq, FB, ED, EF, hk, hk', hg, hK, hl, g0, g1, l0, l1, cx_spec_l17Regs m, cw_spec_l17Regs, ra, rb, hw, gt_iff_lt, hc, hm, BB, if_true, if_false, ite_true, ite_false, ite_self]
    · skip
      have e : rgF p.Nodes (f + 1) k = rgF p.Nodes f a := by rw [rgF_succ, if_neg (by omega), if_neg (by omega), ea, Int.toNat_natCast]
      rw [e]
      obtain ⟨m, rfl⟩ : ∃ m, n = m + 1 := ⟨n - 1, by omega⟩
      have ra := IH a (by omega) (by omega) (good_down hgood (by omega)) va m (by omega)
      simp only [cProgram] at ra
      have g0 := getRowI (ndF p.Nodes k).Kids (i := 0) (by omega)
      rw [ea] at g0
      have l0 : (0 : Nat) < 1 := by omega
      rcases hK with hK | hK
      all_goals simp (maxSteps := 10000000) (disch := first | assumption | omega) only [cProgram, F_spec_l17Regs, params, EG, EL, ↓reduceIte, Nat.reduceEqDiff, Nat.reduceAdd, Nat.reduceSub, Nat.reduceMul, Nat.reduceLeDiff, Nat.reduceLT, Int.reduceLT, Int.reduceLE, Int.reduceEq, Int.reduceToNat, reduceCtorEq, FB, ED, EF, hk, hk', hg, hK, hl, g0, l0, cx_spec_l17Regs m, cw_spec_l17Regs, ra, BB, if_true, if_false, ite_true, ite_false, ite_self]
theorem sem_spec_RegsOf (p : DProgram) (hp : gdN p) (y : Int) : S_spec_RegsOf.sem [.agg (cProgram p), .int .i64 y] = some (.int .i64 (regsF p.Nodes y), []) := by
  have h0 := hp.1
  have hq := sem_spec_DeepOf p hp y
  simp only [cProgram] at hq
  unfold regsF
  rcases eqP (deepF p.Nodes y = 0) with hd | hd
  · rw [if_neg (fun e => e.2.2 (of_eq_true hd))]
    rw [sg_spec_RegsOf, sem_go]
    simp (maxSteps := 10000000) (disch := first | assumption | omega) only [cProgram, F_spec_RegsOf, params, EG, EL, ↓reduceIte, Nat.reduceEqDiff, Nat.reduceAdd, Nat.reduceSub, Nat.reduceMul, Nat.reduceLeDiff, Nat.reduceLT, Int.reduceLT, Int.reduceLE, Int.reduceEq, Int.reduceToNat, reduceCtorEq, FB, ED, EF, FT, cx_spec_RegsOf, cl_spec_DeepOf, hq, hd, BB, if_true, if_false, ite_true, ite_false, ite_self]
  · have hd' := of_eq_false hd
    have hy : 0 ≤ y ∧ y ≤ (p.Nodes.length : Int) - 1 := by
      by_cases h : 0 ≤ y ∧ y ≤ (p.Nodes.length : Int) - 1
      · exact h
      · unfold deepF at hd'; rw [if_neg h] at hd'; exact absurd rfl hd'
    obtain ⟨k, rfl⟩ : ∃ n : Nat, y = (n : Int) := ⟨y.toNat, by omega⟩
    have hk : k < p.Nodes.length := by omega
    have hk' : (k : Int) < (p.Nodes.length : Int) := by omega
    have hg := getRowN p.Nodes hk
    rw [Int.toNat_natCast]
    cases hv : isValK (ndF p.Nodes k).Kind
    · rw [if_neg (fun e => absurd e.2.1 (by simp))]
      rw [sg_spec_RegsOf, sem_go]
      simp (maxSteps := 10000000) (disch := first | assumption | omega) only [cProgram, F_spec_RegsOf, params, EG, EL, ↓reduceIte, Nat.reduceEqDiff, Nat.reduceAdd, Nat.reduceSub, Nat.reduceMul, Nat.reduceLeDiff, Nat.reduceLT, Int.reduceLT, Int.reduceLE, Int.reduceEq, Int.reduceToNat, reduceCtorEq, FB, ED, EF, FT, cx_spec_RegsOf, cl_spec_DeepOf, hq, hd, hk, hk', hg, cl_spec_l05Value, sem_spec_l05Value, hv, BB, if_true, if_false, ite_true, ite_false, ite_self]
    · rw [if_pos ⟨hy, rfl, hd'⟩]
      have hr : S_spec_l17Regs.sem [.agg (cProgram p), .int .i64 (k : Int)] = some (.int .i64 (rgF p.Nodes (k + 1) k), []) := by
        rw [sl_spec_l17Regs]
        exact lim_eq k (fun n hn => rec_spec_l17Regs p hp (k + 1) k (by omega) (by omega) (deepF_good hk hd') hv n hn)
      simp only [cProgram] at hr
      rw [sg_spec_RegsOf, sem_go]
      simp (maxSteps := 10000000) (disch := first | assumption | omega) only [cProgram, F_spec_RegsOf, params, EG, EL, ↓reduceIte, Nat.reduceEqDiff, Nat.reduceAdd, Nat.reduceSub, Nat.reduceMul, Nat.reduceLeDiff, Nat.reduceLT, Int.reduceLT, Int.reduceLE, Int.reduceEq, Int.reduceToNat, reduceCtorEq, FB, ED, EF, FT, cx_spec_RegsOf, cl_spec_DeepOf, hq, hd, hk, hk', hg, cl_spec_l05Value, sem_spec_l05Value, hv, cl_spec_l17Regs, hr, BB, if_true, if_false, ite_true, ite_false, ite_self]
theorem sem_impl_kidAt (p : DProgram) (hp : gdN p) (k i : Nat) (hk : k < p.Nodes.length) (hi : i < (ndF p.Nodes k).Kids.length) : S_impl_kidAt.sem [.agg (cProgram p), .int .i64 (k : Int), .int .i64 (i : Int)] = some (.int .i64 ((ndF p.Nodes k).Kids.getD i 0), []) := by
  have hq := sem_impl_isNode p hp.1 (k : Int)
  have hin : inNd p.Nodes (k : Int) = true := by unfold inNd; exact decide_eq_true (by omega)
  rw [hin] at hq
  simp only [cProgram] at hq
  have hk' : (k : Int) < (p.Nodes.length : Int) := by omega
  have hg := getRowN p.Nodes hk
  have hi' : (i : Int) < ((ndF p.Nodes k).Kids.length : Int) := by omega
  have hi2 : (((ndF p.Nodes k).Kids.length : Int) ≤ (i : Int)) = False := eq_false (by omega)
  have hgi := getRowI (ndF p.Nodes k).Kids hi
  rw [sg_impl_kidAt, sem_go]
  simp (maxSteps := 10000000) (disch := first | assumption | omega) only [cProgram, F_impl_kidAt, params, EG, EL, ↓reduceIte, Nat.reduceEqDiff, Nat.reduceAdd, Nat.reduceSub, Nat.reduceMul, Nat.reduceLeDiff, Nat.reduceLT, Int.reduceLT, Int.reduceLE, Int.reduceEq, Int.reduceToNat, reduceCtorEq, FB, ED, EF, FT, cx_impl_kidAt, cl_impl_isNode, hq, hk, hk', hg, hi, hi', hi2, hgi, ge_iff_le, BB, if_true, if_false, ite_true, ite_false, ite_self]
theorem rec_impl_RegsOf (p : DProgram) (hp : gdN p) : ∀ f k : Nat, k < f → f ≤ 1099511627777 → goodN p.Nodes k → isValK (ndF p.Nodes k).Kind = true → ∀ n, k < n → (V_impl_RegsOf n).sem [.agg (cProgram p), .int .i64 (k : Int)] = some (.int .i64 (rgF p.Nodes f k), [])
  | 0, k, h, _, _, _, _, _ => absurd h (Nat.not_lt_zero _)
  | f + 1, k, hkf, hf, hgood, hv, n, hn => by
    have hk := hgood.1
    have hk' : (k : Int) < (p.Nodes.length : Int) := by omega
    have hg := getRowN p.Nodes hk
    have h0 := hp.1
    have IH := rec_impl_RegsOf p hp f
    have hq := sem_impl_isValue p hp.1 (k : Int)
    have hval : isValF p.Nodes (k : Int) = true := by
      unfold isValF inNd; rw [Int.toNat_natCast, hv, decide_eq_true (by omega)]; rfl
    rw [hval] at hq
    have hdp := sem_impl_DeepOf p hp (k : Int)
    have hd0 : (deepF p.Nodes (k : Int) = 0) = False := eq_false (good_deepF hgood)
    have K0 := sem_impl_kidAt p hp k 0 hk
    have K1 := sem_impl_kidAt p hp k 1 hk
    simp only [cProgram] at hq hdp K0 K1
    simp only [cast_lit] at K0 K1
    rw [sd_impl_RegsOf, sem_go]
    rcases val_kids (hgood.2 k (Nat.le_refl _)).1 hv with hK | ⟨hK, hl, a, b, ea, eb, ha, hb, va, vb⟩ | ⟨hK, hl, a, ea, ha, va⟩
    · have e : rgF p.Nodes (f + 1) k = 1 := by rw [rgF_succ, if_pos hK]
      rw [e]
      obtain ⟨m, rfl⟩ : ∃ m, n = m + 1 := ⟨n - 1, by omega⟩
      rcases hK with hK | hK
      all_goals simp (maxSteps := 10000000) (disch := first | assumption | omega) only [cProgram, F_impl_RegsOf, params, EG, EL, ↓reduceIte, Nat.reduceEqDiff, Nat.reduceAdd, Nat.reduceSub, Nat.reduceMul, Nat.reduceLeDiff, Nat.reduceLT, Int.reduceLT, Int.reduceLE, Int.reduceEq, Int.reduceToNat, reduceCtorEq, FB, ED, EF, FT, cx_impl_RegsOf m, cl_impl_isValue, hq, cl_impl_DeepOf, hdp, hd0, hk, hk', hg, hK, BB, if_true, if_false, ite_true, ite_false, ite_self]
    · skip
      have e : rgF p.Nodes (f + 1) k = max (rgF p.Nodes f a) (rgF p.Nodes f b + 1) := by rw [rgF_succ, hK, if_neg (by decide), if_pos rfl, ea, eb, Int.toNat_natCast, Int.toNat_natCast]
      rw [e]
      have k0 := K0 (by omega)
      have k1 := K1 (by omega)
      rw [ea] at k0
      rw [eb] at k1
      obtain ⟨m, rfl⟩ : ∃ m, n = m + 1 := ⟨n - 1, by omega⟩
      have ra := IH a (by omega) (by omega) (good_down hgood (by omega)) va m (by omega)
      have rb := IH b (by omega) (by omega) (good_down hgood (by omega)) vb m (by omega)
      simp only [cProgram] at ra rb
      have bb := rgF_bd (ns := p.Nodes) (f := f) (k := b)
      generalize rgF p.Nodes f a = A at *
      generalize rgF p.Nodes f b = C at *
      have hw : IntKind.wrap .i64 (C + 1) = C + 1 := wrapI (by omega) (by omega)
      rcases eqP (A < C + 1) with hc | hc
      · have hm : max A (C + 1) = C + 1 := by have := of_eq_true hc; omega
        simp (maxSteps := 10000000) (disch := first | assumption | omega) only [cProgram, F_impl_RegsOf, params, EG, EL, ↓reduceIte, Nat.reduceEqDiff, Nat.reduceAdd, Nat.reduceSub, Nat.reduceMul, Nat.reduceLeDiff, Nat.reduceLT, Int.reduceLT, Int.reduceLE, Int.reduceEq, Int.reduceToNat, reduceCtorEq, FB, ED, EF, FT, cx_impl_RegsOf m, cw_impl_RegsOf, cl_impl_isValue, hq, cl_impl_DeepOf, hdp, hd0, hk, hk', hg, hK, hl, cl_impl_kidAt, k0, k1, ra, rb, hw, gt_iff_lt, hc, hm, BB, if_true, if_false, ite_true, ite_false, ite_self]
      · have hm : max A (C + 1) = A := by have := of_eq_false hc; omega
        simp (maxSteps := 10000000) (disch := first | assumption | omega) only [cProgram, F_impl_RegsOf, params, EG, EL, ↓reduceIte, Nat.reduceEqDiff, Nat.reduceAdd, Nat.reduceSub, Nat.reduceMul, Nat.reduceLeDiff, Nat.reduceLT, Int.reduceLT, Int.reduceLE, Int.reduceEq, Int.reduceToNat, reduceCtorEq, FB, ED, EF, FT, cx_impl_RegsOf m, cw_impl_RegsOf, cl_impl_isValue, hq, cl_impl_DeepOf, hdp, hd0, hk, hk', hg, hK, hl, cl_impl_kidAt, k0, k1, ra, rb, hw, gt_iff_lt, hc, hm, BB, if_true, if_false, ite_true, ite_false, ite_self]
    · skip
      have e : rgF p.Nodes (f + 1) k = rgF p.Nodes f a := by rw [rgF_succ, if_neg (by omega), if_neg (by omega), ea, Int.toNat_natCast]
      rw [e]
      have k0 := K0 (by omega)
      rw [ea] at k0
      obtain ⟨m, rfl⟩ : ∃ m, n = m + 1 := ⟨n - 1, by omega⟩
      have ra := IH a (by omega) (by omega) (good_down hgood (by omega)) va m (by omega)
      simp only [cProgram] at ra
      rcases hK with hK | hK
      all_goals simp (maxSteps := 10000000) (disch := first | assumption | omega) only [cProgram, F_impl_RegsOf, params, EG, EL, ↓reduceIte, Nat.reduceEqDiff, Nat.reduceAdd, Nat.reduceSub, Nat.reduceMul, Nat.reduceLeDiff, Nat.reduceLT, Int.reduceLT, Int.reduceLE, Int.reduceEq, Int.reduceToNat, reduceCtorEq, FB, ED, EF, FT, cx_impl_RegsOf m, cw_impl_RegsOf, cl_impl_isValue, hq, cl_impl_DeepOf, hdp, hd0, hk, hk', hg, hK, hl, cl_impl_kidAt, k0, ra, BB, if_true, if_false, ite_true, ite_false, ite_self]
theorem sem_impl_RegsOf (p : DProgram) (hp : gdN p) (y : Int) : S_impl_RegsOf.sem [.agg (cProgram p), .int .i64 y] = some (.int .i64 (regsF p.Nodes y), []) := by
  have h0 := hp.1
  rw [sl_impl_RegsOf]
  refine lim_eq (y.toNat + 1) (fun n hn => ?_)
  obtain ⟨m, rfl⟩ : ∃ m, n = m + 1 := ⟨n - 1, by omega⟩
  have hq := sem_impl_isValue p hp.1 y
  have hdp := sem_impl_DeepOf p hp y
  simp only [cProgram] at hq hdp
  unfold regsF
  cases hv : isValF p.Nodes y
  · rw [hv] at hq
    have hno : ¬ ((0 ≤ y ∧ y ≤ (p.Nodes.length : Int) - 1) ∧ isValK (ndF p.Nodes y.toNat).Kind = true ∧ deepF p.Nodes y ≠ 0) := by
      rintro ⟨h1, h2, _⟩
      unfold isValF inNd at hv
      rw [decide_eq_true h1, h2] at hv; exact absurd hv (by simp)
    rw [if_neg hno, sd_impl_RegsOf, sem_go]
    simp (maxSteps := 10000000) (disch := first | assumption | omega) only [cProgram, F_impl_RegsOf, params, EG, EL, ↓reduceIte, Nat.reduceEqDiff, Nat.reduceAdd, Nat.reduceSub, Nat.reduceMul, Nat.reduceLeDiff, Nat.reduceLT, Int.reduceLT, Int.reduceLE, Int.reduceEq, Int.reduceToNat, reduceCtorEq, FB, ED, EF, FT, cx_impl_RegsOf m, cl_impl_isValue, hq, BB, if_true, if_false, ite_true, ite_false, ite_self]
  · rw [hv] at hq
    unfold isValF inNd at hv
    rw [Bool.and_eq_true, decide_eq_true_eq] at hv
    rcases eqP (deepF p.Nodes y = 0) with hd | hd
    · rw [if_neg (fun e => e.2.2 (of_eq_true hd)), sd_impl_RegsOf, sem_go]
      simp (maxSteps := 10000000) (disch := first | assumption | omega) only [cProgram, F_impl_RegsOf, params, EG, EL, ↓reduceIte, Nat.reduceEqDiff, Nat.reduceAdd, Nat.reduceSub, Nat.reduceMul, Nat.reduceLeDiff, Nat.reduceLT, Int.reduceLT, Int.reduceLE, Int.reduceEq, Int.reduceToNat, reduceCtorEq, FB, ED, EF, FT, cx_impl_RegsOf m, cl_impl_isValue, hq, cl_impl_DeepOf, hdp, hd, BB, if_true, if_false, ite_true, ite_false, ite_self]
    · rw [if_pos ⟨hv.1, hv.2, of_eq_false hd⟩]
      obtain ⟨k, rfl⟩ : ∃ n : Nat, y = (n : Int) := ⟨y.toNat, by omega⟩
      rw [Int.toNat_natCast] at *
      have hk : k < p.Nodes.length := by omega
      exact rec_impl_RegsOf p hp (k + 1) k (by omega) (by omega) (deepF_good hk (of_eq_false hd)) hv.2 (m + 1) (by omega)
set_option maxHeartbeats 4000000 in
theorem law_FnExactRegsOf (p : DProgram) (g_p : gdProgram p) (k : Int) (g_k : i64 k) : tru F_laws_FnExactRegsOf.res (go X_laws_FnExactRegsOf 0 [.c F_laws_FnExactRegsOf.body] ⟨params 0 [.agg (cProgram p), .int .i64 k], []⟩) := by
  rcases lft_or (1048576) (wtProgram p) with ⟨e0, f0⟩ | ⟨e0, f0⟩
  · simp (maxSteps := 10000000) (disch := first | assumption | omega) only [F_laws_FnExactRegsOf, params, EG, EL, ↓reduceIte, Nat.reduceEqDiff, Nat.reduceAdd, Nat.reduceSub, Nat.reduceMul, Nat.reduceLeDiff, Nat.reduceLT, Int.reduceLT, Int.reduceLE, Int.reduceEq, Int.reduceToNat, reduceCtorEq, ED, FB, FT, tru_ret, tru_ite, cx_laws_FnExactRegsOf, e0, neg1_lt, cl_laws_szProgram, sem_laws_szProgram, cl_laws_toProgram, sem_laws_toProgram, cl_spec_RegsOf, sem_spec_RegsOf, cl_impl_RegsOf, sem_impl_RegsOf, cl_laws_eqProgram, sem_laws_eqProgram]
  have c0 : ¬ 1048576 - ((wtProgram p : Nat) : Int) < 0 := by omega
  have w0 := f0
  simp only [wtProgram] at w0
  have q0_0 := tctle_Node p.Nodes
  have q0_1 := tctle_Monitor p.Monitors
  have q0_2 := tctle_Process p.Processes
  have hN : gdN p := ⟨by omega, fun y hy => by have := le_tot wtNode hy; have h2 : wtNode y = y.Name.size + y.More.size + y.To.size + y.Kids.length := rfl; exact ⟨by omega, by omega, by omega, by omega⟩⟩
  simp (maxSteps := 10000000) (disch := first | assumption | omega) only [F_laws_FnExactRegsOf, params, EG, EL, ↓reduceIte, Nat.reduceEqDiff, Nat.reduceAdd, Nat.reduceSub, Nat.reduceMul, Nat.reduceLeDiff, Nat.reduceLT, Int.reduceLT, Int.reduceLE, Int.reduceEq, Int.reduceToNat, reduceCtorEq, ED, FB, FT, tru_ret, tru_ite, cx_laws_FnExactRegsOf, e0, c0, cl_laws_szProgram, sem_laws_szProgram, cl_laws_toProgram, sem_laws_toProgram, cl_spec_RegsOf, sem_spec_RegsOf, cl_impl_RegsOf, sem_impl_RegsOf, cl_laws_eqProgram, sem_laws_eqProgram]
  repeat (first | rw [if_neg (by omega)] | rw [if_pos (by omega)])
  try trivial

end Go.Proofs.Ytdhmlhlpdejefaa.AI
