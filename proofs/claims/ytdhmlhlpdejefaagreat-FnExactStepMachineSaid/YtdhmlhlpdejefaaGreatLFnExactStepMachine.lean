/- What these functions give, and that the law FnExactStepMachine gives true. -/
import Derived.Test.YtdhmlhlpdejefaaGreatLFnExactStepMachineA
namespace Go.Proofs.YtdhmlhlpdejefaaGreat.AI
open Go.Proofs
set_option linter.all false
set_option maxRecDepth 100000
theorem sem_impl_copyMachine (x : DMachine) (h : okM x) : S_impl_copyMachine.sem [.agg (cMachine x)] = some (.agg (cMachine x), []) := by
  obtain ⟨⟨hT, hS, hM, hC, hI, hE⟩, ⟨hG, hs, hr, ho⟩, hGa, hSa, hCa⟩ := h
  have h1 : x.Image.Text.length * 8 ≤ 70368744177664 := by omega
  have h2 : x.Image.Starts.length * 8 ≤ 70368744177664 := by omega
  have h3 : x.Mem.length * 8 ≤ 70368744177664 := by omega
  have h4 : x.Input.length * 8 ≤ 70368744177664 := by omega
  have h5 : x.Events.length * 24 ≤ 70368744177664 := by omega
  have hk := sem_impl_copyKernel x.Kernel hG hs hr ho (fun y hy => Nat.le_trans (hGa y hy) (by omega)) hSa
  simp only [cKernel] at hk
  have loop0 : loopV X_impl_copyMachine 0 [2, 3, 38, 39, 40] [(1, [2, 3])] B0_impl_copyMachine ⟨[(2, .ptr ⟨0, none, 0⟩ 12 0 0), (3, .ptr ⟨11, none, 0⟩ 12 0 0), (38, .tree 3 (x.Cores.map cCore)), (39, .int .i64 x.Cores.length), (40, .int .i64 0)], [some ⟨true, 0, 12, [[.sl ⟨1, none, 0⟩ 1 0 0, .sl ⟨2, none, 0⟩ 1 0 0, .int .i64 0, .sl ⟨3, none, 0⟩ 1 0 0, .sl ⟨4, none, 0⟩ 3 0 0, .sl ⟨5, none, 0⟩ 3 0 0, .sl ⟨6, none, 0⟩ 1 0 0, .sl ⟨7, none, 0⟩ 3 0 0, .sl ⟨8, none, 0⟩ 1 0 0, .sl ⟨9, none, 0⟩ 1 0 0, .sl ⟨10, none, 0⟩ 3 0 0, .bool false]]⟩, some ⟨false, 0, 1, []⟩, some ⟨false, 0, 1, []⟩, some ⟨false, 0, 1, []⟩, some ⟨false, 0, 3, []⟩, some ⟨false, 0, 3, []⟩, some ⟨false, 0, 1, []⟩, some ⟨false, 0, 3, []⟩, some ⟨false, 0, 1, []⟩, some ⟨false, 0, 1, []⟩, some ⟨false, 0, 3, []⟩, some ⟨true, 0, 12, [[.sl ⟨12, none, 0⟩ 1 0 x.Image.Text.length, .sl ⟨13, none, 0⟩ 1 0 x.Image.Starts.length, .int .i64 x.Image.Size, .sl ⟨14, none, 0⟩ 1 0 x.Mem.length, .sl ⟨15, none, 0⟩ 3 0 ([] : List DCore).length, .sl ⟨16, none, 0⟩ 3 0 x.Kernel.Gates.length, .sl ⟨17, none, 0⟩ 1 0 x.Kernel.Ready.length, .sl ⟨18, none, 0⟩ 3 0 x.Kernel.Saved.length, .sl ⟨19, none, 0⟩ 1 0 x.Kernel.Over.length, .sl ⟨20, none, 0⟩ 1 0 x.Input.length, .sl ⟨21, none, 0⟩ 3 0 x.Events.length, .bool x.Stopped]]⟩, some ⟨false, 0, 1, x.Image.Text.map cI⟩, some ⟨false, 0, 1, x.Image.Starts.map cI⟩, some ⟨false, 0, 1, x.Mem.map cI⟩, some ⟨false, 0, 3, ([] : List DCore).map cCore⟩, some ⟨false, 0, 3, x.Kernel.Gates.map cGate⟩, some ⟨false, 0, 1, x.Kernel.Ready.map cI⟩, some ⟨false, 0, 3, x.Kernel.Saved.map cCore⟩, some ⟨false, 0, 1, x.Kernel.Over.map cB⟩, some ⟨false, 0, 1, x.Input.map cI⟩, some ⟨false, 0, 3, x.Events.map cEvent⟩]⟩ = some (.exit 0, ⟨[(2, .ptr ⟨0, none, 0⟩ 12 0 0), (3, .ptr ⟨11, none, 0⟩ 12 0 0)], [some ⟨true, 0, 12, [[.sl ⟨1, none, 0⟩ 1 0 0, .sl ⟨2, none, 0⟩ 1 0 0, .int .i64 0, .sl ⟨3, none, 0⟩ 1 0 0, .sl ⟨4, none, 0⟩ 3 0 0, .sl ⟨5, none, 0⟩ 3 0 0, .sl ⟨6, none, 0⟩ 1 0 0, .sl ⟨7, none, 0⟩ 3 0 0, .sl ⟨8, none, 0⟩ 1 0 0, .sl ⟨9, none, 0⟩ 1 0 0, .sl ⟨10, none, 0⟩ 3 0 0, .bool false]]⟩, some ⟨false, 0, 1, []⟩, some ⟨false, 0, 1, []⟩, some ⟨false, 0, 1, []⟩, some ⟨false, 0, 3, []⟩, some ⟨false, 0, 3, []⟩, some ⟨false, 0, 1, []⟩, some ⟨false, 0, 3, []⟩, some ⟨false, 0, 1, []⟩, some ⟨false, 0, 1, []⟩, some ⟨false, 0, 3, []⟩, some ⟨true, 0, 12, [[.sl ⟨12, none, 0⟩ 1 0 x.Image.Text.length, .sl ⟨13, none, 0⟩ 1 0 x.Image.Starts.length, .int .i64 x.Image.Size, .sl ⟨14, none, 0⟩ 1 0 x.Mem.length, .sl ⟨15, none, 0⟩ 3 0 (x.Cores).length, .sl ⟨16, none, 0⟩ 3 0 x.Kernel.Gates.length, .sl ⟨17, none, 0⟩ 1 0 x.Kernel.Ready.length, .sl ⟨18, none, 0⟩ 3 0 x.Kernel.Saved.length, .sl ⟨19, none, 0⟩ 1 0 x.Kernel.Over.length, .sl ⟨20, none, 0⟩ 1 0 x.Input.length, .sl ⟨21, none, 0⟩ 3 0 x.Events.length, .bool x.Stopped]]⟩, some ⟨false, 0, 1, x.Image.Text.map cI⟩, some ⟨false, 0, 1, x.Image.Starts.map cI⟩, some ⟨false, 0, 1, x.Mem.map cI⟩, some ⟨false, 0, 3, (x.Cores).map cCore⟩, some ⟨false, 0, 3, x.Kernel.Gates.map cGate⟩, some ⟨false, 0, 1, x.Kernel.Ready.map cI⟩, some ⟨false, 0, 3, x.Kernel.Saved.map cCore⟩, some ⟨false, 0, 1, x.Kernel.Over.map cB⟩, some ⟨false, 0, 1, x.Input.map cI⟩, some ⟨false, 0, 3, x.Events.map cEvent⟩]⟩) := by
    refine loop_list x.Cores (fun i (gs : List DCore) => gs.length = i) (fun i gs => ⟨[(2, .ptr ⟨0, none, 0⟩ 12 0 0), (3, .ptr ⟨11, none, 0⟩ 12 0 0), (38, .tree 3 (x.Cores.map cCore)), (39, .int .i64 x.Cores.length), (40, .int .i64 ((i : Nat) : Int))], [some ⟨true, 0, 12, [[.sl ⟨1, none, 0⟩ 1 0 0, .sl ⟨2, none, 0⟩ 1 0 0, .int .i64 0, .sl ⟨3, none, 0⟩ 1 0 0, .sl ⟨4, none, 0⟩ 3 0 0, .sl ⟨5, none, 0⟩ 3 0 0, .sl ⟨6, none, 0⟩ 1 0 0, .sl ⟨7, none, 0⟩ 3 0 0, .sl ⟨8, none, 0⟩ 1 0 0, .sl ⟨9, none, 0⟩ 1 0 0, .sl ⟨10, none, 0⟩ 3 0 0, .bool false]]⟩, some ⟨false, 0, 1, []⟩, some ⟨false, 0, 1, []⟩, some ⟨false, 0, 1, []⟩, some ⟨false, 0, 3, []⟩, some ⟨false, 0, 3, []⟩, some ⟨false, 0, 1, []⟩, some ⟨false, 0, 3, []⟩, some ⟨false, 0, 1, []⟩, some ⟨false, 0, 1, []⟩, some ⟨false, 0, 3, []⟩, some ⟨true, 0, 12, [[.sl ⟨12, none, 0⟩ 1 0 x.Image.Text.length, .sl ⟨13, none, 0⟩ 1 0 x.Image.Starts.length, .int .i64 x.Image.Size, .sl ⟨14, none, 0⟩ 1 0 x.Mem.length, .sl ⟨15, none, 0⟩ 3 0 (gs).length, .sl ⟨16, none, 0⟩ 3 0 x.Kernel.Gates.length, .sl ⟨17, none, 0⟩ 1 0 x.Kernel.Ready.length, .sl ⟨18, none, 0⟩ 3 0 x.Kernel.Saved.length, .sl ⟨19, none, 0⟩ 1 0 x.Kernel.Over.length, .sl ⟨20, none, 0⟩ 1 0 x.Input.length, .sl ⟨21, none, 0⟩ 3 0 x.Events.length, .bool x.Stopped]]⟩, some ⟨false, 0, 1, x.Image.Text.map cI⟩, some ⟨false, 0, 1, x.Image.Starts.map cI⟩, some ⟨false, 0, 1, x.Mem.map cI⟩, some ⟨false, 0, 3, (gs).map cCore⟩, some ⟨false, 0, 3, x.Kernel.Gates.map cGate⟩, some ⟨false, 0, 1, x.Kernel.Ready.map cI⟩, some ⟨false, 0, 3, x.Kernel.Saved.map cCore⟩, some ⟨false, 0, 1, x.Kernel.Over.map cB⟩, some ⟨false, 0, 1, x.Input.map cI⟩, some ⟨false, 0, 3, x.Events.map cEvent⟩]⟩) (fun rest gs => some (.exit 0, ⟨[(2, .ptr ⟨0, none, 0⟩ 12 0 0), (3, .ptr ⟨11, none, 0⟩ 12 0 0)], [some ⟨true, 0, 12, [[.sl ⟨1, none, 0⟩ 1 0 0, .sl ⟨2, none, 0⟩ 1 0 0, .int .i64 0, .sl ⟨3, none, 0⟩ 1 0 0, .sl ⟨4, none, 0⟩ 3 0 0, .sl ⟨5, none, 0⟩ 3 0 0, .sl ⟨6, none, 0⟩ 1 0 0, .sl ⟨7, none, 0⟩ 3 0 0, .sl ⟨8, none, 0⟩ 1 0 0, .sl ⟨9, none, 0⟩ 1 0 0, .sl ⟨10, none, 0⟩ 3 0 0, .bool false]]⟩, some ⟨false, 0, 1, []⟩, some ⟨false, 0, 1, []⟩, some ⟨false, 0, 1, []⟩, some ⟨false, 0, 3, []⟩, some ⟨false, 0, 3, []⟩, some ⟨false, 0, 1, []⟩, some ⟨false, 0, 3, []⟩, some ⟨false, 0, 1, []⟩, some ⟨false, 0, 1, []⟩, some ⟨false, 0, 3, []⟩, some ⟨true, 0, 12, [[.sl ⟨12, none, 0⟩ 1 0 x.Image.Text.length, .sl ⟨13, none, 0⟩ 1 0 x.Image.Starts.length, .int .i64 x.Image.Size, .sl ⟨14, none, 0⟩ 1 0 x.Mem.length, .sl ⟨15, none, 0⟩ 3 0 (gs ++ rest).length, .sl ⟨16, none, 0⟩ 3 0 x.Kernel.Gates.length, .sl ⟨17, none, 0⟩ 1 0 x.Kernel.Ready.length, .sl ⟨18, none, 0⟩ 3 0 x.Kernel.Saved.length, .sl ⟨19, none, 0⟩ 1 0 x.Kernel.Over.length, .sl ⟨20, none, 0⟩ 1 0 x.Input.length, .sl ⟨21, none, 0⟩ 3 0 x.Events.length, .bool x.Stopped]]⟩, some ⟨false, 0, 1, x.Image.Text.map cI⟩, some ⟨false, 0, 1, x.Image.Starts.map cI⟩, some ⟨false, 0, 1, x.Mem.map cI⟩, some ⟨false, 0, 3, (gs ++ rest).map cCore⟩, some ⟨false, 0, 3, x.Kernel.Gates.map cGate⟩, some ⟨false, 0, 1, x.Kernel.Ready.map cI⟩, some ⟨false, 0, 3, x.Kernel.Saved.map cCore⟩, some ⟨false, 0, 1, x.Kernel.Over.map cB⟩, some ⟨false, 0, 1, x.Input.map cI⟩, some ⟨false, 0, 3, x.Events.map cEvent⟩]⟩)) ?_ ?_ [] rfl
    · rintro gs hl
      rw [loopV_by B0_impl_copyMachine.eq_1]
      simp only [EG, EL, simprocAttr, FB, int_lt_irrefl, List.append_nil]
    · rintro i hi0 y rest gs rfl rfl hl ih
      have hi : (i : Int) < (x.Cores.length : Int) := by omega
      have hc : (gs.length + 1) * 40 ≤ 70368744177664 := by omega
      have hb := hCa _ (List.getElem_mem hi0)
      have i1 := ih (gs ++ [x.Cores[i]]) (by simp; omega)
      try simp only [EG, EL, simprocAttr, FB, List.append_assoc] at i1
      rw [loopV_by B0_impl_copyMachine.eq_1]
      simp (maxSteps := 10000000) (disch := first | assumption | omega) only [EG, EL, simprocAttr, FB, ED, FT, hi, wrap_succ, getRow _ _ hi0, hc, cx_impl_copyMachine, cl_impl_copyCore, sem_impl_copyCore]
      try simp only [cMachine, EG, EL, simprocAttr, FB, List.append_assoc] at i1
      try simp only [cMachine, EG, EL, simprocAttr, FB, List.append_assoc]
      exact i1
  try simp only [EG, EL, simprocAttr, FB] at loop0
  rw [sg_impl_copyMachine, sem_go]
  simp (maxSteps := 10000000) (disch := first | assumption | omega) only [cMachine, F_impl_copyMachine, params, EG, EL, simprocAttr, FB, ED, FT, cx_impl_copyMachine, h1, h2, h3, h4, h5, loop0, cl_impl_copyKernel, hk]
theorem set_same {α : Type} {f : α → List AV} {L : List α} {i : Nat} (hi : i < L.length) {c : List AV} (h : (L.map f).getD i [] = c) : (L.map f).set i c = L.map f := by
  have h2 : i < (L.map f).length := by rw [List.length_map]; exact hi
  rw [List.getD_eq_getElem?_getD, List.getElem?_eq_getElem h2] at h
  rw [← h]; exact List.set_getElem_self h2
set_option maxHeartbeats 4000000 in
theorem fsem_spec_l15Step (L : List DCore) (i : Nat) (hiL : i < L.length) (x : DCore) (hLi : (L.map cCore).getD i [] = cCore x) (t m : List Int) (hr : x.Regs.length ≤ 1048576) (ht : t.length ≤ 1048576) (hm : m.length ≤ 1048576) : H_spec_l15Step [.ptr ⟨0, none, 0⟩ 3 i 0, .sl ⟨1, none, 0⟩ 1 0 t.length, .sl ⟨2, none, 0⟩ 1 0 m.length] [some ⟨false, 0, 3, L.map cCore⟩, some ⟨false, 0, 1, t.map cI⟩, some ⟨false, 0, 1, m.map cI⟩] = some (.int .i64 (stepF x t m).2.2, [some ⟨false, 0, 3, (L.map cCore).set i (cCore (stepF x t m).1)⟩, some ⟨false, 0, 1, t.map cI⟩, some ⟨false, 0, 1, (stepF x t m).2.1.map cI⟩]) := by
  obtain ⟨rs, pc, pr⟩ := x
  simp only at hr
  have hLs : (L.map cCore).set i [.tree 1 (rs.map cI), .int .i64 pc, .int .i64 pr] = L.map cCore := set_same hiL hLi
  have hgL : (L.map cCore).getD i [] = [.tree 1 (rs.map cI), .int .i64 pc, .int .i64 pr] := hLi
  clear hLi
  have hgs : ∀ c, ((L.map cCore).set i c).getD i [] = c := fun c => by simp [hiL]
  have ho := sem_spec_CoreOk ⟨rs, pc, pr⟩ (Nat.le_trans hr (by omega))
  have hw : IntKind.wrap .i64 ((t.length : Int) - 1) = (t.length : Int) - 1 := wrapI (by omega) (by omega)
  have hw2 : IntKind.wrap .i64 ((m.length : Int) - 1) = (m.length : Int) - 1 := wrapI (by omega) (by omega)
  simp only [cCore] at ho
  rw [sh_spec_l15Step, run_goF]
  by_cases hp : 0 ≤ pc ∧ pc ≤ (t.length : Int) - 1
  · obtain ⟨p, rfl⟩ : ∃ n : Nat, pc = (n : Int) := ⟨pc.toNat, by omega⟩
    have hpn : p < t.length := by omega
    have hpn' : (p : Int) < (t.length : Int) := by omega
    have hg : t.getD p 0 = t[p] := by simp [hpn]
    cases hd : decOk t[p]
    · have e : stepF ⟨rs, p, pr⟩ t m = (⟨rs, p, pr⟩, m, 4) := by simp only [stepF, Int.toNat_natCast, hg, hd]; simp
      have hD := sem_spec_Decode t[p]
      simp only [decR, hd, if_false, Bool.false_eq_true] at hD
      cases hc : coreOkF ⟨rs, p, pr⟩ <;> simp only [hc] at ho
      all_goals simp (maxSteps := 10000000) (disch := first | assumption | omega) only [cCore, params, EG, EL, simprocAttr, FB, ED, EF, FT, hiL, hgL, hLs, hgs, List.set_set, hw, hw2, and_self, hp, hpn, run_goF, F_spec_l15Step, cx_spec_l15Step, cl_spec_CoreOk, ho, cl_spec_l01In, sem_spec_l01In, cl_spec_Decode, hD, cl_spec_l15Mem, F_spec_l15Mem, cx_spec_l15Mem, cl_spec_l15Calc, F_spec_l15Calc, cx_spec_l15Calc, cl_spec_ValOk, sem_spec_ValOk, cl_spec_Calc, sem_spec_Calc, cl_spec_Denied, sem_spec_Denied, cl_spec_Negated, sem_spec_Negated, decide_true, decide_false, Bool.not_true, Bool.not_false, Bool.true_and, Bool.false_and, Bool.and_true, Bool.and_false, Bool.true_or, Bool.false_or, Bool.or_false, Bool.or_true, e, hpn', getRow _ _ hpn]
    · obtain ⟨op, a, b, c, e1, e2, e3, e4, hop, ha, hb, hcc⟩ := decOk_bounds hd
      have hD := sem_spec_Decode t[p]
      simp only [decR, hd, if_true, e1, e2, e3, e4] at hD
      cases hc : coreOkF ⟨rs, p, pr⟩ <;> simp only [hc] at ho
      · have e : stepF ⟨rs, p, pr⟩ t m = (⟨rs, p, pr⟩, m, 4) := by simp only [stepF, hc]; simp
        simp (maxSteps := 10000000) (disch := first | assumption | omega) only [cCore, params, EG, EL, simprocAttr, FB, ED, EF, FT, hiL, hgL, hLs, hgs, List.set_set, hw, hw2, and_self, hp, hpn, run_goF, F_spec_l15Step, cx_spec_l15Step, cl_spec_CoreOk, ho, cl_spec_l01In, sem_spec_l01In, cl_spec_Decode, hD, cl_spec_l15Mem, F_spec_l15Mem, cx_spec_l15Mem, cl_spec_l15Calc, F_spec_l15Calc, cx_spec_l15Calc, cl_spec_ValOk, sem_spec_ValOk, cl_spec_Calc, sem_spec_Calc, cl_spec_Denied, sem_spec_Denied, cl_spec_Negated, sem_spec_Negated, decide_true, decide_false, Bool.not_true, Bool.not_false, Bool.true_and, Bool.false_and, Bool.and_true, Bool.and_false, Bool.true_or, Bool.false_or, Bool.or_false, Bool.or_true, e, hpn', getRow _ _ hpn]
      · obtain ⟨h8, h0⟩ := coreOk_len hc
        simp only at h8 h0
        have har : a < rs.length := by omega
        have hbr : b < rs.length := by omega
        have har' : (a : Int) < (rs.length : Int) := by omega
        have hbr' : (b : Int) < (rs.length : Int) := by omega
        have hga : rs.getD a 0 = rs[a] := by simp [har]
        have hgb : rs.getD b 0 = rs[b] := by simp [hbr]
        have hss : rs.set a rs[a] = rs := List.set_getElem_self ..
        have e : stepF ⟨rs, p, pr⟩ t m = stepG ⟨rs, p, pr⟩ m op a b c := by
          simp only [stepF, Int.toNat_natCast, hg, hd, hc, e1, e2, e3, e4]
          rw [if_pos ⟨trivial, hp, trivial⟩]
        rw [e]
        have : op = 1 ∨ op = 2 ∨ op = 3 ∨ op = 4 ∨ op = 5 ∨ op = 6 ∨ op = 7 ∨ op = 8 ∨ op = 9 ∨ op = 10 := by omega
        rcases this with rfl | rfl | rfl | rfl | rfl | rfl | rfl | rfl | rfl | rfl
        · simp (maxSteps := 10000000) (disch := first | assumption | omega) only [cCore, params, EG, EL, simprocAttr, FB, ED, EF, FT, hiL, hgL, hLs, hgs, List.set_set, hw, hw2, and_self, hp, hpn, run_goF, F_spec_l15Step, cx_spec_l15Step, cl_spec_CoreOk, ho, cl_spec_l01In, sem_spec_l01In, cl_spec_Decode, hD, cl_spec_l15Mem, F_spec_l15Mem, cx_spec_l15Mem, cl_spec_l15Calc, F_spec_l15Calc, cx_spec_l15Calc, cl_spec_ValOk, sem_spec_ValOk, cl_spec_Calc, sem_spec_Calc, cl_spec_Denied, sem_spec_Denied, cl_spec_Negated, sem_spec_Negated, decide_true, decide_false, Bool.not_true, Bool.not_false, Bool.true_and, Bool.false_and, Bool.and_true, Bool.and_false, Bool.true_or, Bool.false_or, Bool.or_false, Bool.or_true, hpn', getRow _ _ hpn, getRow _ _ har, getRow _ _ hbr, har, hbr, har', hbr', hga, hgb, hss, stepG, true_or, or_true, false_or, or_false, or_self]
        · by_cases hcm : c < m.length
          rotate_left
          · have hcm1 : ¬ (c : Int) ≤ (m.length : Int) - 1 := by omega
            have hcm2 : (m.length : Int) ≤ (c : Int) := by omega
            have hcm3 : m.length ≤ c := by omega
            have hcm4 : ¬ (c : Int) < (m.length : Int) := by omega
            simp (maxSteps := 10000000) (disch := first | assumption | omega) only [cCore, params, EG, EL, simprocAttr, FB, ED, EF, FT, hiL, hgL, hLs, hgs, List.set_set, hw, hw2, and_self, hp, hpn, run_goF, F_spec_l15Step, cx_spec_l15Step, cl_spec_CoreOk, ho, cl_spec_l01In, sem_spec_l01In, cl_spec_Decode, hD, cl_spec_l15Mem, F_spec_l15Mem, cx_spec_l15Mem, cl_spec_l15Calc, F_spec_l15Calc, cx_spec_l15Calc, cl_spec_ValOk, sem_spec_ValOk, cl_spec_Calc, sem_spec_Calc, cl_spec_Denied, sem_spec_Denied, cl_spec_Negated, sem_spec_Negated, decide_true, decide_false, Bool.not_true, Bool.not_false, Bool.true_and, Bool.false_and, Bool.and_true, Bool.and_false, Bool.true_or, Bool.false_or, Bool.or_false, Bool.or_true, hpn', getRow _ _ hpn, getRow _ _ har, getRow _ _ hbr, har, hbr, har', hbr', hga, hgb, hss, stepG, true_or, or_true, false_or, or_false, or_self, hcm, hcm1, hcm2, hcm3, hcm4]
          · have hcm1 : (c : Int) ≤ (m.length : Int) - 1 := by omega
            have hcm2 : ¬ (m.length : Int) ≤ (c : Int) := by omega
            have hcm3 : ¬ m.length ≤ c := by omega
            have hcm4 : (c : Int) < (m.length : Int) := by omega
            have hgm : m.getD c 0 = m[c] := by simp [hcm]
            cases hv : valOk m[c]
            all_goals simp (maxSteps := 10000000) (disch := first | assumption | omega) only [cCore, params, EG, EL, simprocAttr, FB, ED, EF, FT, hiL, hgL, hLs, hgs, List.set_set, hw, hw2, and_self, hp, hpn, run_goF, F_spec_l15Step, cx_spec_l15Step, cl_spec_CoreOk, ho, cl_spec_l01In, sem_spec_l01In, cl_spec_Decode, hD, cl_spec_l15Mem, F_spec_l15Mem, cx_spec_l15Mem, cl_spec_l15Calc, F_spec_l15Calc, cx_spec_l15Calc, cl_spec_ValOk, sem_spec_ValOk, cl_spec_Calc, sem_spec_Calc, cl_spec_Denied, sem_spec_Denied, cl_spec_Negated, sem_spec_Negated, decide_true, decide_false, Bool.not_true, Bool.not_false, Bool.true_and, Bool.false_and, Bool.and_true, Bool.and_false, Bool.true_or, Bool.false_or, Bool.or_false, Bool.or_true, hpn', getRow _ _ hpn, getRow _ _ har, getRow _ _ hbr, har, hbr, har', hbr', hga, hgb, hgm, hv, hss, stepG, true_or, or_true, false_or, or_false, or_self, hcm, hcm1, hcm2, hcm3, hcm4, getRow _ _ hcm]
        · by_cases hcm : c < m.length
          rotate_left
          · have hcm1 : ¬ (c : Int) ≤ (m.length : Int) - 1 := by omega
            have hcm2 : (m.length : Int) ≤ (c : Int) := by omega
            have hcm3 : m.length ≤ c := by omega
            have hcm4 : ¬ (c : Int) < (m.length : Int) := by omega
            simp (maxSteps := 10000000) (disch := first | assumption | omega) only [cCore, params, EG, EL, simprocAttr, FB, ED, EF, FT, hiL, hgL, hLs, hgs, List.set_set, hw, hw2, and_self, hp, hpn, run_goF, F_spec_l15Step, cx_spec_l15Step, cl_spec_CoreOk, ho, cl_spec_l01In, sem_spec_l01In, cl_spec_Decode, hD, cl_spec_l15Mem, F_spec_l15Mem, cx_spec_l15Mem, cl_spec_l15Calc, F_spec_l15Calc, cx_spec_l15Calc, cl_spec_ValOk, sem_spec_ValOk, cl_spec_Calc, sem_spec_Calc, cl_spec_Denied, sem_spec_Denied, cl_spec_Negated, sem_spec_Negated, decide_true, decide_false, Bool.not_true, Bool.not_false, Bool.true_and, Bool.false_and, Bool.and_true, Bool.and_false, Bool.true_or, Bool.false_or, Bool.or_false, Bool.or_true, hpn', getRow _ _ hpn, getRow _ _ har, getRow _ _ hbr, har, hbr, har', hbr', hga, hgb, hss, stepG, true_or, or_true, false_or, or_false, or_self, hcm, hcm1, hcm2, hcm3, hcm4]
          · have hcm1 : (c : Int) ≤ (m.length : Int) - 1 := by omega
            have hcm2 : ¬ (m.length : Int) ≤ (c : Int) := by omega
            have hcm3 : ¬ m.length ≤ c := by omega
            have hcm4 : (c : Int) < (m.length : Int) := by omega
            have hgm : m.getD c 0 = m[c] := by simp [hcm]
            simp (maxSteps := 10000000) (disch := first | assumption | omega) only [cCore, params, EG, EL, simprocAttr, FB, ED, EF, FT, hiL, hgL, hLs, hgs, List.set_set, hw, hw2, and_self, hp, hpn, run_goF, F_spec_l15Step, cx_spec_l15Step, cl_spec_CoreOk, ho, cl_spec_l01In, sem_spec_l01In, cl_spec_Decode, hD, cl_spec_l15Mem, F_spec_l15Mem, cx_spec_l15Mem, cl_spec_l15Calc, F_spec_l15Calc, cx_spec_l15Calc, cl_spec_ValOk, sem_spec_ValOk, cl_spec_Calc, sem_spec_Calc, cl_spec_Denied, sem_spec_Denied, cl_spec_Negated, sem_spec_Negated, decide_true, decide_false, Bool.not_true, Bool.not_false, Bool.true_and, Bool.false_and, Bool.and_true, Bool.and_false, Bool.true_or, Bool.false_or, Bool.or_false, Bool.or_true, hpn', getRow _ _ hpn, getRow _ _ har, getRow _ _ hbr, har, hbr, har', hbr', hga, hgb, hss, stepG, true_or, or_true, false_or, or_false, or_self, hcm, hcm1, hcm2, hcm3, hcm4, getRow _ _ hcm]
        · by_cases hq : (calcF c rs[a] rs[b]).2 = 0
          all_goals simp (maxSteps := 10000000) (disch := first | assumption | omega) only [cCore, params, EG, EL, simprocAttr, FB, ED, EF, FT, hiL, hgL, hLs, hgs, List.set_set, hw, hw2, and_self, hp, hpn, run_goF, F_spec_l15Step, cx_spec_l15Step, cl_spec_CoreOk, ho, cl_spec_l01In, sem_spec_l01In, cl_spec_Decode, hD, cl_spec_l15Mem, F_spec_l15Mem, cx_spec_l15Mem, cl_spec_l15Calc, F_spec_l15Calc, cx_spec_l15Calc, cl_spec_ValOk, sem_spec_ValOk, cl_spec_Calc, sem_spec_Calc, cl_spec_Denied, sem_spec_Denied, cl_spec_Negated, sem_spec_Negated, decide_true, decide_false, Bool.not_true, Bool.not_false, Bool.true_and, Bool.false_and, Bool.and_true, Bool.and_false, Bool.true_or, Bool.false_or, Bool.or_false, Bool.or_true, hpn', getRow _ _ hpn, getRow _ _ har, getRow _ _ hbr, har, hbr, har', hbr', hga, hgb, hss, stepG, true_or, or_true, false_or, or_false, or_self, hq]
        · simp (maxSteps := 10000000) (disch := first | assumption | omega) only [cCore, params, EG, EL, simprocAttr, FB, ED, EF, FT, hiL, hgL, hLs, hgs, List.set_set, hw, hw2, and_self, hp, hpn, run_goF, F_spec_l15Step, cx_spec_l15Step, cl_spec_CoreOk, ho, cl_spec_l01In, sem_spec_l01In, cl_spec_Decode, hD, cl_spec_l15Mem, F_spec_l15Mem, cx_spec_l15Mem, cl_spec_l15Calc, F_spec_l15Calc, cx_spec_l15Calc, cl_spec_ValOk, sem_spec_ValOk, cl_spec_Calc, sem_spec_Calc, cl_spec_Denied, sem_spec_Denied, cl_spec_Negated, sem_spec_Negated, decide_true, decide_false, Bool.not_true, Bool.not_false, Bool.true_and, Bool.false_and, Bool.and_true, Bool.and_false, Bool.true_or, Bool.false_or, Bool.or_false, Bool.or_true, hpn', getRow _ _ hpn, getRow _ _ har, getRow _ _ hbr, har, hbr, har', hbr', hga, hgb, hss, stepG, true_or, or_true, false_or, or_false, or_self]
        · by_cases hq : (negF rs[a]).2 = 0
          all_goals simp (maxSteps := 10000000) (disch := first | assumption | omega) only [cCore, params, EG, EL, simprocAttr, FB, ED, EF, FT, hiL, hgL, hLs, hgs, List.set_set, hw, hw2, and_self, hp, hpn, run_goF, F_spec_l15Step, cx_spec_l15Step, cl_spec_CoreOk, ho, cl_spec_l01In, sem_spec_l01In, cl_spec_Decode, hD, cl_spec_l15Mem, F_spec_l15Mem, cx_spec_l15Mem, cl_spec_l15Calc, F_spec_l15Calc, cx_spec_l15Calc, cl_spec_ValOk, sem_spec_ValOk, cl_spec_Calc, sem_spec_Calc, cl_spec_Denied, sem_spec_Denied, cl_spec_Negated, sem_spec_Negated, decide_true, decide_false, Bool.not_true, Bool.not_false, Bool.true_and, Bool.false_and, Bool.and_true, Bool.and_false, Bool.true_or, Bool.false_or, Bool.or_false, Bool.or_true, hpn', getRow _ _ hpn, getRow _ _ har, getRow _ _ hbr, har, hbr, har', hbr', hga, hgb, hss, stepG, true_or, or_true, false_or, or_false, or_self, hq]
        · by_cases hq : rs[a] = 0
          · have hs0 : rs.set a 0 = rs := by rw [← hq]; exact hss
            simp (maxSteps := 10000000) (disch := first | assumption | omega) only [cCore, params, EG, EL, simprocAttr, FB, ED, EF, FT, hiL, hgL, hLs, hgs, List.set_set, hw, hw2, and_self, hp, hpn, run_goF, F_spec_l15Step, cx_spec_l15Step, cl_spec_CoreOk, ho, cl_spec_l01In, sem_spec_l01In, cl_spec_Decode, hD, cl_spec_l15Mem, F_spec_l15Mem, cx_spec_l15Mem, cl_spec_l15Calc, F_spec_l15Calc, cx_spec_l15Calc, cl_spec_ValOk, sem_spec_ValOk, cl_spec_Calc, sem_spec_Calc, cl_spec_Denied, sem_spec_Denied, cl_spec_Negated, sem_spec_Negated, decide_true, decide_false, Bool.not_true, Bool.not_false, Bool.true_and, Bool.false_and, Bool.and_true, Bool.and_false, Bool.true_or, Bool.false_or, Bool.or_false, Bool.or_true, hpn', getRow _ _ hpn, getRow _ _ har, getRow _ _ hbr, har, hbr, har', hbr', hga, hgb, hss, stepG, true_or, or_true, false_or, or_false, or_self, hq, hs0]
          · simp (maxSteps := 10000000) (disch := first | assumption | omega) only [cCore, params, EG, EL, simprocAttr, FB, ED, EF, FT, hiL, hgL, hLs, hgs, List.set_set, hw, hw2, and_self, hp, hpn, run_goF, F_spec_l15Step, cx_spec_l15Step, cl_spec_CoreOk, ho, cl_spec_l01In, sem_spec_l01In, cl_spec_Decode, hD, cl_spec_l15Mem, F_spec_l15Mem, cx_spec_l15Mem, cl_spec_l15Calc, F_spec_l15Calc, cx_spec_l15Calc, cl_spec_ValOk, sem_spec_ValOk, cl_spec_Calc, sem_spec_Calc, cl_spec_Denied, sem_spec_Denied, cl_spec_Negated, sem_spec_Negated, decide_true, decide_false, Bool.not_true, Bool.not_false, Bool.true_and, Bool.false_and, Bool.and_true, Bool.and_false, Bool.true_or, Bool.false_or, Bool.or_false, Bool.or_true, hpn', getRow _ _ hpn, getRow _ _ har, getRow _ _ hbr, har, hbr, har', hbr', hga, hgb, hss, stepG, true_or, or_true, false_or, or_false, or_self, hq]
        · simp (maxSteps := 10000000) (disch := first | assumption | omega) only [cCore, params, EG, EL, simprocAttr, FB, ED, EF, FT, hiL, hgL, hLs, hgs, List.set_set, hw, hw2, and_self, hp, hpn, run_goF, F_spec_l15Step, cx_spec_l15Step, cl_spec_CoreOk, ho, cl_spec_l01In, sem_spec_l01In, cl_spec_Decode, hD, cl_spec_l15Mem, F_spec_l15Mem, cx_spec_l15Mem, cl_spec_l15Calc, F_spec_l15Calc, cx_spec_l15Calc, cl_spec_ValOk, sem_spec_ValOk, cl_spec_Calc, sem_spec_Calc, cl_spec_Denied, sem_spec_Denied, cl_spec_Negated, sem_spec_Negated, decide_true, decide_false, Bool.not_true, Bool.not_false, Bool.true_and, Bool.false_and, Bool.and_true, Bool.and_false, Bool.true_or, Bool.false_or, Bool.or_false, Bool.or_true, hpn', getRow _ _ hpn, getRow _ _ har, getRow _ _ hbr, har, hbr, har', hbr', hga, hgb, hss, stepG, true_or, or_true, false_or, or_false, or_self]
        · by_cases hcm : c < m.length
          rotate_left
          · have hcm1 : ¬ (c : Int) ≤ (m.length : Int) - 1 := by omega
            have hcm2 : (m.length : Int) ≤ (c : Int) := by omega
            have hcm3 : m.length ≤ c := by omega
            have hcm4 : ¬ (c : Int) < (m.length : Int) := by omega
            simp (maxSteps := 10000000) (disch := first | assumption | omega) only [cCore, params, EG, EL, simprocAttr, FB, ED, EF, FT, hiL, hgL, hLs, hgs, List.set_set, hw, hw2, and_self, hp, hpn, run_goF, F_spec_l15Step, cx_spec_l15Step, cl_spec_CoreOk, ho, cl_spec_l01In, sem_spec_l01In, cl_spec_Decode, hD, cl_spec_l15Mem, F_spec_l15Mem, cx_spec_l15Mem, cl_spec_l15Calc, F_spec_l15Calc, cx_spec_l15Calc, cl_spec_ValOk, sem_spec_ValOk, cl_spec_Calc, sem_spec_Calc, cl_spec_Denied, sem_spec_Denied, cl_spec_Negated, sem_spec_Negated, decide_true, decide_false, Bool.not_true, Bool.not_false, Bool.true_and, Bool.false_and, Bool.and_true, Bool.and_false, Bool.true_or, Bool.false_or, Bool.or_false, Bool.or_true, hpn', getRow _ _ hpn, getRow _ _ har, getRow _ _ hbr, har, hbr, har', hbr', hga, hgb, hss, stepG, true_or, or_true, false_or, or_false, or_self, hcm, hcm1, hcm2, hcm3, hcm4]
          · have hcm1 : (c : Int) ≤ (m.length : Int) - 1 := by omega
            have hcm2 : ¬ (m.length : Int) ≤ (c : Int) := by omega
            have hcm3 : ¬ m.length ≤ c := by omega
            have hcm4 : (c : Int) < (m.length : Int) := by omega
            have hgm : m.getD c 0 = m[c] := by simp [hcm]
            cases hv : valOk m[c]
            all_goals simp (maxSteps := 10000000) (disch := first | assumption | omega) only [cCore, params, EG, EL, simprocAttr, FB, ED, EF, FT, hiL, hgL, hLs, hgs, List.set_set, hw, hw2, and_self, hp, hpn, run_goF, F_spec_l15Step, cx_spec_l15Step, cl_spec_CoreOk, ho, cl_spec_l01In, sem_spec_l01In, cl_spec_Decode, hD, cl_spec_l15Mem, F_spec_l15Mem, cx_spec_l15Mem, cl_spec_l15Calc, F_spec_l15Calc, cx_spec_l15Calc, cl_spec_ValOk, sem_spec_ValOk, cl_spec_Calc, sem_spec_Calc, cl_spec_Denied, sem_spec_Denied, cl_spec_Negated, sem_spec_Negated, decide_true, decide_false, Bool.not_true, Bool.not_false, Bool.true_and, Bool.false_and, Bool.and_true, Bool.and_false, Bool.true_or, Bool.false_or, Bool.or_false, Bool.or_true, hpn', getRow _ _ hpn, getRow _ _ har, getRow _ _ hbr, har, hbr, har', hbr', hga, hgb, hgm, hv, hss, stepG, true_or, or_true, false_or, or_false, or_self, hcm, hcm1, hcm2, hcm3, hcm4, getRow _ _ hcm]
        · simp (maxSteps := 10000000) (disch := first | assumption | omega) only [cCore, params, EG, EL, simprocAttr, FB, ED, EF, FT, hiL, hgL, hLs, hgs, List.set_set, hw, hw2, and_self, hp, hpn, run_goF, F_spec_l15Step, cx_spec_l15Step, cl_spec_CoreOk, ho, cl_spec_l01In, sem_spec_l01In, cl_spec_Decode, hD, cl_spec_l15Mem, F_spec_l15Mem, cx_spec_l15Mem, cl_spec_l15Calc, F_spec_l15Calc, cx_spec_l15Calc, cl_spec_ValOk, sem_spec_ValOk, cl_spec_Calc, sem_spec_Calc, cl_spec_Denied, sem_spec_Denied, cl_spec_Negated, sem_spec_Negated, decide_true, decide_false, Bool.not_true, Bool.not_false, Bool.true_and, Bool.false_and, Bool.and_true, Bool.and_false, Bool.true_or, Bool.false_or, Bool.or_false, Bool.or_true, hpn', getRow _ _ hpn, getRow _ _ har, getRow _ _ hbr, har, hbr, har', hbr', hga, hgb, hss, stepG, true_or, or_true, false_or, or_false, or_self]
  · have e : stepF ⟨rs, pc, pr⟩ t m = (⟨rs, pc, pr⟩, m, 4) := by
      simp only [stepF]
      rw [if_neg (by rintro ⟨_, h, _⟩; exact hp h)]
    have hD : True := trivial
    cases hc : coreOkF ⟨rs, pc, pr⟩ <;> simp only [hc] at ho
    all_goals simp (maxSteps := 10000000) (disch := first | assumption | omega) only [cCore, params, EG, EL, simprocAttr, FB, ED, EF, FT, hiL, hgL, hLs, hw, hw2, and_self, hp, run_goF, F_spec_l15Step, cx_spec_l15Step, cl_spec_CoreOk, ho, cl_spec_l01In, sem_spec_l01In, cl_spec_Decode, hD, cl_spec_l15Mem, F_spec_l15Mem, cx_spec_l15Mem, cl_spec_l15Calc, F_spec_l15Calc, cx_spec_l15Calc, cl_spec_ValOk, sem_spec_ValOk, cl_spec_Calc, sem_spec_Calc, cl_spec_Denied, sem_spec_Denied, cl_spec_Negated, sem_spec_Negated, decide_true, decide_false, Bool.not_true, Bool.not_false, Bool.true_and, Bool.false_and, Bool.and_true, Bool.and_false, Bool.true_or, Bool.false_or, Bool.or_false, Bool.or_true, e]
theorem pE (p : Prop) : p = True ∨ p = False := (Classical.em p).elim (fun h => .inl (eq_true h)) (fun h => .inr (eq_false h))
theorem snocE (E : List DEvent) (p a b : Int) : E.map cEvent ++ [[.int .i64 p, .int .i64 a, .int .i64 b]] = (E ++ ([⟨p, a, b⟩] : List DEvent)).map cEvent := by simp
theorem mem0 (M : List Int) : (((0 : Int) < (M.length : Int)) = True ∧ 0 < M.length ∧ (M.map cI).getD 0 [] = [.int .i64 (M.getD 0 0)]) ∨ (((0 : Int) < (M.length : Int)) = False ∧ M.set 0 0 = M ∧ True) := by
  cases M with
  | nil => exact .inr ⟨by simp, rfl, trivial⟩
  | cons a M => exact .inl ⟨eq_true (by simp only [List.length_cons]; omega), by simp, by simp⟩
theorem rng1 (p : Int) (L : List DCore) (h0 : 0 ≤ p) : ((p ≤ (L.length : Int) - 1) = True ∧ p.toNat < L.length ∧ p < (L.length : Int) ∧ (L.map cCore).getD p.toNat [] = [.tree 1 ((L.getD p.toNat coreNew).Regs.map cI), .int .i64 (L.getD p.toNat coreNew).Pc, .int .i64 (L.getD p.toNat coreNew).Process]) ∨ ((p ≤ (L.length : Int) - 1) = False ∧ True ∧ True ∧ True) := by
  by_cases h : p ≤ (L.length : Int) - 1
  · have h2 : p.toNat < L.length := by omega
    refine .inl ⟨eq_true h, h2, by omega, ?_⟩
    rw [getRow _ _ h2]; simp [h2]
  · exact .inr ⟨eq_false h, trivial, trivial, trivial⟩
theorem renQ_none {base : Nat} {fd : List Nat} {r : BRef} : renQ none base fd r = none := rfl
theorem renSl_none {i o l : Nat} : renSl none i o l = .gone := rfl
theorem renPt_none {i o l : Nat} : renPt none i o l = .gone := rfl
theorem roots_gone' : roots .gone = [] := rfl
theorem snocR (R : List Int) (v : Int) : R.map cI ++ [[.int .i64 v]] = (R ++ [v]).map cI := by simp
def gate0 : DGate := ⟨0, [], []⟩
def tellM (y : DMachine) (p k n : Int) : DMachine := { y with Events := y.Events ++ [⟨p, k, n⟩] }
def faultM (y : DMachine) (p f : Int) : DMachine := { y with Events := y.Events ++ [⟨p, 8, f⟩], Stopped := true }
def gateR (G : DGate) (p a b : Int) : DGate × Int × Bool × Bool :=
  if a = 1 then ((arriveG G p).1, -1, !(arriveG G p).2, true) else if a = 2 then ((leaveG G).1, (leaveG G).2, false, true) else if a = 4 then ((contG G b).1, (contG G b).2, false, true) else ((delayG G b).1, (delayG G b).2.1, true, (delayG G b).2.2)
def gateM (y : DMachine) (k : Nat) (c : DCore) (a : Int) (g : Nat) (r : DGate × Int × Bool × Bool) : DMachine :=
  if r.2.2.2 = true then
    { y with Kernel := wakeK (if r.2.2.1 = true then holdK { y.Kernel with Gates := y.Kernel.Gates.set g r.1 } c else { y.Kernel with Gates := y.Kernel.Gates.set g r.1 }) r.2.1, Cores := if r.2.2.1 = true then y.Cores.set k coreNew else y.Cores, Mem := y.Mem.set 0 0, Events := y.Events ++ [⟨c.Process, a, (g : Int)⟩] }
  else faultM y c.Process 3
def readM (y : DMachine) (k : Nat) (c : DCore) (v : Int) (r : List Int) : DMachine := { y with Input := r, Cores := y.Cores.set k ⟨c.Regs.set 0 v, c.Pc, c.Process⟩, Events := y.Events ++ [⟨c.Process, 6, v⟩] }
def sysM (y : DMachine) (k : Nat) (c : DCore) (a : Int) (n : Nat) : DMachine :=
  if a = 1 ∨ a = 2 then (if n < y.Kernel.Gates.length then gateM y k c a n (gateR (y.Kernel.Gates.getD n gate0) c.Process a ((n % 2 : Nat) : Int)) else faultM y c.Process 4)
  else if a = 3 ∨ a = 4 then (if n / 2 < y.Kernel.Gates.length then gateM y k c a (n / 2) (gateR (y.Kernel.Gates.getD (n / 2) gate0) c.Process a ((n % 2 : Nat) : Int)) else faultM y c.Process 4)
  else if a = 5 then tellM y c.Process 5 (c.Regs.getD 0 0)
  else if a = 6 then readM y k c (y.Input.headD 0) y.Input.tail
  else { y with Events := y.Events ++ [⟨c.Process, 7, 0⟩], Kernel := { y.Kernel with Over := y.Kernel.Over.set c.Process.toNat true }, Cores := y.Cores.set k coreNew }
def coreM (x : DMachine) (k : Nat) (c c' : DCore) (m : List Int) (code : Int) : DMachine :=
  if code = 0 then { x with Cores := x.Cores.set k c', Mem := m } else if code = 10 then sysM { x with Cores := x.Cores.set k c', Mem := m } k c' (dA (x.Image.Text.getD c.Pc.toNat 0)) (dC (x.Image.Text.getD c.Pc.toNat 0)).toNat else faultM { x with Cores := x.Cores.set k c', Mem := m } c'.Process code
def stepM (x : DMachine) (i : Int) : DMachine × Bool :=
  if x.Stopped = true ∨ ¬ (0 ≤ i ∧ i ≤ (x.Cores.length : Int) - 1) then (x, false)
  else if (x.Cores.getD i.toNat coreNew).Process < 0 then
    (if (pickK x.Kernel).2.2 = true then ({ x with Kernel := (pickK x.Kernel).1, Cores := x.Cores.set i.toNat (pickK x.Kernel).2.1 }, true) else (x, false))
  else (coreM x i.toNat (x.Cores.getD i.toNat coreNew) (stepF (x.Cores.getD i.toNat coreNew) x.Image.Text x.Mem).1 (stepF (x.Cores.getD i.toNat coreNew) x.Image.Text x.Mem).2.1 (stepF (x.Cores.getD i.toNat coreNew) x.Image.Text x.Mem).2.2, true)
theorem stepF_proc {c : DCore} {t m : List Int} : (stepF c t m).1.Process = c.Process := by
  unfold stepF stepG
  dsimp only
  repeat' split
  all_goals rfl
theorem calcF_le {op a b : Int} : (calcF op a b).2 ≤ 2 := by
  unfold calcF; repeat' split
  all_goals simp
theorem negF_le {a : Int} : (negF a).2 ≤ 2 := by
  unfold negF; split
  all_goals simp
theorem stepG_code {x : DCore} {m : List Int} {op : Int} {a b c : Nat} (h : (stepG x m op a b c).2.2 = 10) : op = 10 := by
  by_cases h10 : op = 10
  · exact h10
  · exfalso
    unfold stepG at h
    dsimp only at h
    rw [if_neg h10] at h
    have hr : (if op = 1 then ((c : Int), (0 : Int)) else if op = 4 then calcF c (x.Regs.getD a 0) (x.Regs.getD b 0) else if op = 5 then (bitF (decide (x.Regs.getD a 0 = 0)), 0) else negF (x.Regs.getD a 0)).2 ≤ 2 := by
      repeat' split
      · simp
      · exact calcF_le
      · simp
      · exact negF_le
    generalize (if op = 1 then ((c : Int), (0 : Int)) else if op = 4 then calcF c (x.Regs.getD a 0) (x.Regs.getD b 0) else if op = 5 then (bitF (decide (x.Regs.getD a 0 = 0)), 0) else negF (x.Regs.getD a 0)) = r at *
    repeat' split at h
    all_goals first | (dsimp only at h; omega) | (simp at h)
theorem stepF_sys {c : DCore} {t m : List Int} (h : (stepF c t m).2.2 = 10) : ∃ p n : Nat, c.Pc = (p : Int) ∧ p < t.length ∧ decOk (t.getD p 0) = true ∧ dOp (t.getD p 0) = 10 ∧ (1 ≤ dA (t.getD p 0) ∧ dA (t.getD p 0) ≤ 7) ∧ dB (t.getD p 0) = 0 ∧ dC (t.getD p 0) = (n : Int) ∧ n ≤ 4194303 ∧ (stepF c t m).2.1 = m ∧ (stepF c t m).1.Regs = c.Regs ∧ c.Regs.length = 8 ∧ c.Process ≤ 3 := by
  by_cases hc : coreOkF c = true ∧ (0 ≤ c.Pc ∧ c.Pc ≤ (t.length : Int) - 1) ∧ decOk (t.getD c.Pc.toNat 0) = true
  · have e : stepF c t m = stepG c m (dOp (t.getD c.Pc.toNat 0)) (dA (t.getD c.Pc.toNat 0)).toNat (dB (t.getD c.Pc.toNat 0)).toNat (dC (t.getD c.Pc.toNat 0)).toNat := by unfold stepF; rw [if_pos hc]
    rw [e] at h ⊢
    have hop := stepG_code h
    obtain ⟨hok, hr, hd⟩ := hc
    obtain ⟨p, hp⟩ : ∃ p : Nat, c.Pc = (p : Int) := ⟨c.Pc.toNat, by omega⟩
    have h8 := coreOk_len hok
    have hd2 := hd
    simp only [decOk, insOk, Bool.and_eq_true, decide_eq_true_eq, hop] at hd2
    rw [hop]
    have hpw : t.getD p 0 = t.getD c.Pc.toNat 0 := by rw [hp, Int.toNat_natCast]
    refine ⟨p, (dC (t.getD c.Pc.toNat 0)).toNat, hp, by omega, ?_⟩
    rw [hpw]
    refine ⟨hd, hop, by omega, by omega, by omega, by omega, rfl, rfl, h8.1, ?_⟩
    simp only [coreOkF, Bool.and_eq_true, decide_eq_true_eq] at hok
    exact hok.2.2.2.2
  · unfold stepF at h; rw [if_neg hc] at h; exact absurd h (by simp)
theorem stepF_rlen {c : DCore} {t m : List Int} : (stepF c t m).1.Regs.length = c.Regs.length := stepF_regs
theorem stepF_mlen {c : DCore} {t m : List Int} : (stepF c t m).2.1.length = m.length := stepF_mem
def SB := And.intro @F_spec_StepMachine.eq_1 (And.intro @cx_spec_StepMachine (And.intro @cl_spec_l21Step (And.intro @F_spec_l21Step.eq_1 (And.intro @cx_spec_l21Step (And.intro @cl_spec_l21Sys (And.intro @F_spec_l21Sys.eq_1 (And.intro @cx_spec_l21Sys (And.intro @cl_spec_l21Tell (And.intro @F_spec_l21Tell.eq_1 (And.intro @cx_spec_l21Tell (And.intro @cl_spec_l21Gate (And.intro @F_spec_l21Gate.eq_1 (And.intro @cx_spec_l21Gate (And.intro @cl_spec_l20Hold (And.intro @F_spec_l20Hold.eq_1 (And.intro @cx_spec_l20Hold (And.intro @cl_spec_l21Unlock (And.intro @F_spec_l21Unlock.eq_1 (And.intro @cx_spec_l21Unlock (And.intro @cl_spec_l20Wake (And.intro @F_spec_l20Wake.eq_1 (And.intro @cx_spec_l20Wake (And.intro @cl_spec_l21Fault (And.intro @F_spec_l21Fault.eq_1 (And.intro @cx_spec_l21Fault (And.intro @cl_spec_l20Pick (And.intro @F_spec_l20Pick.eq_1 (And.intro @cx_spec_l20Pick (And.intro @cl_spec_l21Copy (And.intro @cl_spec_l01In (And.intro @cl_spec_l15Step (And.intro @cl_spec_Decode (And.intro @cl_spec_Arrive (And.intro @cl_spec_Leave (And.intro @cl_spec_DelayIn (And.intro @cl_spec_ContinueAt (And.intro @cl_spec_l15Copy (And.intro @cl_spec_CoreNew (And.intro @cl_spec_l12In (And.intro @sem_spec_l01In (And.intro @sem_spec_CoreNew (And.intro @sem_spec_l12In (And.intro @run_goF (And.intro @Int.toNat_natCast (And.intro @snocE (And.intro @snocR (And.intro @renQ_none (And.intro @renSl_none (And.intro @renPt_none (@roots_gone'))))))))))))))))))))))))))))))))))))))))))))))))))
set_option maxHeartbeats 8000000 in
theorem sem_spec_StepMachine (x : DMachine) (h : okM x) (i : Int) : S_spec_StepMachine.sem [.agg (cMachine x), .int .i64 i] = some (.tup [.agg (cMachine (stepM x i).1), .bool (stepM x i).2], []) := by
  have hL := sem_spec_l21Copy x h
  obtain ⟨⟨T, Ss, z⟩, M, C, ⟨Gs, R, Sv, O⟩, I, E, st⟩ := x
  obtain ⟨⟨hT, hS, hM, hC, hI, hE⟩, ⟨hGa, hs, hr, ho⟩, hGb, hSa, hCa⟩ := h
  simp only at hT hS hM hC hI hE hGa hs hr ho hGb hSa hCa
  simp only [cMachine] at hL
  have hw1 : IntKind.wrap .i64 ((C.length : Int) - 1) = (C.length : Int) - 1 := wrapI (by omega) (by omega)
  have hw2 : IntKind.wrap .i64 ((Gs.length : Int) - 1) = (Gs.length : Int) - 1 := wrapI (by omega) (by omega)
  have hw3 : IntKind.wrap .i64 ((Sv.length : Int) - 1) = (Sv.length : Int) - 1 := wrapI (by omega) (by omega)
  have hw4 : IntKind.wrap .i64 ((O.length : Int) - 1) = (O.length : Int) - 1 := wrapI (by omega) (by omega)
  have hev : (E.length + 1) * 24 ≤ 70368744177664 := by omega
  have hrc : (R.length + 1) * 8 ≤ 70368744177664 := by omega
  rw [sg_spec_StepMachine, sem_go]
  cases st
  rotate_left
  · simp (maxSteps := 10000000) (disch := first | assumption | omega) only [cMachine, params, EG, EL, simprocAttr, FB, ED, EF, FT, hL, hw1, hw2, hw3, hw4, decide_true, decide_false, Bool.not_true, Bool.not_false, Bool.true_and, Bool.false_and, Bool.and_true, Bool.and_false, Bool.true_or, Bool.false_or, Bool.or_false, Bool.or_true, true_or, or_true, false_or, or_false, true_and, and_true, false_and, and_false, not_true, not_false_iff, if_true, if_false, ite_true, ite_false, gt_iff_lt, ge_iff_le, stepM, SB]
  by_cases hi : 0 ≤ i ∧ i ≤ (C.length : Int) - 1
  rotate_left
  · have e0 : (0 ≤ i ∧ i ≤ (C.length : Int) - 1) = False := eq_false hi
    simp (maxSteps := 10000000) (disch := first | assumption | omega) only [cMachine, params, EG, EL, simprocAttr, FB, ED, EF, FT, hL, hw1, hw2, hw3, hw4, decide_true, decide_false, Bool.not_true, Bool.not_false, Bool.true_and, Bool.false_and, Bool.and_true, Bool.and_false, Bool.true_or, Bool.false_or, Bool.or_false, Bool.or_true, true_or, or_true, false_or, or_false, true_and, and_true, false_and, and_false, not_true, not_false_iff, if_true, if_false, ite_true, ite_false, gt_iff_lt, ge_iff_le, stepM, e0, SB]
  obtain ⟨k, rfl⟩ : ∃ n : Nat, i = (n : Int) := ⟨i.toNat, by omega⟩
  have hk : k < C.length := by omega
  have hk' : (k : Int) < (C.length : Int) := by omega
  have hk2 : (k : Int) ≤ (C.length : Int) - 1 := by omega
  have hk0 : (0 : Int) ≤ (k : Int) := by omega
  have e0 : (0 ≤ (k : Int) ∧ (k : Int) ≤ (C.length : Int) - 1) = True := eq_true hi
  have hcd : C.getD k coreNew = C[k] := by simp [hk]
  have hco := getRow cCore C hk
  have hcl := hCa _ (List.getElem_mem hk)
  generalize C[k] = c at *
  rcases pE (c.Process < 0) with hq0 | hq0
  · simp only [cCore] at hco
    cases R with
    | nil =>
      simp only [List.map_nil] at hL
      simp (maxSteps := 10000000) (disch := first | assumption | omega) only [cMachine, params, EG, EL, simprocAttr, FB, ED, EF, FT, hL, hw1, hw2, hw3, hw4, decide_true, decide_false, Bool.not_true, Bool.not_false, Bool.true_and, Bool.false_and, Bool.and_true, Bool.and_false, Bool.true_or, Bool.false_or, Bool.or_false, Bool.or_true, true_or, or_true, false_or, or_false, true_and, and_true, false_and, and_false, not_true, not_false_iff, if_true, if_false, ite_true, ite_false, gt_iff_lt, ge_iff_le, stepM, hk, hk', hk2, hk0, hco, hcd, e0, hq0, pickK, SB]
    | cons r R =>
      simp only [List.map_cons] at hL
      have hz : (((R.length + 1 : Nat) : Int) = 0) = False := eq_false (by omega)
      have hz2 : (0 : Int) < ((R.length + 1 : Nat) : Int) := by omega
      have hz3 : (1 : Int) ≤ ((R.length + 1 : Nat) : Int) := by omega
      rcases pE (0 ≤ r ∧ r ≤ (Sv.length : Int) - 1) with hrr | hrr
      · obtain ⟨n, rfl⟩ : ∃ n : Nat, r = (n : Int) := ⟨r.toNat, by have := of_eq_true hrr; omega⟩
        have hn : n < Sv.length := by have := of_eq_true hrr; omega
        have hn' : (n : Int) < (Sv.length : Int) := by omega
        have hn2 : (n : Int) ≤ (Sv.length : Int) - 1 := by omega
        have hsv := getRow cCore Sv hn
        have hgd : Sv.getD n coreNew = Sv[n] := by simp [hn]
        have hkC := sem_spec_l15Copy Sv[n] (hSa _ (List.getElem_mem hn))
        simp only [cCore] at hsv hkC
        have hcc : (R.length + 1) * 8 ≤ 70368744177664 := by simp only [List.length_cons] at hr; omega
        have hcc2 : R.length * 8 ≤ 70368744177664 := by omega
        simp (maxSteps := 10000000) (disch := first | assumption | omega) only [cMachine, params, EG, EL, simprocAttr, FB, ED, EF, FT, hL, hw1, hw2, hw3, hw4, decide_true, decide_false, Bool.not_true, Bool.not_false, Bool.true_and, Bool.false_and, Bool.and_true, Bool.and_false, Bool.true_or, Bool.false_or, Bool.or_false, Bool.or_true, true_or, or_true, false_or, or_false, true_and, and_true, false_and, and_false, not_true, not_false_iff, if_true, if_false, ite_true, ite_false, gt_iff_lt, ge_iff_le, stepM, hk, hk', hk2, hk0, hco, hcd, e0, hq0, pickK, hrr, hz, hz2, hz3, hn2, hn, hn', hsv, hgd, hkC, hcc, hcc2, SB]
      · simp (maxSteps := 10000000) (disch := first | assumption | omega) only [cMachine, params, EG, EL, simprocAttr, FB, ED, EF, FT, hL, hw1, hw2, hw3, hw4, decide_true, decide_false, Bool.not_true, Bool.not_false, Bool.true_and, Bool.false_and, Bool.and_true, Bool.and_false, Bool.true_or, Bool.false_or, Bool.or_false, Bool.or_true, true_or, or_true, false_or, or_false, true_and, and_true, false_and, and_false, not_true, not_false_iff, if_true, if_false, ite_true, ite_false, gt_iff_lt, ge_iff_le, stepM, hk, hk', hk2, hk0, hco, hcd, e0, hq0, pickK, hrr, hz, hz2, hz3, SB]
  have hst5 := fsem_spec_l15Step C k hk c hco T M hcl hT hM
  have est : stepM ⟨⟨T, Ss, z⟩, M, C, ⟨Gs, R, Sv, O⟩, I, E, false⟩ (k : Int) = (coreM ⟨⟨T, Ss, z⟩, M, C, ⟨Gs, R, Sv, O⟩, I, E, false⟩ k c (stepF c T M).1 (stepF c T M).2.1 (stepF c T M).2.2, true) := by
    simp only [stepM, e0, Int.toNat_natCast, hcd, hq0, not_true, or_false, Bool.false_eq_true, if_false]
  rw [est]
  clear est
  have hpr : c.Process = (stepF c T M).1.Process := stepF_proc.symm
  have hsys := @stepF_sys c T M
  have hrl := Nat.le_trans (Nat.le_of_eq (@stepF_rlen c T M)) hcl
  have hml := @stepF_mlen c T M
  rw [← List.map_set] at hst5
  simp only [cCore] at hco
  rw [hpr] at hco hq0
  generalize (stepF c T M).1 = c' at *
  generalize (stepF c T M).2.1 = m' at *
  generalize (stepF c T M).2.2 = code at *
  rcases pE (code = 0) with e | e
  · have e := of_eq_true e
    subst e
    simp (maxSteps := 10000000) (disch := first | assumption | omega) only [cMachine, params, EG, EL, simprocAttr, FB, ED, EF, FT, hL, hw1, hw2, hw3, hw4, decide_true, decide_false, Bool.not_true, Bool.not_false, Bool.true_and, Bool.false_and, Bool.and_true, Bool.and_false, Bool.true_or, Bool.false_or, Bool.or_false, Bool.or_true, true_or, or_true, false_or, or_false, true_and, and_true, false_and, and_false, not_true, not_false_iff, if_true, if_false, ite_true, ite_false, gt_iff_lt, ge_iff_le, stepM, hk, hk', hk2, hk0, hco, hcd, e0, hq0, hpr, hst5, coreM, hml, SB]
  rcases pE (code = 10) with e1 | e1
  rotate_left
  · simp (maxSteps := 10000000) (disch := first | assumption | omega) only [cMachine, params, EG, EL, simprocAttr, FB, ED, EF, FT, hL, hw1, hw2, hw3, hw4, decide_true, decide_false, Bool.not_true, Bool.not_false, Bool.true_and, Bool.false_and, Bool.and_true, Bool.and_false, Bool.true_or, Bool.false_or, Bool.or_false, Bool.or_true, true_or, or_true, false_or, or_false, true_and, and_true, false_and, and_false, not_true, not_false_iff, if_true, if_false, ite_true, ite_false, gt_iff_lt, ge_iff_le, stepM, hk, hk', hk2, hk0, hco, hcd, e0, hq0, hpr, e, e1, hst5, coreM, hml, faultM, hev, SB]
  have e1 := of_eq_true e1
  subst e1
  obtain ⟨p, n, hPc, hpn, hdk, hop, ha, hb, hC', hn, hm', hrs', h8, hp3⟩ := hsys rfl
  subst hm'
  rw [hPc] at hco
  have hg : T.getD p 0 = T[p] := by simp [hpn]
  have hpn' : (p : Int) < (T.length : Int) := by omega
  have hD := sem_spec_Decode T[p]
  rw [hg] at hdk hop ha hb hC'
  simp only [decR, hdk, hop, hb, hC', if_true] at hD
  have e1 : ((10 : Int) = 0) = False := eq_false (by decide)
  have hsl : ∀ d : List AV, ((C.map cCore).set k d).getD k [] = d := fun d => by simp [hk]
  have hsl2 : ((C.set k c').map cCore).getD k [] = [.tree 1 (c'.Regs.map cI), .int .i64 c'.Pc, .int .i64 c'.Process] := by rw [List.map_set]; exact hsl _
  have hlen : (C.set k c').length = C.length := List.length_set
  have hq1 : 0 ≤ c'.Process := by have := of_eq_false hq0; omega
  have hr0 : 0 < c'.Regs.length := by rw [hrs', h8]; omega
  have hr0' : (0 : Int) < (c'.Regs.length : Int) := by omega
  have hr00 : c'.Regs.getD 0 0 = c'.Regs[0] := by simp [hr0]
  have hdv : Int.tdiv (n : Int) 2 = ((n / 2 : Nat) : Int) := rfl
  have hmd : Int.tmod (n : Int) 2 = ((n % 2 : Nat) : Int) := rfl
  have hwd : IntKind.wrap .i64 ((n / 2 : Nat) : Int) = ((n / 2 : Nat) : Int) := wrapI (by omega) (by omega)
  generalize hA : dA T[p] = a at *
  have : a = 1 ∨ a = 2 ∨ a = 3 ∨ a = 4 ∨ a = 5 ∨ a = 6 ∨ a = 7 := by omega
  rcases this with rfl | rfl | rfl | rfl | rfl | rfl | rfl
  · by_cases hcg : n < Gs.length
    rotate_left
    · have hgr : (((n : Nat) : Int) ≤ (Gs.length : Int) - 1) = False := eq_false (by omega)
      simp (maxSteps := 10000000) (disch := first | assumption | omega) only [cMachine, params, EG, EL, simprocAttr, FB, ED, EF, FT, hL, hw1, hw2, hw3, hw4, decide_true, decide_false, Bool.not_true, Bool.not_false, Bool.true_and, Bool.false_and, Bool.and_true, Bool.and_false, Bool.true_or, Bool.false_or, Bool.or_false, Bool.or_true, true_or, or_true, false_or, or_false, true_and, and_true, false_and, and_false, not_true, not_false_iff, if_true, if_false, ite_true, ite_false, gt_iff_lt, ge_iff_le, stepM, hk, hk', hk2, hk0, hco, hcd, e0, hq0, hst5, e1, hpr, coreM, hml, hsl2, hlen, hq1, List.set_set, hD, getRow _ _ hpn, hpn, hpn', hg, hPc, hA, hC', sysM, hev, hdv, hmd, hwd, hcg, hgr, faultM, SB]
    have hgr : (((n : Nat) : Int) ≤ (Gs.length : Int) - 1) = True := eq_true (by omega)
    have hcg1 : ((n : Nat) : Int) < (Gs.length : Int) := by omega
    have hcg2 : (0 : Int) ≤ ((n : Nat) : Int) := by omega
    have hG := getRow cGate Gs hcg
    have hGd : Gs.getD n gate0 = Gs[n] := by simp [hcg]
    have hGl := hGb _ (List.getElem_mem hcg)
    generalize Gs[n] = G at *
    have hX := sem_spec_Arrive G (by omega) c'.Process
    simp only [cGate] at hG hX
    have hkC := sem_spec_l15Copy c' hrl
    simp only [cCore] at hkC
    cases hin : (arriveG G c'.Process).2
    · rw [hin] at hX
      rcases rng1 c'.Process Sv hq1 with ⟨hho, hho0, hho1, hho2⟩ | ⟨hho, hho0, hho1, hho2⟩
      all_goals rcases mem0 m' with ⟨hme, hme2, hgm⟩ | ⟨hme, hme2, hgm⟩
      all_goals simp (maxSteps := 10000000) (disch := first | assumption | omega) only [cMachine, params, EG, EL, simprocAttr, FB, ED, EF, FT, hL, hw1, hw2, hw3, hw4, decide_true, decide_false, Bool.not_true, Bool.not_false, Bool.true_and, Bool.false_and, Bool.and_true, Bool.and_false, Bool.true_or, Bool.false_or, Bool.or_false, Bool.or_true, true_or, or_true, false_or, or_false, true_and, and_true, false_and, and_false, not_true, not_false_iff, if_true, if_false, ite_true, ite_false, gt_iff_lt, ge_iff_le, stepM, hk, hk', hk2, hk0, hco, hcd, e0, hq0, hst5, e1, hpr, coreM, hml, hsl2, hlen, hq1, List.set_set, hD, getRow _ _ hpn, hpn, hpn', hg, hPc, hA, hC', sysM, hev, hdv, hmd, hwd, hcg, hcg1, hcg2, hgr, hG, hGd, hX, hkC, hme, hme2, hgm, gateM, gateR, holdK, wakeK, List.length_set, hrc, hin, hho, hho0, hho1, hho2, SB]
    · rw [hin] at hX
      rcases mem0 m' with ⟨hme, hme2, hgm⟩ | ⟨hme, hme2, hgm⟩
      all_goals simp (maxSteps := 10000000) (disch := first | assumption | omega) only [cMachine, params, EG, EL, simprocAttr, FB, ED, EF, FT, hL, hw1, hw2, hw3, hw4, decide_true, decide_false, Bool.not_true, Bool.not_false, Bool.true_and, Bool.false_and, Bool.and_true, Bool.and_false, Bool.true_or, Bool.false_or, Bool.or_false, Bool.or_true, true_or, or_true, false_or, or_false, true_and, and_true, false_and, and_false, not_true, not_false_iff, if_true, if_false, ite_true, ite_false, gt_iff_lt, ge_iff_le, stepM, hk, hk', hk2, hk0, hco, hcd, e0, hq0, hst5, e1, hpr, coreM, hml, hsl2, hlen, hq1, List.set_set, hD, getRow _ _ hpn, hpn, hpn', hg, hPc, hA, hC', sysM, hev, hdv, hmd, hwd, hcg, hcg1, hcg2, hgr, hG, hGd, hX, hkC, hme, hme2, hgm, gateM, gateR, holdK, wakeK, List.length_set, hrc, hin, SB]
  · by_cases hcg : n < Gs.length
    rotate_left
    · have hgr : (((n : Nat) : Int) ≤ (Gs.length : Int) - 1) = False := eq_false (by omega)
      simp (maxSteps := 10000000) (disch := first | assumption | omega) only [cMachine, params, EG, EL, simprocAttr, FB, ED, EF, FT, hL, hw1, hw2, hw3, hw4, decide_true, decide_false, Bool.not_true, Bool.not_false, Bool.true_and, Bool.false_and, Bool.and_true, Bool.and_false, Bool.true_or, Bool.false_or, Bool.or_false, Bool.or_true, true_or, or_true, false_or, or_false, true_and, and_true, false_and, and_false, not_true, not_false_iff, if_true, if_false, ite_true, ite_false, gt_iff_lt, ge_iff_le, stepM, hk, hk', hk2, hk0, hco, hcd, e0, hq0, hst5, e1, hpr, coreM, hml, hsl2, hlen, hq1, List.set_set, hD, getRow _ _ hpn, hpn, hpn', hg, hPc, hA, hC', sysM, hev, hdv, hmd, hwd, hcg, hgr, faultM, SB]
    have hgr : (((n : Nat) : Int) ≤ (Gs.length : Int) - 1) = True := eq_true (by omega)
    have hcg1 : ((n : Nat) : Int) < (Gs.length : Int) := by omega
    have hcg2 : (0 : Int) ≤ ((n : Nat) : Int) := by omega
    have hG := getRow cGate Gs hcg
    have hGd : Gs.getD n gate0 = Gs[n] := by simp [hcg]
    have hGl := hGb _ (List.getElem_mem hcg)
    generalize Gs[n] = G at *
    have hX := sem_spec_Leave G (by omega)
    simp only [cGate] at hG hX
    have hkC := True.intro
    rcases mem0 m' with ⟨hme, hme2, hgm⟩ | ⟨hme, hme2, hgm⟩
    all_goals rcases pE (0 ≤ (leaveG G).2 ∧ (leaveG G).2 ≤ (Sv.length : Int) - 1) with hwr | hwr
    all_goals rcases pE ((leaveG G).2 ∈ R) with hwi | hwi
    all_goals simp (maxSteps := 10000000) (disch := first | assumption | omega) only [cMachine, params, EG, EL, simprocAttr, FB, ED, EF, FT, hL, hw1, hw2, hw3, hw4, decide_true, decide_false, Bool.not_true, Bool.not_false, Bool.true_and, Bool.false_and, Bool.and_true, Bool.and_false, Bool.true_or, Bool.false_or, Bool.or_false, Bool.or_true, true_or, or_true, false_or, or_false, true_and, and_true, false_and, and_false, not_true, not_false_iff, if_true, if_false, ite_true, ite_false, gt_iff_lt, ge_iff_le, stepM, hk, hk', hk2, hk0, hco, hcd, e0, hq0, hst5, e1, hpr, coreM, hml, hsl2, hlen, hq1, List.set_set, hD, getRow _ _ hpn, hpn, hpn', hg, hPc, hA, hC', sysM, hev, hdv, hmd, hwd, hcg, hcg1, hcg2, hgr, hG, hGd, hX, hkC, hme, hme2, hgm, gateM, gateR, holdK, wakeK, List.length_set, hrc, hwr, hwi, SB]
  · by_cases hcg : (n / 2) < Gs.length
    rotate_left
    · have hgr : ((((n / 2) : Nat) : Int) ≤ (Gs.length : Int) - 1) = False := eq_false (by omega)
      simp (maxSteps := 10000000) (disch := first | assumption | omega) only [cMachine, params, EG, EL, simprocAttr, FB, ED, EF, FT, hL, hw1, hw2, hw3, hw4, decide_true, decide_false, Bool.not_true, Bool.not_false, Bool.true_and, Bool.false_and, Bool.and_true, Bool.and_false, Bool.true_or, Bool.false_or, Bool.or_false, Bool.or_true, true_or, or_true, false_or, or_false, true_and, and_true, false_and, and_false, not_true, not_false_iff, if_true, if_false, ite_true, ite_false, gt_iff_lt, ge_iff_le, stepM, hk, hk', hk2, hk0, hco, hcd, e0, hq0, hst5, e1, hpr, coreM, hml, hsl2, hlen, hq1, List.set_set, hD, getRow _ _ hpn, hpn, hpn', hg, hPc, hA, hC', sysM, hev, hdv, hmd, hwd, hcg, hgr, faultM, SB]
    have hgr : ((((n / 2) : Nat) : Int) ≤ (Gs.length : Int) - 1) = True := eq_true (by omega)
    have hcg1 : (((n / 2) : Nat) : Int) < (Gs.length : Int) := by omega
    have hcg2 : (0 : Int) ≤ (((n / 2) : Nat) : Int) := by omega
    have hG := getRow cGate Gs hcg
    have hGd : Gs.getD (n / 2) gate0 = Gs[(n / 2)] := by simp [hcg]
    have hGl := hGb _ (List.getElem_mem hcg)
    generalize Gs[(n / 2)] = G at *
    have hX := sem_spec_DelayIn G (by omega) ((n % 2 : Nat) : Int)
    simp only [cGate] at hG hX
    have hkC := sem_spec_l15Copy c' hrl
    simp only [cCore] at hkC
    cases hin : (delayG G ((n % 2 : Nat) : Int)).2.2
    · rw [hin] at hX
      have hme := True.intro
      have hme2 := True.intro
      have hgm := True.intro
      simp (maxSteps := 10000000) (disch := first | assumption | omega) only [cMachine, params, EG, EL, simprocAttr, FB, ED, EF, FT, hL, hw1, hw2, hw3, hw4, decide_true, decide_false, Bool.not_true, Bool.not_false, Bool.true_and, Bool.false_and, Bool.and_true, Bool.and_false, Bool.true_or, Bool.false_or, Bool.or_false, Bool.or_true, true_or, or_true, false_or, or_false, true_and, and_true, false_and, and_false, not_true, not_false_iff, if_true, if_false, ite_true, ite_false, gt_iff_lt, ge_iff_le, stepM, hk, hk', hk2, hk0, hco, hcd, e0, hq0, hst5, e1, hpr, coreM, hml, hsl2, hlen, hq1, List.set_set, hD, getRow _ _ hpn, hpn, hpn', hg, hPc, hA, hC', sysM, hev, hdv, hmd, hwd, hcg, hcg1, hcg2, hgr, hG, hGd, hX, hkC, hme, hme2, hgm, gateM, gateR, holdK, wakeK, List.length_set, hrc, hin, faultM, SB]
    · rw [hin] at hX
      rcases rng1 c'.Process Sv hq1 with ⟨hho, hho0, hho1, hho2⟩ | ⟨hho, hho0, hho1, hho2⟩
      all_goals rcases mem0 m' with ⟨hme, hme2, hgm⟩ | ⟨hme, hme2, hgm⟩
      all_goals rcases pE (0 ≤ (delayG G ((n % 2 : Nat) : Int)).2.1 ∧ (delayG G ((n % 2 : Nat) : Int)).2.1 ≤ (Sv.length : Int) - 1) with hwr | hwr
      all_goals rcases pE ((delayG G ((n % 2 : Nat) : Int)).2.1 ∈ R) with hwi | hwi
      all_goals simp (maxSteps := 10000000) (disch := first | assumption | omega) only [cMachine, params, EG, EL, simprocAttr, FB, ED, EF, FT, hL, hw1, hw2, hw3, hw4, decide_true, decide_false, Bool.not_true, Bool.not_false, Bool.true_and, Bool.false_and, Bool.and_true, Bool.and_false, Bool.true_or, Bool.false_or, Bool.or_false, Bool.or_true, true_or, or_true, false_or, or_false, true_and, and_true, false_and, and_false, not_true, not_false_iff, if_true, if_false, ite_true, ite_false, gt_iff_lt, ge_iff_le, stepM, hk, hk', hk2, hk0, hco, hcd, e0, hq0, hst5, e1, hpr, coreM, hml, hsl2, hlen, hq1, List.set_set, hD, getRow _ _ hpn, hpn, hpn', hg, hPc, hA, hC', sysM, hev, hdv, hmd, hwd, hcg, hcg1, hcg2, hgr, hG, hGd, hX, hkC, hme, hme2, hgm, gateM, gateR, holdK, wakeK, List.length_set, hrc, hin, hwr, hwi, hho, hho0, hho1, hho2, SB]
  · by_cases hcg : (n / 2) < Gs.length
    rotate_left
    · have hgr : ((((n / 2) : Nat) : Int) ≤ (Gs.length : Int) - 1) = False := eq_false (by omega)
      simp (maxSteps := 10000000) (disch := first | assumption | omega) only [cMachine, params, EG, EL, simprocAttr, FB, ED, EF, FT, hL, hw1, hw2, hw3, hw4, decide_true, decide_false, Bool.not_true, Bool.not_false, Bool.true_and, Bool.false_and, Bool.and_true, Bool.and_false, Bool.true_or, Bool.false_or, Bool.or_false, Bool.or_true, true_or, or_true, false_or, or_false, true_and, and_true, false_and, and_false, not_true, not_false_iff, if_true, if_false, ite_true, ite_false, gt_iff_lt, ge_iff_le, stepM, hk, hk', hk2, hk0, hco, hcd, e0, hq0, hst5, e1, hpr, coreM, hml, hsl2, hlen, hq1, List.set_set, hD, getRow _ _ hpn, hpn, hpn', hg, hPc, hA, hC', sysM, hev, hdv, hmd, hwd, hcg, hgr, faultM, SB]
    have hgr : ((((n / 2) : Nat) : Int) ≤ (Gs.length : Int) - 1) = True := eq_true (by omega)
    have hcg1 : (((n / 2) : Nat) : Int) < (Gs.length : Int) := by omega
    have hcg2 : (0 : Int) ≤ (((n / 2) : Nat) : Int) := by omega
    have hG := getRow cGate Gs hcg
    have hGd : Gs.getD (n / 2) gate0 = Gs[(n / 2)] := by simp [hcg]
    have hGl := hGb _ (List.getElem_mem hcg)
    generalize Gs[(n / 2)] = G at *
    have hX := sem_spec_ContinueAt G (by omega) ((n % 2 : Nat) : Int)
    simp only [cGate] at hG hX
    have hkC := True.intro
    rcases mem0 m' with ⟨hme, hme2, hgm⟩ | ⟨hme, hme2, hgm⟩
    all_goals rcases pE (0 ≤ (contG G ((n % 2 : Nat) : Int)).2 ∧ (contG G ((n % 2 : Nat) : Int)).2 ≤ (Sv.length : Int) - 1) with hwr | hwr
    all_goals rcases pE ((contG G ((n % 2 : Nat) : Int)).2 ∈ R) with hwi | hwi
    all_goals simp (maxSteps := 10000000) (disch := first | assumption | omega) only [cMachine, params, EG, EL, simprocAttr, FB, ED, EF, FT, hL, hw1, hw2, hw3, hw4, decide_true, decide_false, Bool.not_true, Bool.not_false, Bool.true_and, Bool.false_and, Bool.and_true, Bool.and_false, Bool.true_or, Bool.false_or, Bool.or_false, Bool.or_true, true_or, or_true, false_or, or_false, true_and, and_true, false_and, and_false, not_true, not_false_iff, if_true, if_false, ite_true, ite_false, gt_iff_lt, ge_iff_le, stepM, hk, hk', hk2, hk0, hco, hcd, e0, hq0, hst5, e1, hpr, coreM, hml, hsl2, hlen, hq1, List.set_set, hD, getRow _ _ hpn, hpn, hpn', hg, hPc, hA, hC', sysM, hev, hdv, hmd, hwd, hcg, hcg1, hcg2, hgr, hG, hGd, hX, hkC, hme, hme2, hgm, gateM, gateR, holdK, wakeK, List.length_set, hrc, hwr, hwi, SB]
  · simp (maxSteps := 10000000) (disch := first | assumption | omega) only [cMachine, params, EG, EL, simprocAttr, FB, ED, EF, FT, hL, hw1, hw2, hw3, hw4, decide_true, decide_false, Bool.not_true, Bool.not_false, Bool.true_and, Bool.false_and, Bool.and_true, Bool.and_false, Bool.true_or, Bool.false_or, Bool.or_false, Bool.or_true, true_or, or_true, false_or, or_false, true_and, and_true, false_and, and_false, not_true, not_false_iff, if_true, if_false, ite_true, ite_false, gt_iff_lt, ge_iff_le, stepM, hk, hk', hk2, hk0, hco, hcd, e0, hq0, hst5, e1, hpr, coreM, hml, hsl2, hlen, hq1, List.set_set, hD, getRow _ _ hpn, hpn, hpn', hg, hPc, hA, hC', sysM, hev, hr0, hr0', getRow _ _ hr0, hr00, tellM, SB]
  · cases I with
    | nil =>
      simp only [List.map_nil] at hL
      have hset : ∀ (L : List DCore) (v : Int), (L.map cCore).set k [.tree 1 ((c'.Regs.set 0 v).map cI), .int .i64 c'.Pc, .int .i64 c'.Process] = (L.set k ⟨c'.Regs.set 0 v, c'.Pc, c'.Process⟩).map cCore := fun L v => (List.map_set (f := cCore) (l := L) (i := k) (a := ⟨c'.Regs.set 0 v, c'.Pc, c'.Process⟩)).symm
      simp (maxSteps := 10000000) (disch := first | assumption | omega) only [cMachine, params, EG, EL, simprocAttr, FB, ED, EF, FT, hL, hw1, hw2, hw3, hw4, decide_true, decide_false, Bool.not_true, Bool.not_false, Bool.true_and, Bool.false_and, Bool.and_true, Bool.and_false, Bool.true_or, Bool.false_or, Bool.or_false, Bool.or_true, true_or, or_true, false_or, or_false, true_and, and_true, false_and, and_false, not_true, not_false_iff, if_true, if_false, ite_true, ite_false, gt_iff_lt, ge_iff_le, stepM, hk, hk', hk2, hk0, hco, hcd, e0, hq0, hst5, e1, hpr, coreM, hml, hsl2, hlen, hq1, List.set_set, hD, getRow _ _ hpn, hpn, hpn', hg, hPc, hA, hC', sysM, hev, hr0, hr0', getRow _ _ hr0, readM, hset, List.headD, List.tail, SB]
    | cons v I =>
      simp only [List.map_cons] at hL
      have hz : (0 : Int) < ((I.length + 1 : Nat) : Int) := by omega
      have hz3 : (1 : Int) ≤ ((I.length + 1 : Nat) : Int) := by omega
      have hcc2 : I.length * 8 ≤ 70368744177664 := by simp only [List.length_cons] at hI; omega
      have hset : ∀ (L : List DCore) (v : Int), (L.map cCore).set k [.tree 1 ((c'.Regs.set 0 v).map cI), .int .i64 c'.Pc, .int .i64 c'.Process] = (L.set k ⟨c'.Regs.set 0 v, c'.Pc, c'.Process⟩).map cCore := fun L v => (List.map_set (f := cCore) (l := L) (i := k) (a := ⟨c'.Regs.set 0 v, c'.Pc, c'.Process⟩)).symm
      simp (maxSteps := 10000000) (disch := first | assumption | omega) only [cMachine, params, EG, EL, simprocAttr, FB, ED, EF, FT, hL, hw1, hw2, hw3, hw4, decide_true, decide_false, Bool.not_true, Bool.not_false, Bool.true_and, Bool.false_and, Bool.and_true, Bool.and_false, Bool.true_or, Bool.false_or, Bool.or_false, Bool.or_true, true_or, or_true, false_or, or_false, true_and, and_true, false_and, and_false, not_true, not_false_iff, if_true, if_false, ite_true, ite_false, gt_iff_lt, ge_iff_le, stepM, hk, hk', hk2, hk0, hco, hcd, e0, hq0, hst5, e1, hpr, coreM, hml, hsl2, hlen, hq1, List.set_set, hD, getRow _ _ hpn, hpn, hpn', hg, hPc, hA, hC', sysM, hev, hr0, hr0', getRow _ _ hr0, readM, hset, List.headD, List.tail, hz, hz3, hcc2, SB]
  · by_cases hpo : c'.Process ≤ (O.length : Int) - 1
    · have hov : c'.Process.toNat < O.length := by omega
      have hov' : c'.Process < (O.length : Int) := by omega
      simp (maxSteps := 10000000) (disch := first | assumption | omega) only [cMachine, params, EG, EL, simprocAttr, FB, ED, EF, FT, hL, hw1, hw2, hw3, hw4, decide_true, decide_false, Bool.not_true, Bool.not_false, Bool.true_and, Bool.false_and, Bool.and_true, Bool.and_false, Bool.true_or, Bool.false_or, Bool.or_false, Bool.or_true, true_or, or_true, false_or, or_false, true_and, and_true, false_and, and_false, not_true, not_false_iff, if_true, if_false, ite_true, ite_false, gt_iff_lt, ge_iff_le, stepM, hk, hk', hk2, hk0, hco, hcd, e0, hq0, hst5, e1, hpr, coreM, hml, hsl2, hlen, hq1, List.set_set, hD, getRow _ _ hpn, hpn, hpn', hg, hPc, hA, hC', sysM, hev, hpo, getRow _ _ hov, hov, hov', SB]
    · have hov : O.set c'.Process.toNat true = O := List.set_eq_of_length_le (by omega)
      have hov' : ¬ c'.Process < (O.length : Int) := by omega
      simp (maxSteps := 10000000) (disch := first | assumption | omega) only [cMachine, params, EG, EL, simprocAttr, FB, ED, EF, FT, hL, hw1, hw2, hw3, hw4, decide_true, decide_false, Bool.not_true, Bool.not_false, Bool.true_and, Bool.false_and, Bool.and_true, Bool.and_false, Bool.true_or, Bool.false_or, Bool.or_false, Bool.or_true, true_or, or_true, false_or, or_false, true_and, and_true, false_and, and_false, not_true, not_false_iff, if_true, if_false, ite_true, ite_false, gt_iff_lt, ge_iff_le, stepM, hk, hk', hk2, hk0, hco, hcd, e0, hq0, hst5, e1, hpr, coreM, hml, hsl2, hlen, hq1, List.set_set, hD, getRow _ _ hpn, hpn, hpn', hg, hPc, hA, hC', sysM, hev, hpo, hov, hov', SB]
theorem seg_set {α : Type} {f : α → List AV} {L : List α} {i : Nat} {a : α} : seg ((L.set i a).map f) 0 L.length = (L.set i a).map f := by
  rw [seg, List.drop_zero]; exact List.take_of_length_le (by simp)
theorem set_all {α : Type} {P : α → Prop} {L : List α} {i : Nat} {a : α} (h : ∀ y ∈ L, P y) (ha : P a) : ∀ y ∈ L.set i a, P y := by
  intro y hy
  rcases List.mem_or_eq_of_mem_set hy with h1 | h1
  · exact h y h1
  · rw [h1]; exact ha
theorem nextG_bd {G : DGate} : (nextG G).Waits.length + (nextG G).Queues.length ≤ G.Waits.length + G.Queues.length := by
  unfold nextG; split <;> simp_all <;> omega
theorem leaveG_bd {G : DGate} : (leaveG G).1.Waits.length + (leaveG G).1.Queues.length ≤ G.Waits.length + G.Queues.length := by
  unfold leaveG; split
  · exact nextG_bd
  · exact Nat.le_refl _
theorem contG_bd {G : DGate} {q : Int} : (contG G q).1.Waits.length + (contG G q).1.Queues.length ≤ G.Waits.length + G.Queues.length := by
  unfold contG; split
  · split
    · exact nextG_bd
    · simp
  · exact Nat.le_refl _
theorem nextG_w {G : DGate} : (nextG G).Waits.length ≤ G.Waits.length := by
  unfold nextG; split <;> simp_all
theorem delayG_bd {G : DGate} {q : Int} : (delayG G q).1.Waits.length + (delayG G q).1.Queues.length ≤ G.Waits.length + G.Queues.length := by
  have := @nextG_w G
  unfold delayG; split
  · simp only [List.length_set]; omega
  · exact Nat.le_refl _
theorem delayG_no {G : DGate} {q : Int} (h : (delayG G q).2.2 = false) : delayG G q = (G, -1, false) := by
  unfold delayG at h ⊢; split
  · rename_i hc; rw [if_pos hc] at h; cases h
  · rfl
theorem arriveG_bd {G : DGate} {q : Int} : (arriveG G q).1.Waits.length + (arriveG G q).1.Queues.length ≤ G.Waits.length + G.Queues.length + 1 := by
  unfold arriveG; split
  · split <;> simp <;> omega
  · simp
theorem wakeK_neg {K : DKernel} {p : Int} (h : ¬ 0 ≤ p) : wakeK K p = K := by
  unfold wakeK; rw [if_neg (fun e => h e.1.1)]
theorem wakeK_m1 {K : DKernel} : wakeK K (-1) = K := wakeK_neg (by decide)
theorem holdK_G {K : DKernel} {c : DCore} : (holdK K c).Gates = K.Gates := by unfold holdK; split <;> rfl
theorem holdK_R {K : DKernel} {c : DCore} : (holdK K c).Ready = K.Ready := by unfold holdK; split <;> rfl
theorem holdK_O {K : DKernel} {c : DCore} : (holdK K c).Over = K.Over := by unfold holdK; split <;> rfl
theorem holdK_S {K : DKernel} {c : DCore} : (holdK K c).Saved.length = K.Saved.length := by unfold holdK; split <;> simp
theorem holdK_all {K : DKernel} {c : DCore} (h : ∀ y ∈ K.Saved, y.Regs.length ≤ 1048576) (hc : c.Regs.length ≤ 1048576) : ∀ y ∈ (holdK K c).Saved, y.Regs.length ≤ 1048576 := by
  unfold holdK; split
  · exact set_all h hc
  · exact h
def IB := And.intro @F_impl_StepMachine.eq_1 (And.intro @cx_impl_StepMachine (And.intro @cl__impl_Machine_tell (And.intro @F__impl_Machine_tell.eq_1 (And.intro @cx__impl_Machine_tell (And.intro @cl__impl_Machine_holdCore (And.intro @F__impl_Machine_holdCore.eq_1 (And.intro @cx__impl_Machine_holdCore (And.intro @cl__impl_Machine_gateCall (And.intro @F__impl_Machine_gateCall.eq_1 (And.intro @cx__impl_Machine_gateCall (And.intro @cl__impl_Machine_call (And.intro @F__impl_Machine_call.eq_1 (And.intro @cx__impl_Machine_call (And.intro @cl_impl_copyMachine (And.intro @cl_impl_within (And.intro @cl_impl_Pick (And.intro @cl_impl_StepCore (And.intro @cl_impl_wordAt (And.intro @cl_impl_Arrive (And.intro @cl_impl_Leave (And.intro @cl_impl_DelayIn (And.intro @cl_impl_ContinueAt (And.intro @cl_impl_Hold (And.intro @cl_impl_Wake (And.intro @cl_impl_CoreNew (And.intro @sem_impl_within (And.intro @sem_impl_CoreNew (And.intro @run_goF (And.intro @Int.toNat_natCast (And.intro @snocE (And.intro @snocR (And.intro @renQ_none (And.intro @renSl_none (And.intro @renPt_none (@roots_gone')))))))))))))))))))))))))))))))))))
set_option maxHeartbeats 8000000 in
theorem sem_impl_StepMachine (x : DMachine) (h : okM x) (i : Int) : S_impl_StepMachine.sem [.agg (cMachine x), .int .i64 i] = some (.tup [.agg (cMachine (stepM x i).1), .bool (stepM x i).2], []) := by
  have hL := sem_impl_copyMachine x h
  obtain ⟨⟨T, Ss, z⟩, M, C, ⟨Gs, R, Sv, O⟩, I, E, st⟩ := x
  obtain ⟨⟨hT, hS, hM, hC, hI, hE⟩, ⟨hGa, hs, hr, ho⟩, hGb, hSa, hCa⟩ := h
  simp only at hT hS hM hC hI hE hGa hs hr ho hGb hSa hCa
  simp only [cMachine] at hL
  have hw1 : IntKind.wrap .i64 ((C.length : Int) - 1) = (C.length : Int) - 1 := wrapI (by omega) (by omega)
  have hev : (E.length + 1) * 24 ≤ 70368744177664 := by omega
  rw [sg_impl_StepMachine, sem_go]
  cases st
  rotate_left
  · simp (maxSteps := 10000000) (disch := first | assumption | omega) only [cMachine, params, EG, EL, simprocAttr, FB, ED, EF, FT, hL, hw1, decide_true, decide_false, Bool.not_true, Bool.not_false, Bool.true_and, Bool.false_and, Bool.and_true, Bool.and_false, Bool.true_or, Bool.false_or, Bool.or_false, Bool.or_true, true_or, or_true, false_or, or_false, true_and, and_true, false_and, and_false, not_true, not_false_iff, if_true, if_false, ite_true, ite_false, gt_iff_lt, ge_iff_le, stepM, IB]
  by_cases hi : 0 ≤ i ∧ i ≤ (C.length : Int) - 1
  rotate_left
  · have e0 : (0 ≤ i ∧ i ≤ (C.length : Int) - 1) = False := eq_false hi
    simp (maxSteps := 10000000) (disch := first | assumption | omega) only [cMachine, params, EG, EL, simprocAttr, FB, ED, EF, FT, hL, hw1, decide_true, decide_false, Bool.not_true, Bool.not_false, Bool.true_and, Bool.false_and, Bool.and_true, Bool.and_false, Bool.true_or, Bool.false_or, Bool.or_false, Bool.or_true, true_or, or_true, false_or, or_false, true_and, and_true, false_and, and_false, not_true, not_false_iff, if_true, if_false, ite_true, ite_false, gt_iff_lt, ge_iff_le, stepM, e0, IB]
  obtain ⟨k, rfl⟩ : ∃ n : Nat, i = (n : Int) := ⟨i.toNat, by omega⟩
  have hk : k < C.length := by omega
  have hk' : (k : Int) < (C.length : Int) := by omega
  have hk2 : (k : Int) ≤ (C.length : Int) - 1 := by omega
  have hk0 : (0 : Int) ≤ (k : Int) := by omega
  have e0 : (0 ≤ (k : Int) ∧ (k : Int) ≤ (C.length : Int) - 1) = True := eq_true hi
  have hcd : C.getD k coreNew = C[k] := by simp [hk]
  have hco := getRow cCore C hk
  have hcl := hCa _ (List.getElem_mem hk)
  generalize C[k] = c at *
  rcases pE (c.Process < 0) with hq0 | hq0
  · simp only [cCore] at hco
    have hP := sem_impl_Pick ⟨Gs, R, Sv, O⟩ hGa hs hr ho (fun y hy => Nat.le_trans (hGb y hy) (by omega)) hSa
    simp only [cKernel, cCore] at hP
    generalize hpk : pickK ⟨Gs, R, Sv, O⟩ = pk at *
    obtain ⟨pk1, pk2, pk3⟩ := pk
    cases pk3
    all_goals simp (maxSteps := 10000000) (disch := first | assumption | omega) only [cMachine, params, EG, EL, simprocAttr, FB, ED, EF, FT, hL, hw1, decide_true, decide_false, Bool.not_true, Bool.not_false, Bool.true_and, Bool.false_and, Bool.and_true, Bool.and_false, Bool.true_or, Bool.false_or, Bool.or_false, Bool.or_true, true_or, or_true, false_or, or_false, true_and, and_true, false_and, and_false, not_true, not_false_iff, if_true, if_false, ite_true, ite_false, gt_iff_lt, ge_iff_le, hk, hk', hk2, hk0, hco, hcd, e0, stepM, hq0, hP, hpk, IB]
  have hst5 := sem_impl_StepCore c T M hcl hT hM
  have est : stepM ⟨⟨T, Ss, z⟩, M, C, ⟨Gs, R, Sv, O⟩, I, E, false⟩ (k : Int) = (coreM ⟨⟨T, Ss, z⟩, M, C, ⟨Gs, R, Sv, O⟩, I, E, false⟩ k c (stepF c T M).1 (stepF c T M).2.1 (stepF c T M).2.2, true) := by
    simp only [stepM, e0, Int.toNat_natCast, hcd, hq0, not_true, or_false, Bool.false_eq_true, if_false]
  rw [est]
  clear est
  have hpr : c.Process = (stepF c T M).1.Process := stepF_proc.symm
  have hsys := @stepF_sys c T M
  have hrl := Nat.le_trans (Nat.le_of_eq (@stepF_rlen c T M)) hcl
  have hml := @stepF_mlen c T M
  simp only [cCore] at hco hst5
  rw [hpr] at hco hq0 hst5
  generalize (stepF c T M).1 = c' at *
  generalize (stepF c T M).2.1 = m' at *
  generalize (stepF c T M).2.2 = code at *
  rcases pE (code = 0) with e | e
  · have e := of_eq_true e
    subst e
    simp (maxSteps := 10000000) (disch := first | assumption | omega) only [cMachine, params, EG, EL, simprocAttr, FB, ED, EF, FT, hL, hw1, decide_true, decide_false, Bool.not_true, Bool.not_false, Bool.true_and, Bool.false_and, Bool.and_true, Bool.and_false, Bool.true_or, Bool.false_or, Bool.or_false, Bool.or_true, true_or, or_true, false_or, or_false, true_and, and_true, false_and, and_false, not_true, not_false_iff, if_true, if_false, ite_true, ite_false, gt_iff_lt, ge_iff_le, hk, hk', hk2, hk0, hco, hcd, e0, hq0, hpr, hst5, coreM, hml, IB]
  rcases pE (code = 10) with e1 | e1
  rotate_left
  · simp (maxSteps := 10000000) (disch := first | assumption | omega) only [cMachine, params, EG, EL, simprocAttr, FB, ED, EF, FT, hL, hw1, decide_true, decide_false, Bool.not_true, Bool.not_false, Bool.true_and, Bool.false_and, Bool.and_true, Bool.and_false, Bool.true_or, Bool.false_or, Bool.or_false, Bool.or_true, true_or, or_true, false_or, or_false, true_and, and_true, false_and, and_false, not_true, not_false_iff, if_true, if_false, ite_true, ite_false, gt_iff_lt, ge_iff_le, hk, hk', hk2, hk0, hco, hcd, e0, hq0, hpr, e, e1, hst5, coreM, hml, hev, faultM, IB]
  have e1 := of_eq_true e1
  subst e1
  obtain ⟨p, n, hPc, hpn, hdk, hop, ha, hb, hC', hn, hm', hrs', h8, hp3⟩ := hsys rfl
  subst hm'
  rw [hPc] at hco hst5
  have hg : T.getD p 0 = T[p] := by simp [hpn]
  have hpn' : (p : Int) < (T.length : Int) := by omega
  have hWd := sem_impl_wordAt T p hT
  rw [hg] at hdk hop ha hb hC'
  unfold wordR at hWd
  rw [if_pos (by omega), Int.toNat_natCast, hg] at hWd
  simp only [decR, hdk, hop, hb, hC', if_true] at hWd
  have e1 : ((10 : Int) = 0) = False := eq_false (by decide)
  have hsl : ∀ d : List AV, ((C.map cCore).set k d).getD k [] = d := fun d => by simp [hk]
  have hsl2 : ((C.set k c').map cCore).getD k [] = [.tree 1 (c'.Regs.map cI), .int .i64 c'.Pc, .int .i64 c'.Process] := by rw [List.map_set]; exact hsl _
  have hlen : (C.set k c').length = C.length := List.length_set
  have hq1 : 0 ≤ c'.Process := by have := of_eq_false hq0; omega
  have hr0 : 0 < c'.Regs.length := by rw [hrs', h8]; omega
  have hr0' : (0 : Int) < (c'.Regs.length : Int) := by omega
  have hr00 : c'.Regs.getD 0 0 = c'.Regs[0] := by simp [hr0]
  have hn0 : ((n : Int) < 0) = False := eq_false (by omega)
  have hdv : Int.tdiv (n : Int) 2 = ((n / 2 : Nat) : Int) := rfl
  have hmd : Int.tmod (n : Int) 2 = ((n % 2 : Nat) : Int) := rfl
  have hwd : IntKind.wrap .i64 ((n / 2 : Nat) : Int) = ((n / 2 : Nat) : Int) := wrapI (by omega) (by omega)
  generalize hA : dA T[p] = a at *
  have : a = 1 ∨ a = 2 ∨ a = 3 ∨ a = 4 ∨ a = 5 ∨ a = 6 ∨ a = 7 := by omega
  rcases this with rfl | rfl | rfl | rfl | rfl | rfl | rfl
  · by_cases hcg : n < Gs.length
    rotate_left
    · have hgr : ((Gs.length : Int) ≤ ((n : Nat) : Int)) = True := eq_true (by omega)
      simp (maxSteps := 10000000) (disch := first | assumption | omega) only [cMachine, params, EG, EL, simprocAttr, FB, ED, EF, FT, hL, hw1, decide_true, decide_false, Bool.not_true, Bool.not_false, Bool.true_and, Bool.false_and, Bool.and_true, Bool.and_false, Bool.true_or, Bool.false_or, Bool.or_false, Bool.or_true, true_or, or_true, false_or, or_false, true_and, and_true, false_and, and_false, not_true, not_false_iff, if_true, if_false, ite_true, ite_false, gt_iff_lt, ge_iff_le, hk, hk', hk2, hk0, hco, hcd, e0, hq0, hst5, e1, hpr, coreM, hml, hsl2, hlen, hq1, List.set_set, hWd, hpn, hpn', hg, hPc, hA, hC', sysM, hev, hdv, hmd, hwd, hn0, hcg, hgr, faultM, IB]
    have hgr : ((Gs.length : Int) ≤ ((n : Nat) : Int)) = False := eq_false (by omega)
    have hcg1 : ((n : Nat) : Int) < (Gs.length : Int) := by omega
    have hcg2 : (0 : Int) ≤ ((n : Nat) : Int) := by omega
    have hG := getRow cGate Gs hcg
    have hGd : Gs.getD n gate0 = Gs[n] := by simp [hcg]
    have hGl := hGb _ (List.getElem_mem hcg)
    generalize Gs[n] = G at *
    have hX := sem_impl_Arrive G (by omega) c'.Process
    have hGs2 : ∀ y ∈ Gs.set n (arriveG G c'.Process).1, y.Waits.length + y.Queues.length ≤ 1048576 := set_all (fun y hy => by have := hGb y hy; omega) (Nat.le_trans arriveG_bd (by omega))
    have hGs3 : (Gs.set n (arriveG G c'.Process).1).length ≤ 1048576 := by rw [List.length_set]; exact hGa
    simp only [cGate] at hG hX
    have hWk := True.intro
    cases hin : (arriveG G c'.Process).2
    · rw [hin] at hX
      have hH := sem_impl_Hold ⟨Gs.set n (arriveG G c'.Process).1, R, Sv, O⟩ hGs3 hs hr ho hGs2 hSa c' hrl
      simp only [cKernel, cCore] at hH
      rcases mem0 m' with ⟨hme, hme2, hgm⟩ | ⟨hme, hme2, hgm⟩
      all_goals simp (maxSteps := 10000000) (disch := first | assumption | omega) only [cMachine, params, EG, EL, simprocAttr, FB, ED, EF, FT, hL, hw1, decide_true, decide_false, Bool.not_true, Bool.not_false, Bool.true_and, Bool.false_and, Bool.and_true, Bool.and_false, Bool.true_or, Bool.false_or, Bool.or_false, Bool.or_true, true_or, or_true, false_or, or_false, true_and, and_true, false_and, and_false, not_true, not_false_iff, if_true, if_false, ite_true, ite_false, gt_iff_lt, ge_iff_le, hk, hk', hk2, hk0, hco, hcd, e0, hq0, hst5, e1, hpr, coreM, hml, hsl2, hlen, hq1, List.set_set, hWd, hpn, hpn', hg, hPc, hA, hC', sysM, hev, hdv, hmd, hwd, hn0, hcg, hcg1, hcg2, hgr, hG, hGd, hX, hme, hme2, hgm, gateM, gateR, hH, hWk, seg_set, List.length_set, List.length_map, hin, wakeK_m1, IB]
    · rw [hin] at hX
      have hH := True.intro
      rcases mem0 m' with ⟨hme, hme2, hgm⟩ | ⟨hme, hme2, hgm⟩
      all_goals simp (maxSteps := 10000000) (disch := first | assumption | omega) only [cMachine, params, EG, EL, simprocAttr, FB, ED, EF, FT, hL, hw1, decide_true, decide_false, Bool.not_true, Bool.not_false, Bool.true_and, Bool.false_and, Bool.and_true, Bool.and_false, Bool.true_or, Bool.false_or, Bool.or_false, Bool.or_true, true_or, or_true, false_or, or_false, true_and, and_true, false_and, and_false, not_true, not_false_iff, if_true, if_false, ite_true, ite_false, gt_iff_lt, ge_iff_le, hk, hk', hk2, hk0, hco, hcd, e0, hq0, hst5, e1, hpr, coreM, hml, hsl2, hlen, hq1, List.set_set, hWd, hpn, hpn', hg, hPc, hA, hC', sysM, hev, hdv, hmd, hwd, hn0, hcg, hcg1, hcg2, hgr, hG, hGd, hX, hme, hme2, hgm, gateM, gateR, hH, hWk, seg_set, List.length_set, List.length_map, hin, wakeK_m1, IB]
  · by_cases hcg : n < Gs.length
    rotate_left
    · have hgr : ((Gs.length : Int) ≤ ((n : Nat) : Int)) = True := eq_true (by omega)
      simp (maxSteps := 10000000) (disch := first | assumption | omega) only [cMachine, params, EG, EL, simprocAttr, FB, ED, EF, FT, hL, hw1, decide_true, decide_false, Bool.not_true, Bool.not_false, Bool.true_and, Bool.false_and, Bool.and_true, Bool.and_false, Bool.true_or, Bool.false_or, Bool.or_false, Bool.or_true, true_or, or_true, false_or, or_false, true_and, and_true, false_and, and_false, not_true, not_false_iff, if_true, if_false, ite_true, ite_false, gt_iff_lt, ge_iff_le, hk, hk', hk2, hk0, hco, hcd, e0, hq0, hst5, e1, hpr, coreM, hml, hsl2, hlen, hq1, List.set_set, hWd, hpn, hpn', hg, hPc, hA, hC', sysM, hev, hdv, hmd, hwd, hn0, hcg, hgr, faultM, IB]
    have hgr : ((Gs.length : Int) ≤ ((n : Nat) : Int)) = False := eq_false (by omega)
    have hcg1 : ((n : Nat) : Int) < (Gs.length : Int) := by omega
    have hcg2 : (0 : Int) ≤ ((n : Nat) : Int) := by omega
    have hG := getRow cGate Gs hcg
    have hGd : Gs.getD n gate0 = Gs[n] := by simp [hcg]
    have hGl := hGb _ (List.getElem_mem hcg)
    generalize Gs[n] = G at *
    have hX := sem_impl_Leave G (by omega)
    have hGs2 : ∀ y ∈ Gs.set n (leaveG G).1, y.Waits.length + y.Queues.length ≤ 1048576 := set_all (fun y hy => by have := hGb y hy; omega) (Nat.le_trans leaveG_bd (by omega))
    have hGs3 : (Gs.set n (leaveG G).1).length ≤ 1048576 := by rw [List.length_set]; exact hGa
    simp only [cGate] at hG hX
    have hH := True.intro
    rcases pE (0 ≤ (leaveG G).2) with hwr | hwr
    · have hWk := sem_impl_Wake ⟨Gs.set n (leaveG G).1, R, Sv, O⟩ hGs3 hs hr ho hGs2 hSa (leaveG G).2
      simp only [cKernel] at hWk
      rcases mem0 m' with ⟨hme, hme2, hgm⟩ | ⟨hme, hme2, hgm⟩
      all_goals simp (maxSteps := 10000000) (disch := first | assumption | omega) only [cMachine, params, EG, EL, simprocAttr, FB, ED, EF, FT, hL, hw1, decide_true, decide_false, Bool.not_true, Bool.not_false, Bool.true_and, Bool.false_and, Bool.and_true, Bool.and_false, Bool.true_or, Bool.false_or, Bool.or_false, Bool.or_true, true_or, or_true, false_or, or_false, true_and, and_true, false_and, and_false, not_true, not_false_iff, if_true, if_false, ite_true, ite_false, gt_iff_lt, ge_iff_le, hk, hk', hk2, hk0, hco, hcd, e0, hq0, hst5, e1, hpr, coreM, hml, hsl2, hlen, hq1, List.set_set, hWd, hpn, hpn', hg, hPc, hA, hC', sysM, hev, hdv, hmd, hwd, hn0, hcg, hcg1, hcg2, hgr, hG, hGd, hX, hme, hme2, hgm, gateM, gateR, hH, hWk, seg_set, List.length_set, List.length_map, hwr, IB]
    · have hWk := @wakeK_neg ⟨Gs.set n (leaveG G).1, R, Sv, O⟩ (leaveG G).2 (of_eq_false hwr)
      rcases mem0 m' with ⟨hme, hme2, hgm⟩ | ⟨hme, hme2, hgm⟩
      all_goals simp (maxSteps := 10000000) (disch := first | assumption | omega) only [cMachine, params, EG, EL, simprocAttr, FB, ED, EF, FT, hL, hw1, decide_true, decide_false, Bool.not_true, Bool.not_false, Bool.true_and, Bool.false_and, Bool.and_true, Bool.and_false, Bool.true_or, Bool.false_or, Bool.or_false, Bool.or_true, true_or, or_true, false_or, or_false, true_and, and_true, false_and, and_false, not_true, not_false_iff, if_true, if_false, ite_true, ite_false, gt_iff_lt, ge_iff_le, hk, hk', hk2, hk0, hco, hcd, e0, hq0, hst5, e1, hpr, coreM, hml, hsl2, hlen, hq1, List.set_set, hWd, hpn, hpn', hg, hPc, hA, hC', sysM, hev, hdv, hmd, hwd, hn0, hcg, hcg1, hcg2, hgr, hG, hGd, hX, hme, hme2, hgm, gateM, gateR, hH, hWk, seg_set, List.length_set, List.length_map, hwr, IB]
  · by_cases hcg : (n / 2) < Gs.length
    rotate_left
    · have hgr : ((Gs.length : Int) ≤ (((n / 2) : Nat) : Int)) = True := eq_true (by omega)
      simp (maxSteps := 10000000) (disch := first | assumption | omega) only [cMachine, params, EG, EL, simprocAttr, FB, ED, EF, FT, hL, hw1, decide_true, decide_false, Bool.not_true, Bool.not_false, Bool.true_and, Bool.false_and, Bool.and_true, Bool.and_false, Bool.true_or, Bool.false_or, Bool.or_false, Bool.or_true, true_or, or_true, false_or, or_false, true_and, and_true, false_and, and_false, not_true, not_false_iff, if_true, if_false, ite_true, ite_false, gt_iff_lt, ge_iff_le, hk, hk', hk2, hk0, hco, hcd, e0, hq0, hst5, e1, hpr, coreM, hml, hsl2, hlen, hq1, List.set_set, hWd, hpn, hpn', hg, hPc, hA, hC', sysM, hev, hdv, hmd, hwd, hn0, hcg, hgr, faultM, IB]
    have hgr : ((Gs.length : Int) ≤ (((n / 2) : Nat) : Int)) = False := eq_false (by omega)
    have hcg1 : (((n / 2) : Nat) : Int) < (Gs.length : Int) := by omega
    have hcg2 : (0 : Int) ≤ (((n / 2) : Nat) : Int) := by omega
    have hG := getRow cGate Gs hcg
    have hGd : Gs.getD (n / 2) gate0 = Gs[(n / 2)] := by simp [hcg]
    have hGl := hGb _ (List.getElem_mem hcg)
    generalize Gs[(n / 2)] = G at *
    have hX := sem_impl_DelayIn G (by omega) ((n % 2 : Nat) : Int)
    have hGs2 : ∀ y ∈ Gs.set (n / 2) (delayG G ((n % 2 : Nat) : Int)).1, y.Waits.length + y.Queues.length ≤ 1048576 := set_all (fun y hy => by have := hGb y hy; omega) (Nat.le_trans delayG_bd (by omega))
    have hGs3 : (Gs.set (n / 2) (delayG G ((n % 2 : Nat) : Int)).1).length ≤ 1048576 := by rw [List.length_set]; exact hGa
    simp only [cGate] at hG hX
    cases hin : (delayG G ((n % 2 : Nat) : Int)).2.2
    · rw [hin] at hX
      have hH := True.intro
      have hWk := True.intro
      have hme := True.intro
      have hme2 := True.intro
      have hgm := True.intro
      have hds := delayG_no hin
      rw [hds] at hX
      have hss : (Gs.map cGate).set (n / 2) (cGate G) = Gs.map cGate := set_same hcg hG
      simp only [cGate] at hss
      simp (maxSteps := 10000000) (disch := first | assumption | omega) only [cMachine, params, EG, EL, simprocAttr, FB, ED, EF, FT, hL, hw1, decide_true, decide_false, Bool.not_true, Bool.not_false, Bool.true_and, Bool.false_and, Bool.and_true, Bool.and_false, Bool.true_or, Bool.false_or, Bool.or_false, Bool.or_true, true_or, or_true, false_or, or_false, true_and, and_true, false_and, and_false, not_true, not_false_iff, if_true, if_false, ite_true, ite_false, gt_iff_lt, ge_iff_le, hk, hk', hk2, hk0, hco, hcd, e0, hq0, hst5, e1, hpr, coreM, hml, hsl2, hlen, hq1, List.set_set, hWd, hpn, hpn', hg, hPc, hA, hC', sysM, hev, hdv, hmd, hwd, hn0, hcg, hcg1, hcg2, hgr, hG, hGd, hX, hme, hme2, hgm, gateM, gateR, hH, hWk, seg_set, List.length_set, List.length_map, hin, hss, faultM, IB]
    · rw [hin] at hX
      have hH := sem_impl_Hold ⟨Gs.set (n / 2) (delayG G ((n % 2 : Nat) : Int)).1, R, Sv, O⟩ hGs3 hs hr ho hGs2 hSa c' hrl
      simp only [cKernel, cCore] at hH
      rcases pE (0 ≤ (delayG G ((n % 2 : Nat) : Int)).2.1) with hwr | hwr
      · have hWk := sem_impl_Wake (holdK ⟨Gs.set (n / 2) (delayG G ((n % 2 : Nat) : Int)).1, R, Sv, O⟩ c') (by rw [holdK_G]; exact hGs3) (by rw [holdK_S]; exact hs) (by rw [holdK_R]; exact hr) (by rw [holdK_O]; exact ho) (by rw [holdK_G]; exact hGs2) (holdK_all hSa hrl) (delayG G ((n % 2 : Nat) : Int)).2.1
        simp only [cKernel] at hWk
        rcases mem0 m' with ⟨hme, hme2, hgm⟩ | ⟨hme, hme2, hgm⟩
        all_goals simp (maxSteps := 10000000) (disch := first | assumption | omega) only [cMachine, params, EG, EL, simprocAttr, FB, ED, EF, FT, hL, hw1, decide_true, decide_false, Bool.not_true, Bool.not_false, Bool.true_and, Bool.false_and, Bool.and_true, Bool.and_false, Bool.true_or, Bool.false_or, Bool.or_false, Bool.or_true, true_or, or_true, false_or, or_false, true_and, and_true, false_and, and_false, not_true, not_false_iff, if_true, if_false, ite_true, ite_false, gt_iff_lt, ge_iff_le, hk, hk', hk2, hk0, hco, hcd, e0, hq0, hst5, e1, hpr, coreM, hml, hsl2, hlen, hq1, List.set_set, hWd, hpn, hpn', hg, hPc, hA, hC', sysM, hev, hdv, hmd, hwd, hn0, hcg, hcg1, hcg2, hgr, hG, hGd, hX, hme, hme2, hgm, gateM, gateR, hH, hWk, seg_set, List.length_set, List.length_map, hin, hwr, IB]
      · have hWk := @wakeK_neg (holdK ⟨Gs.set (n / 2) (delayG G ((n % 2 : Nat) : Int)).1, R, Sv, O⟩ c') (delayG G ((n % 2 : Nat) : Int)).2.1 (of_eq_false hwr)
        rcases mem0 m' with ⟨hme, hme2, hgm⟩ | ⟨hme, hme2, hgm⟩
        all_goals simp (maxSteps := 10000000) (disch := first | assumption | omega) only [cMachine, params, EG, EL, simprocAttr, FB, ED, EF, FT, hL, hw1, decide_true, decide_false, Bool.not_true, Bool.not_false, Bool.true_and, Bool.false_and, Bool.and_true, Bool.and_false, Bool.true_or, Bool.false_or, Bool.or_false, Bool.or_true, true_or, or_true, false_or, or_false, true_and, and_true, false_and, and_false, not_true, not_false_iff, if_true, if_false, ite_true, ite_false, gt_iff_lt, ge_iff_le, hk, hk', hk2, hk0, hco, hcd, e0, hq0, hst5, e1, hpr, coreM, hml, hsl2, hlen, hq1, List.set_set, hWd, hpn, hpn', hg, hPc, hA, hC', sysM, hev, hdv, hmd, hwd, hn0, hcg, hcg1, hcg2, hgr, hG, hGd, hX, hme, hme2, hgm, gateM, gateR, hH, hWk, seg_set, List.length_set, List.length_map, hin, hwr, IB]
  · by_cases hcg : (n / 2) < Gs.length
    rotate_left
    · have hgr : ((Gs.length : Int) ≤ (((n / 2) : Nat) : Int)) = True := eq_true (by omega)
      simp (maxSteps := 10000000) (disch := first | assumption | omega) only [cMachine, params, EG, EL, simprocAttr, FB, ED, EF, FT, hL, hw1, decide_true, decide_false, Bool.not_true, Bool.not_false, Bool.true_and, Bool.false_and, Bool.and_true, Bool.and_false, Bool.true_or, Bool.false_or, Bool.or_false, Bool.or_true, true_or, or_true, false_or, or_false, true_and, and_true, false_and, and_false, not_true, not_false_iff, if_true, if_false, ite_true, ite_false, gt_iff_lt, ge_iff_le, hk, hk', hk2, hk0, hco, hcd, e0, hq0, hst5, e1, hpr, coreM, hml, hsl2, hlen, hq1, List.set_set, hWd, hpn, hpn', hg, hPc, hA, hC', sysM, hev, hdv, hmd, hwd, hn0, hcg, hgr, faultM, IB]
    have hgr : ((Gs.length : Int) ≤ (((n / 2) : Nat) : Int)) = False := eq_false (by omega)
    have hcg1 : (((n / 2) : Nat) : Int) < (Gs.length : Int) := by omega
    have hcg2 : (0 : Int) ≤ (((n / 2) : Nat) : Int) := by omega
    have hG := getRow cGate Gs hcg
    have hGd : Gs.getD (n / 2) gate0 = Gs[(n / 2)] := by simp [hcg]
    have hGl := hGb _ (List.getElem_mem hcg)
    generalize Gs[(n / 2)] = G at *
    have hX := sem_impl_ContinueAt G (by omega) ((n % 2 : Nat) : Int)
    have hGs2 : ∀ y ∈ Gs.set (n / 2) (contG G ((n % 2 : Nat) : Int)).1, y.Waits.length + y.Queues.length ≤ 1048576 := set_all (fun y hy => by have := hGb y hy; omega) (Nat.le_trans contG_bd (by omega))
    have hGs3 : (Gs.set (n / 2) (contG G ((n % 2 : Nat) : Int)).1).length ≤ 1048576 := by rw [List.length_set]; exact hGa
    simp only [cGate] at hG hX
    have hH := True.intro
    rcases pE (0 ≤ (contG G ((n % 2 : Nat) : Int)).2) with hwr | hwr
    · have hWk := sem_impl_Wake ⟨Gs.set (n / 2) (contG G ((n % 2 : Nat) : Int)).1, R, Sv, O⟩ hGs3 hs hr ho hGs2 hSa (contG G ((n % 2 : Nat) : Int)).2
      simp only [cKernel] at hWk
      rcases mem0 m' with ⟨hme, hme2, hgm⟩ | ⟨hme, hme2, hgm⟩
      all_goals simp (maxSteps := 10000000) (disch := first | assumption | omega) only [cMachine, params, EG, EL, simprocAttr, FB, ED, EF, FT, hL, hw1, decide_true, decide_false, Bool.not_true, Bool.not_false, Bool.true_and, Bool.false_and, Bool.and_true, Bool.and_false, Bool.true_or, Bool.false_or, Bool.or_false, Bool.or_true, true_or, or_true, false_or, or_false, true_and, and_true, false_and, and_false, not_true, not_false_iff, if_true, if_false, ite_true, ite_false, gt_iff_lt, ge_iff_le, hk, hk', hk2, hk0, hco, hcd, e0, hq0, hst5, e1, hpr, coreM, hml, hsl2, hlen, hq1, List.set_set, hWd, hpn, hpn', hg, hPc, hA, hC', sysM, hev, hdv, hmd, hwd, hn0, hcg, hcg1, hcg2, hgr, hG, hGd, hX, hme, hme2, hgm, gateM, gateR, hH, hWk, seg_set, List.length_set, List.length_map, hwr, IB]
    · have hWk := @wakeK_neg ⟨Gs.set (n / 2) (contG G ((n % 2 : Nat) : Int)).1, R, Sv, O⟩ (contG G ((n % 2 : Nat) : Int)).2 (of_eq_false hwr)
      rcases mem0 m' with ⟨hme, hme2, hgm⟩ | ⟨hme, hme2, hgm⟩
      all_goals simp (maxSteps := 10000000) (disch := first | assumption | omega) only [cMachine, params, EG, EL, simprocAttr, FB, ED, EF, FT, hL, hw1, decide_true, decide_false, Bool.not_true, Bool.not_false, Bool.true_and, Bool.false_and, Bool.and_true, Bool.and_false, Bool.true_or, Bool.false_or, Bool.or_false, Bool.or_true, true_or, or_true, false_or, or_false, true_and, and_true, false_and, and_false, not_true, not_false_iff, if_true, if_false, ite_true, ite_false, gt_iff_lt, ge_iff_le, hk, hk', hk2, hk0, hco, hcd, e0, hq0, hst5, e1, hpr, coreM, hml, hsl2, hlen, hq1, List.set_set, hWd, hpn, hpn', hg, hPc, hA, hC', sysM, hev, hdv, hmd, hwd, hn0, hcg, hcg1, hcg2, hgr, hG, hGd, hX, hme, hme2, hgm, gateM, gateR, hH, hWk, seg_set, List.length_set, List.length_map, hwr, IB]
  · simp (maxSteps := 10000000) (disch := first | assumption | omega) only [cMachine, params, EG, EL, simprocAttr, FB, ED, EF, FT, hL, hw1, decide_true, decide_false, Bool.not_true, Bool.not_false, Bool.true_and, Bool.false_and, Bool.and_true, Bool.and_false, Bool.true_or, Bool.false_or, Bool.or_false, Bool.or_true, true_or, or_true, false_or, or_false, true_and, and_true, false_and, and_false, not_true, not_false_iff, if_true, if_false, ite_true, ite_false, gt_iff_lt, ge_iff_le, hk, hk', hk2, hk0, hco, hcd, e0, hq0, hst5, e1, hpr, coreM, hml, hsl2, hlen, hq1, List.set_set, hWd, hpn, hpn', hg, hPc, hA, hC', sysM, hev, hr0, hr0', getRow _ _ hr0, hr00, tellM, IB]
  · cases I with
    | nil =>
      simp only [List.map_nil] at hL
      have hset : ∀ (L : List DCore) (v : Int), (L.map cCore).set k [.tree 1 ((c'.Regs.set 0 v).map cI), .int .i64 c'.Pc, .int .i64 c'.Process] = (L.set k ⟨c'.Regs.set 0 v, c'.Pc, c'.Process⟩).map cCore := fun L v => (List.map_set (f := cCore) (l := L) (i := k) (a := ⟨c'.Regs.set 0 v, c'.Pc, c'.Process⟩)).symm
      simp (maxSteps := 10000000) (disch := first | assumption | omega) only [cMachine, params, EG, EL, simprocAttr, FB, ED, EF, FT, hL, hw1, decide_true, decide_false, Bool.not_true, Bool.not_false, Bool.true_and, Bool.false_and, Bool.and_true, Bool.and_false, Bool.true_or, Bool.false_or, Bool.or_false, Bool.or_true, true_or, or_true, false_or, or_false, true_and, and_true, false_and, and_false, not_true, not_false_iff, if_true, if_false, ite_true, ite_false, gt_iff_lt, ge_iff_le, hk, hk', hk2, hk0, hco, hcd, e0, hq0, hst5, e1, hpr, coreM, hml, hsl2, hlen, hq1, List.set_set, hWd, hpn, hpn', hg, hPc, hA, hC', sysM, hev, hr0, hr0', getRow _ _ hr0, readM, hset, List.headD, List.tail, IB]
    | cons v I =>
      simp only [List.map_cons] at hL
      have hz : (0 : Int) < ((I.length + 1 : Nat) : Int) := by omega
      have hz3 : (1 : Int) ≤ ((I.length + 1 : Nat) : Int) := by omega
      have hz4 : (1 + I.length ≤ I.length + 1) = True := eq_true (by omega)
      have hset : ∀ (L : List DCore) (v : Int), (L.map cCore).set k [.tree 1 ((c'.Regs.set 0 v).map cI), .int .i64 c'.Pc, .int .i64 c'.Process] = (L.set k ⟨c'.Regs.set 0 v, c'.Pc, c'.Process⟩).map cCore := fun L v => (List.map_set (f := cCore) (l := L) (i := k) (a := ⟨c'.Regs.set 0 v, c'.Pc, c'.Process⟩)).symm
      simp (maxSteps := 10000000) (disch := first | assumption | omega) only [cMachine, params, EG, EL, simprocAttr, FB, ED, EF, FT, hL, hw1, decide_true, decide_false, Bool.not_true, Bool.not_false, Bool.true_and, Bool.false_and, Bool.and_true, Bool.and_false, Bool.true_or, Bool.false_or, Bool.or_false, Bool.or_true, true_or, or_true, false_or, or_false, true_and, and_true, false_and, and_false, not_true, not_false_iff, if_true, if_false, ite_true, ite_false, gt_iff_lt, ge_iff_le, hk, hk', hk2, hk0, hco, hcd, e0, hq0, hst5, e1, hpr, coreM, hml, hsl2, hlen, hq1, List.set_set, hWd, hpn, hpn', hg, hPc, hA, hC', sysM, hev, hr0, hr0', getRow _ _ hr0, readM, hset, List.headD, List.tail, hz, hz3, hz4, IB]
  · by_cases hpo : c'.Process ≤ (O.length : Int) - 1
    · have hov : c'.Process.toNat < O.length := by omega
      have hov' : c'.Process < (O.length : Int) := by omega
      simp (maxSteps := 10000000) (disch := first | assumption | omega) only [cMachine, params, EG, EL, simprocAttr, FB, ED, EF, FT, hL, hw1, decide_true, decide_false, Bool.not_true, Bool.not_false, Bool.true_and, Bool.false_and, Bool.and_true, Bool.and_false, Bool.true_or, Bool.false_or, Bool.or_false, Bool.or_true, true_or, or_true, false_or, or_false, true_and, and_true, false_and, and_false, not_true, not_false_iff, if_true, if_false, ite_true, ite_false, gt_iff_lt, ge_iff_le, hk, hk', hk2, hk0, hco, hcd, e0, hq0, hst5, e1, hpr, coreM, hml, hsl2, hlen, hq1, List.set_set, hWd, hpn, hpn', hg, hPc, hA, hC', sysM, hev, hpo, getRow _ _ hov, hov, hov', IB]
    · have hov : O.set c'.Process.toNat true = O := List.set_eq_of_length_le (by omega)
      have hov' : ¬ c'.Process < (O.length : Int) := by omega
      simp (maxSteps := 10000000) (disch := first | assumption | omega) only [cMachine, params, EG, EL, simprocAttr, FB, ED, EF, FT, hL, hw1, decide_true, decide_false, Bool.not_true, Bool.not_false, Bool.true_and, Bool.false_and, Bool.and_true, Bool.and_false, Bool.true_or, Bool.false_or, Bool.or_false, Bool.or_true, true_or, or_true, false_or, or_false, true_and, and_true, false_and, and_false, not_true, not_false_iff, if_true, if_false, ite_true, ite_false, gt_iff_lt, ge_iff_le, hk, hk', hk2, hk0, hco, hcd, e0, hq0, hst5, e1, hpr, coreM, hml, hsl2, hlen, hq1, List.set_set, hWd, hpn, hpn', hg, hPc, hA, hC', sysM, hev, hpo, hov, hov', IB]
theorem holdK_wt {K : DKernel} {c : DCore} : wtKernel (holdK K c) ≤ wtKernel K + wtCore c := by
  unfold holdK; split
  · have := @tot_set_le _ wtCore c K.Saved c.Process.toNat
    simp only [wtKernel, List.length_set]; omega
  · omega
theorem wakeK_wt {K : DKernel} {p : Int} : wtKernel (wakeK K p) ≤ wtKernel K + 1 := by
  unfold wakeK; split
  · simp only [wtKernel, List.length_append, List.length_singleton]; omega
  · omega
theorem gatesK_wt {K : DKernel} {g : Nat} {G : DGate} : wtKernel ⟨K.Gates.set g G, K.Ready, K.Saved, K.Over⟩ ≤ wtKernel K + wtGate G := by
  have := @tot_set_le _ wtGate G K.Gates g
  simp only [wtKernel, List.length_set]; omega
theorem getD_le {α : Type} {f : α → Nat} {L : List α} {B n : Nat} {d : α} (h : ∀ y ∈ L, f y ≤ B) (hd : f d ≤ B) : f (L.getD n d) ≤ B := by
  rw [List.getD_eq_getElem?_getD]
  cases hn : L[n]? with
  | none => exact hd
  | some y => exact h y (List.mem_of_getElem? hn)
theorem gateR_bd {G : DGate} {p a b : Int} : wtGate (gateR G p a b).1 ≤ wtGate G + 1 := by
  unfold gateR
  have a1 := @arriveG_bd G p
  have a2 := @leaveG_bd G
  have a3 := @contG_bd G b
  have a4 := @delayG_bd G b
  simp only [wtGate]
  split
  · exact a1
  · split
    · exact Nat.le_succ_of_le a2
    · split
      · exact Nat.le_succ_of_le a3
      · exact Nat.le_succ_of_le a4
theorem coreNew_wt : wtCore coreNew = 8 := rfl
theorem faultM_wt {y : DMachine} {p f : Int} : wtMachine (faultM y p f) = wtMachine y + 1 := by
  simp only [wtMachine, faultM, List.length_append, List.length_singleton]; omega
theorem gateM_wt {y : DMachine} {k : Nat} {c : DCore} {a : Int} {g : Nat} {r : DGate × Int × Bool × Bool} : wtMachine (gateM y k c a g r) ≤ wtMachine y + wtGate r.1 + wtCore c + 20 := by
  unfold gateM; split
  · have h1 := @gatesK_wt y.Kernel g r.1
    have h2 : ∀ b : Bool, wtKernel (if b = true then holdK ⟨y.Kernel.Gates.set g r.1, y.Kernel.Ready, y.Kernel.Saved, y.Kernel.Over⟩ c else ⟨y.Kernel.Gates.set g r.1, y.Kernel.Ready, y.Kernel.Saved, y.Kernel.Over⟩) ≤ wtKernel y.Kernel + wtGate r.1 + wtCore c := by
      intro b
      have := @holdK_wt ⟨y.Kernel.Gates.set g r.1, y.Kernel.Ready, y.Kernel.Saved, y.Kernel.Over⟩ c
      split <;> omega
    have h3 := h2 r.2.2.1
    have h4 : ∀ b : Bool, (if b = true then y.Cores.set k coreNew else y.Cores).length + tot wtCore (if b = true then y.Cores.set k coreNew else y.Cores) ≤ y.Cores.length + tot wtCore y.Cores + 8 := by
      intro b
      have := @tot_set_le _ wtCore coreNew y.Cores k
      rw [coreNew_wt] at this
      split
      · rw [List.length_set]; omega
      · omega
    have h5 := h4 r.2.2.1
    have h6 := @wakeK_wt (if r.2.2.1 = true then holdK ⟨y.Kernel.Gates.set g r.1, y.Kernel.Ready, y.Kernel.Saved, y.Kernel.Over⟩ c else ⟨y.Kernel.Gates.set g r.1, y.Kernel.Ready, y.Kernel.Saved, y.Kernel.Over⟩) r.2.1
    simp only [wtMachine, List.length_set, List.length_append, List.length_singleton]
    omega
  · rw [faultM_wt]; omega
theorem sysM_wt {y : DMachine} {k : Nat} {c : DCore} {a : Int} {n : Nat} (hG : ∀ G ∈ y.Kernel.Gates, wtGate G ≤ 1048576) : wtMachine (sysM y k c a n) ≤ wtMachine y + 1048577 + wtCore c + 20 := by
  have hg : ∀ m, wtGate (y.Kernel.Gates.getD m gate0) ≤ 1048576 := fun m => getD_le hG (by decide)
  have hb : ∀ m p (b : Int), wtGate (gateR (y.Kernel.Gates.getD m gate0) p a b).1 ≤ 1048577 := fun m p b => Nat.le_trans gateR_bd (Nat.succ_le_succ (hg m))
  have hm : ∀ m p (b : Int), wtMachine (gateM y k c a m (gateR (y.Kernel.Gates.getD m gate0) p a b)) ≤ wtMachine y + 1048577 + wtCore c + 20 := fun m p b => by
    have h1 := @gateM_wt y k c a m (gateR (y.Kernel.Gates.getD m gate0) p a b)
    have h2 := hb m p b
    omega
  unfold sysM
  split
  · split
    · exact hm _ _ _
    · rw [faultM_wt]; omega
  · split
    · split
      · exact hm _ _ _
      · rw [faultM_wt]; omega
    · split
      · simp only [wtMachine, tellM, List.length_append, List.length_singleton]; omega
      · split
        · have h1 := @tot_set_le _ wtCore ⟨c.Regs.set 0 (y.Input.headD 0), c.Pc, c.Process⟩ y.Cores k
          have h2 : wtCore ⟨c.Regs.set 0 (y.Input.headD 0), c.Pc, c.Process⟩ = wtCore c := by simp [wtCore]
          have h3 : y.Input.tail.length ≤ y.Input.length := by simp
          rw [h2] at h1
          simp only [wtMachine, readM, List.length_append, List.length_singleton, List.length_set]
          omega
        · have h1 := @tot_set_le _ wtCore coreNew y.Cores k
          rw [coreNew_wt] at h1
          simp only [wtMachine, wtKernel, List.length_append, List.length_singleton, List.length_set]
          omega
theorem coreM_wt {x : DMachine} {k : Nat} {c c' : DCore} {m : List Int} {code : Int} (hG : ∀ G ∈ x.Kernel.Gates, wtGate G ≤ 1048576) (hm : m.length = x.Mem.length) : wtMachine (coreM x k c c' m code) ≤ wtMachine x + 1048577 + 2 * wtCore c' + 20 := by
  have hy : wtMachine ⟨x.Image, m, x.Cores.set k c', x.Kernel, x.Input, x.Events, x.Stopped⟩ ≤ wtMachine x + wtCore c' := by
    have := @tot_set_le _ wtCore c' x.Cores k
    simp only [wtMachine, List.length_set, hm]; omega
  unfold coreM
  split
  · omega
  · split
    · have := @sysM_wt ⟨x.Image, m, x.Cores.set k c', x.Kernel, x.Input, x.Events, x.Stopped⟩ k c' (dA (x.Image.Text.getD c.Pc.toNat 0)) (dC (x.Image.Text.getD c.Pc.toNat 0)).toNat hG
      omega
    · rw [faultM_wt]; omega
theorem pickK_wt {K : DKernel} (hC : ∀ c ∈ K.Saved, wtCore c ≤ 1048576) : wtKernel (pickK K).1 ≤ wtKernel K ∧ wtCore (pickK K).2.1 ≤ 1048576 := by
  unfold pickK
  have h8 : wtCore coreNew ≤ 1048576 := by rw [coreNew_wt]; omega
  split
  · exact ⟨Nat.le_refl _, h8⟩
  · rename_i r rs heq
    have : rs.length + 1 = K.Ready.length := by rw [heq]; rfl
    split
    · refine ⟨?_, getD_le hC h8⟩
      simp only [wtKernel]; omega
    · exact ⟨Nat.le_refl _, h8⟩
theorem stepM_wt {x : DMachine} {i : Int} (h : okM x) : wtMachine (stepM x i).1 ≤ wtMachine x + 4000000 := by
  obtain ⟨_, _, hGa, hSa, hCa⟩ := h
  have hG : ∀ G ∈ x.Kernel.Gates, wtGate G ≤ 1048576 := fun G hG => Nat.le_trans (hGa G hG) (by omega)
  have hc : wtCore (x.Cores.getD i.toNat coreNew) ≤ 1048576 := getD_le hCa (by rw [coreNew_wt]; omega)
  unfold stepM
  split
  · simp only; omega
  · split
    · have hp := @pickK_wt x.Kernel hSa
      have h1 := @tot_set_le _ wtCore (pickK x.Kernel).2.1 x.Cores i.toNat
      split
      · simp only [wtMachine, List.length_set]; omega
      · simp only; omega
    · have h1 := @coreM_wt x i.toNat (x.Cores.getD i.toNat coreNew) (stepF (x.Cores.getD i.toNat coreNew) x.Image.Text x.Mem).1 (stepF (x.Cores.getD i.toNat coreNew) x.Image.Text x.Mem).2.1 (stepF (x.Cores.getD i.toNat coreNew) x.Image.Text x.Mem).2.2 hG stepF_mlen
      have h2 : wtCore (stepF (x.Cores.getD i.toNat coreNew) x.Image.Text x.Mem).1 = wtCore (x.Cores.getD i.toNat coreNew) := stepF_rlen
      simp only
      omega
set_option maxHeartbeats 4000000 in
theorem law_FnExactStepMachine (x : DMachine) (g_x : gdMachine x) (k : Int) (g_k : i64 k) : tru F_laws_FnExactStepMachine.res (go X_laws_FnExactStepMachine 0 [.c F_laws_FnExactStepMachine.body] ⟨params 0 [.agg (cMachine x), .int .i64 k], []⟩) := by
  rcases lft_or (1048576) (wtMachine x) with ⟨e0, f0⟩ | ⟨e0, f0⟩
  · simp (maxSteps := 10000000) (disch := first | assumption | omega) only [F_laws_FnExactStepMachine, params, EG, EL, simprocAttr, ED, FB, FT, tru_ret, tru_ite, cx_laws_FnExactStepMachine, e0, neg1_lt, cl_laws_szMachine, sem_laws_szMachine, cl_laws_toMachine, sem_laws_toMachine, cl_spec_StepMachine, sem_spec_StepMachine, cl_impl_StepMachine, sem_impl_StepMachine, cl_laws_eqMachine, sem_laws_eqMachine, cl_laws_markMachine, run_goF, F_laws_markMachine, cx_laws_markMachine, cl_laws_markImage, F_laws_markImage, cx_laws_markImage, cl_laws_markIntS, sem_laws_markIntS, cl_laws_markCoreS, sem_laws_markCoreS, cl_laws_markKernel, F_laws_markKernel, cx_laws_markKernel, cl_laws_markGateS, sem_laws_markGateS, cl_laws_markBoolS, sem_laws_markBoolS, cl_laws_markEventS, sem_laws_markEventS, cl_laws_heldMachine, sem_laws_heldMachine]
  have c0 : ¬ 1048576 - ((wtMachine x : Nat) : Int) < 0 := by omega
  have w0 := f0
  simp only [wtMachine, wtImage, wtKernel] at w0
  have q0_0 := tot_ct1 x.Image.Text
  have q0_1 := tot_ct1 x.Image.Starts
  have q0_2 := tot_ct1 x.Mem
  have q0_3 := tctle_Core x.Cores
  have q0_4 := tctle_Gate x.Kernel.Gates
  have q0_5 := tot_ct1 x.Kernel.Ready
  have q0_6 := tctle_Core x.Kernel.Saved
  have q0_7 := tot_ct1 x.Kernel.Over
  have q0_8 := tot_ct1 x.Input
  have q0_9 := tctle_Event x.Events
  have hM : okM x := ⟨⟨by omega, by omega, by omega, by omega, by omega, by omega⟩, ⟨by omega, by omega, by omega, by omega⟩, fun y hy => by have := le_tot wtGate hy; have h2 : wtGate y = y.Waits.length + y.Queues.length := rfl; have h3 := List.length_pos_of_mem hy; omega, fun y hy => by have := le_tot wtCore hy; have h2 : wtCore y = y.Regs.length := rfl; omega, fun y hy => by have := le_tot wtCore hy; have h2 : wtCore y = y.Regs.length := rfl; omega⟩
  have hwt := @stepM_wt x k hM
  have hr0 : wtMachine (stepM x k).1 ≤ 1073741824 := by
    exact Nat.le_trans hwt (by omega)
  have hu0 := hr0
  simp only [wtMachine, wtImage, wtKernel] at hu0
  have r0_0 := tot_ct1 (stepM x k).1.Image.Text
  have r0_1 := tot_ct1 (stepM x k).1.Image.Starts
  have r0_2 := tot_ct1 (stepM x k).1.Mem
  have r0_3 := tctle_Core (stepM x k).1.Cores
  have r0_4 := tctle_Gate (stepM x k).1.Kernel.Gates
  have r0_5 := tot_ct1 (stepM x k).1.Kernel.Ready
  have r0_6 := tctle_Core (stepM x k).1.Kernel.Saved
  have r0_7 := tot_ct1 (stepM x k).1.Kernel.Over
  have r0_8 := tot_ct1 (stepM x k).1.Input
  have r0_9 := tctle_Event (stepM x k).1.Events
  have rc0 : cwMachine (stepM x k).1 = tot ct1 (stepM x k).1.Image.Text + tot ct1 (stepM x k).1.Image.Starts + tot ct1 (stepM x k).1.Mem + tot ctCore (stepM x k).1.Cores + tot ctGate (stepM x k).1.Kernel.Gates + tot ct1 (stepM x k).1.Kernel.Ready + tot ctCore (stepM x k).1.Kernel.Saved + tot ct1 (stepM x k).1.Kernel.Over + tot ct1 (stepM x k).1.Input + tot ctEvent (stepM x k).1.Events := rfl
  simp (maxSteps := 10000000) (disch := first | assumption | omega) only [F_laws_FnExactStepMachine, params, EG, EL, simprocAttr, ED, FB, FT, tru_ret, tru_ite, cx_laws_FnExactStepMachine, e0, c0, cl_laws_szMachine, sem_laws_szMachine, cl_laws_toMachine, sem_laws_toMachine, cl_spec_StepMachine, sem_spec_StepMachine, cl_impl_StepMachine, sem_impl_StepMachine, cl_laws_eqMachine, sem_laws_eqMachine, cl_laws_markMachine, run_goF, F_laws_markMachine, cx_laws_markMachine, cl_laws_markImage, F_laws_markImage, cx_laws_markImage, cl_laws_markIntS, sem_laws_markIntS, cl_laws_markCoreS, sem_laws_markCoreS, cl_laws_markKernel, F_laws_markKernel, cx_laws_markKernel, cl_laws_markGateS, sem_laws_markGateS, cl_laws_markBoolS, sem_laws_markBoolS, cl_laws_markEventS, sem_laws_markEventS, cl_laws_heldMachine, sem_laws_heldMachine]
  repeat (first | rw [if_neg (by omega)] | rw [if_pos (by omega)])
  try trivial

end Go.Proofs.YtdhmlhlpdejefaaGreat.AI
