/- The law FnExactStepMachine holds at every argument: its row, out of the law of the reckoner. -/
import Derived.Test.YtdhmlhlpdejefaaGreatRows
import Derived.Test.YtdhmlhlpdejefaaGreatLFnExactStepMachine
import Derived.WalkKit
import Derived.ProofKit
import Derived.KernelRfl
import Derived.OpenShut
import Derived.ShutString
import Derived.ChangeOld
import Derived.Below
import Derived.SizedLaws
namespace Go.Proofs.YtdhmlhlpdejefaaGreat.fnExactStepMachine
open Go.Proofs.YtdhmlhlpdejefaaGreat.AI
open Go.ChangeShapes Go.WideShapes Go.ChangeAt Go.RowKit
open Go.ChangeMaps (open_string shut_string)
set_option linter.all false
set_option maxRecDepth 100000
theorem op24 : Opens Tryz.prog 24 (⟨3, cImage⟩ : Kd DImage) gdImage := opens_G (opens_iso (f := fun b : DImage => (b.Text, b.Starts, b.Size)) (fun y => ⟨y.1, y.2.1, y.2.2⟩) (fun _ => rfl) (opens_struct Tryz.underlying24 (by kernel_rfl) (opensF_cons rfl (by kernel_rfl) (op_sl (k := 1) (B := 8) (c := cI) Tryz.underlying22 (by kernel_rfl) (by kernel_rfl) (by decide) (by decide) (op_int Tryz.underlying3)) (opensF_cons rfl (by kernel_rfl) (op_sl (k := 1) (B := 8) (c := cI) Tryz.underlying22 (by kernel_rfl) (by kernel_rfl) (by decide) (by decide) (op_int Tryz.underlying3)) (opensF_one rfl (by kernel_rfl) (op_int Tryz.underlying3)))))) (fun _ h => ⟨h.1, h.2.1, h.2.2⟩)
theorem op84 : Opens Tryz.prog 84 (⟨3, cCore⟩ : Kd DCore) gdCore := opens_G (opens_iso (f := fun b : DCore => (b.Regs, b.Pc, b.Process)) (fun y => ⟨y.1, y.2.1, y.2.2⟩) (fun _ => rfl) (opens_struct Tryz.underlying84 (by kernel_rfl) (opensF_cons rfl (by kernel_rfl) (op_sl (k := 1) (B := 8) (c := cI) Tryz.underlying22 (by kernel_rfl) (by kernel_rfl) (by decide) (by decide) (op_int Tryz.underlying3)) (opensF_cons rfl (by kernel_rfl) (op_int Tryz.underlying3) (opensF_one rfl (by kernel_rfl) (op_int Tryz.underlying3)))))) (fun _ h => ⟨h.1, h.2.1, h.2.2⟩)
theorem op119 : Opens Tryz.prog 119 (⟨3, cGate⟩ : Kd DGate) gdGate := opens_G (opens_iso (f := fun b : DGate => (b.Owner, b.Waits, b.Queues)) (fun y => ⟨y.1, y.2.1, y.2.2⟩) (fun _ => rfl) (opens_struct Tryz.underlying119 (by kernel_rfl) (opensF_cons rfl (by kernel_rfl) (op_int Tryz.underlying3) (opensF_cons rfl (by kernel_rfl) (op_sl (k := 1) (B := 8) (c := cI) Tryz.underlying22 (by kernel_rfl) (by kernel_rfl) (by decide) (by decide) (op_int Tryz.underlying3)) (opensF_one rfl (by kernel_rfl) (op_sl (k := 1) (B := 8) (c := cI) Tryz.underlying22 (by kernel_rfl) (by kernel_rfl) (by decide) (by decide) (op_int Tryz.underlying3))))))) (fun _ h => ⟨h.1, h.2.1, h.2.2⟩)
theorem op29 : Opens Tryz.prog 29 (⟨4, cKernel⟩ : Kd DKernel) gdKernel := opens_G (opens_iso (f := fun b : DKernel => (b.Gates, b.Ready, b.Saved, b.Over)) (fun y => ⟨y.1, y.2.1, y.2.2.1, y.2.2.2⟩) (fun _ => rfl) (opens_struct Tryz.underlying29 (by kernel_rfl) (opensF_cons rfl (by kernel_rfl) (op_sl (k := 3) (B := 56) (c := cGate) Tryz.underlying26 (by kernel_rfl) (by kernel_rfl) (by decide) (by decide) op119) (opensF_cons rfl (by kernel_rfl) (op_sl (k := 1) (B := 8) (c := cI) Tryz.underlying22 (by kernel_rfl) (by kernel_rfl) (by decide) (by decide) (op_int Tryz.underlying3)) (opensF_cons rfl (by kernel_rfl) (op_sl (k := 3) (B := 40) (c := cCore) Tryz.underlying25 (by kernel_rfl) (by kernel_rfl) (by decide) (by decide) op84) (opensF_one rfl (by kernel_rfl) (op_sl (k := 1) (B := 1) (c := cB) Tryz.underlying27 (by kernel_rfl) (by kernel_rfl) (by decide) (by decide) (op_bool Tryz.underlying4)))))))) (fun _ h => ⟨h.1, h.2.1, h.2.2.1, h.2.2.2.1⟩)
theorem op103 : Opens Tryz.prog 103 (⟨3, cEvent⟩ : Kd DEvent) gdEvent := opens_G (opens_iso (f := fun b : DEvent => (b.Process, b.Kind, b.Num)) (fun y => ⟨y.1, y.2.1, y.2.2⟩) (fun _ => rfl) (opens_struct Tryz.underlying103 (by kernel_rfl) (opensF_cons rfl (by kernel_rfl) (op_int Tryz.underlying3) (opensF_cons rfl (by kernel_rfl) (op_int Tryz.underlying3) (opensF_one rfl (by kernel_rfl) (op_int Tryz.underlying3)))))) (fun _ h => ⟨h.1, h.2.1, h.2.2⟩)
theorem op32 : Opens Tryz.prog 32 (⟨12, cMachine⟩ : Kd DMachine) gdMachine := opens_G (opens_iso (f := fun b : DMachine => (b.Image, b.Mem, b.Cores, b.Kernel, b.Input, b.Events, b.Stopped)) (fun y => ⟨y.1, y.2.1, y.2.2.1, y.2.2.2.1, y.2.2.2.2.1, y.2.2.2.2.2.1, y.2.2.2.2.2.2⟩) (fun _ => rfl) (opens_struct Tryz.underlying32 (by kernel_rfl) (opensF_cons rfl (by kernel_rfl) op24 (opensF_cons rfl (by kernel_rfl) (op_sl (k := 1) (B := 8) (c := cI) Tryz.underlying22 (by kernel_rfl) (by kernel_rfl) (by decide) (by decide) (op_int Tryz.underlying3)) (opensF_cons rfl (by kernel_rfl) (op_sl (k := 3) (B := 40) (c := cCore) Tryz.underlying25 (by kernel_rfl) (by kernel_rfl) (by decide) (by decide) op84) (opensF_cons rfl (by kernel_rfl) op29 (opensF_cons rfl (by kernel_rfl) (op_sl (k := 1) (B := 8) (c := cI) Tryz.underlying22 (by kernel_rfl) (by kernel_rfl) (by decide) (by decide) (op_int Tryz.underlying3)) (opensF_cons rfl (by kernel_rfl) (op_sl (k := 3) (B := 24) (c := cEvent) Tryz.underlying30 (by kernel_rfl) (by kernel_rfl) (by decide) (by decide) op103) (opensF_one rfl (by kernel_rfl) (op_bool Tryz.underlying4)))))))))) (fun _ h => ⟨h.1, h.2.1, h.2.2.1, h.2.2.2.1, h.2.2.2.2.1, h.2.2.2.2.2.1⟩)
theorem own : ownKnob Tryz.prog.godebug = none := by kernel_rfl
theorem laidOut : laidOutB Tryz.prog = true := by kernel_rfl
set_option maxHeartbeats 8000000 in
set_option maxRecDepth 100000 in
theorem lifted (os : Os) (started : os.Started) (H : Type) (enc : TypeId × Value → H) :
    ReturnsInHanded {} Tryz.checked os 3 .any (Rows.fnExactStepMachineSpec.pre6 enc Tryz.prog Tryz.f3 Rows.fnExactStepMachineRow.domain false) (Rows.fnExactStepMachineSpec.post enc Tryz.prog Tryz.f3 false true false false) := by
  refine returnsInHanded_of_change_sized (C := Tryz.checked) own started (by kernel_rfl) Tryz.func3
    (ChangeSpec.witness6 (enc := enc) (C := Tryz.checked) false ⟨#[], #[.agg #[.slice none 0 0, .slice none 0 0, .int .i64 0, .slice none 0 0, .slice none 0 0, .slice none 0 0, .slice none 0 0, .slice none 0 0, .slice none 0 0, .slice none 0 0, .slice none 0 0, .bool false], .int .i64 0], []⟩ 8 (by kernel_rfl) (by kernel_rfl) (by kernel_rfl) (by kernel_rfl)) ?_
  intro W base args ds gs before hval0 hW hcnd hsz0 _
  have hsz : (DataW.weightsEach Tryz.prog (Tryz.f3.params.toList ++ Rows.fnExactStepMachineSpec.plain.varTypes Tryz.prog) (ds ++ gs)).all (· ≤ reachBytes) = true := hsz0
  have hval : ∀ (j : Nat) t v, Tryz.f3.params[j]? = some t → args[j]? = some v → Value.okWide Tryz.prog W .any base t v := hval0
  have hW' := hW
  obtain ⟨p, q, hA0, hV, rfl, hfz, hnd⟩ := hW
  have hA : DataW.TrodAll enc Tryz.prog W 0 (fun _ => true) true Tryz.f3.params.toList args.toList ds p := hA0
  rw [Tryz.params3] at hA hval hsz
  obtain ⟨v0, vs0, d0, ds0, p0, q0, hargs, rfl, rfl, h0, r0⟩ := trodAll_cons hA
  obtain ⟨v1, vs1, d1, ds1, p1, q1, rfl, rfl, rfl, h1, r1⟩ := trodAll_cons r0
  obtain ⟨rfl, rfl, rfl⟩ := trodAll_nil r1
  obtain rfl : args = #[v0, v1] := by cases args; simp_all
  obtain ⟨rfl, rfl⟩ := trodVars_none hV
  have k0 := h0
  have lt0 : ∀ x ∈ p0, x.block < W.heap.size := by obtain ⟨m, hm⟩ := k0; exact DataW.trod_lt m _ _ _ hm
  obtain ⟨y0, hK0, hG0⟩ := Opens.arg op32 h0 (sized_at (j := 0) hsz rfl rfl)
  obtain ⟨cs0, rfl, _⟩ := okWide_struct Tryz.underlying32 (hval 0 32 v0 rfl rfl)
  obtain ⟨a1, rfl, rfl, rfl, w1⟩ := open_int Tryz.underlying3 (hval 1 3 v1 rfl rfl) h1
  clear hA0 hval0 hsz0 hsz
  refine (law_tru co_laws_FnExactStepMachine Tryz.func3 r_laws_FnExactStepMachine (avs := [.agg (cMachine y0), .int .i64 a1]) (VL_cons (V_agg hK0) (VL_cons V_intR VL_nil)) rfl (law_FnExactStepMachine y0 hG0 a1 (i64_of w1))).mono fun e W' ⟨he, bel⟩ => ?_
  subst he
  exact ⟨_, rfl, _, _, _, [], _, [], hW', trodAll_mk1 (shut_bool Tryz.underlying4 _), (trodAll_cons_mk (Below.trod laidOut (by kernel_rfl) (of_decide_eq_true (by kernel_rfl)) k0 bel lt0) (trodAll_cons_mk (shut_int Tryz.underlying3 w1) trodAll_mk0)), rfl, bel.frame _, fun h => by cases h⟩
theorem and_ {a b : Bool} (h : a = true) (k : b = true) : (a && b) = true := by rw [h, k]; rfl
theorem jf0 : (Rows.fnExactStepMachineRow.wf (OpenSpec.ofChange Rows.fnExactStepMachineSpec)) = true := by kernel_rfl
theorem jf1 : (laidOutB Tryz.prog) = true := by kernel_rfl
theorem jf2 : (mapsRowed Tryz.prog) = true := by kernel_rfl
theorem jf3 : (Tryz.f3.params.all (Tryz.prog.readableRec ·)) = true := by kernel_rfl
theorem jf4 : (namedTie Tryz.prog Rows.fnExactStepMachineRow.named Rows.fnExactStepMachineSpec.vars) = true := by kernel_rfl
theorem jf5 : (Rows.fnExactStepMachineRow.stops == []) = true := by kernel_rfl
theorem jf6 : (Tryz.prog.stops == []) = true := by kernel_rfl
theorem jf7 : (Rows.fnExactStepMachineRow.knobs == []) = true := by kernel_rfl
theorem jf8 : (Tryz.prog.stopKnobs == []) = true := by kernel_rfl
theorem jf9 : (Rows.fnExactStepMachineRow.inPlace == Tryz.prog.inPlace 3) = true := by kernel_rfl
theorem jf10 : (Rows.fnExactStepMachineRow.unfollowed == Tryz.prog.unfollowed 3) = true := by kernel_rfl
theorem jf11 : (Rows.fnExactStepMachineRow.recurses == Tryz.prog.recurses 3) = true := by kernel_rfl
theorem jf12 : (Rows.fnExactStepMachineRow.named == Tryz.prog.varsNamed 3) = true := by kernel_rfl
theorem jf13 : (Rows.fnExactStepMachineRow.maps == (Tryz.f3.params.toList ++ Rows.fnExactStepMachineSpec.plain.varTypes Tryz.prog).any (Tryz.prog.mapsRec ·)) = true := by kernel_rfl
theorem jf14 : (Rows.fnExactStepMachineRow.ifaces == (Tryz.f3.params.toList ++ Rows.fnExactStepMachineSpec.plain.varTypes Tryz.prog).any (Tryz.prog.ifacesRec ·)) = true := by kernel_rfl
theorem jf15 : (Rows.fnExactStepMachineRow.mapsOut == Tryz.prog.mapsAmong Tryz.f3.resultTypes.toList) = true := by kernel_rfl
theorem jf16 : (Rows.fnExactStepMachineRow.loops == (Tryz.f3.params.toList ++ Rows.fnExactStepMachineSpec.plain.varTypes Tryz.prog).any (Tryz.prog.loopsFrom ·)) = true := by kernel_rfl
theorem jf17 : (Rows.fnExactStepMachineRow.wideKeys == (Tryz.f3.params.toList ++ Rows.fnExactStepMachineSpec.plain.varTypes Tryz.prog ++ Tryz.f3.resultTypes.toList).any (Tryz.prog.wideKeysFrom ·)) = true := by kernel_rfl
theorem jf18 : (Rows.fnExactStepMachineSpec.vars.all (Tryz.prog.varReadable ·)) = true := by kernel_rfl
theorem jf19 : (Tryz.f3.resultTypes.all (fun t => Tryz.prog.readableRec t && decide (t < Tryz.prog.types.size))) = true := by kernel_rfl
theorem jf20 : (Rows.fnExactStepMachineRow.ifacesOut == Tryz.f3.resultTypes.toList.any (Tryz.prog.ifacesRec ·)) = true := by kernel_rfl
theorem jf21 : (Rows.fnExactStepMachineRow.loopsOut == Tryz.f3.resultTypes.toList.any (Tryz.prog.loopsFrom ·)) = true := by kernel_rfl
theorem jf22 : (Rows.fnExactStepMachineRow.plainKeys == Tryz.prog.plainKeys) = true := by kernel_rfl
theorem jf23 : (Rows.fnExactStepMachineRow.shortTexts.isNone) = true := by kernel_rfl
theorem jf24 : (Tryz.prog.stopsHeard) = true := by kernel_rfl
theorem jf25 : (Tryz.prog.mayEnter) = true := by kernel_rfl
theorem jf26 : (Rows.fnExactStepMachineRow.lifted == Tryz.prog.liftsFinal) = true := by kernel_rfl
theorem jf27 : (Tryz.prog.make == some Rows.fnExactStepMachineRow.make) = true := by kernel_rfl
theorem jf28 : (Rows.fnExactStepMachineRow.kinds == (if Rows.fnExactStepMachineRow.domain.isEmpty then [] else Tryz.f3.params.toList.map fun t => match Tryz.prog.underlying t with | some (.int k) => some k | _ => none)) = true := by kernel_rfl
theorem jf29 : (Rows.fnExactStepMachineRow.pinned == Rows.fnExactStepMachineRow.pinnedBy) = true := by kernel_rfl
theorem jf30 : (Rows.fnExactStepMachineRow.veiled == (Tryz.f3.params.toList ++ Rows.fnExactStepMachineSpec.plain.varTypes Tryz.prog ++ Tryz.f3.resultTypes.toList).any (Tryz.prog.veiledRec ·)) = true := by kernel_rfl
theorem jf31 : (Rows.fnExactStepMachineRow.veiledFits Tryz.prog Tryz.f3.params.toList (Tryz.f3.params.toList ++ Rows.fnExactStepMachineSpec.plain.varTypes Tryz.prog ++ Tryz.f3.resultTypes.toList)) = true := by kernel_rfl
set_option maxRecDepth 1000000 in
theorem closed : joinedFacts Tryz.prog 3 Tryz.f3 Rows.fnExactStepMachineSpec Rows.fnExactStepMachineRow = true := by
  unfold joinedFacts
  exact (and_ (and_ (and_ (and_ (and_ (and_ (and_ (and_ (and_ (and_ (and_ (and_ (and_ (and_ (and_ (and_ (and_ (and_ (and_ (and_ (and_ (and_ (and_ (and_ (and_ (and_ (and_ (and_ (and_ (and_ (and_ jf0 jf1) jf2) jf3) jf4) jf5) jf6) jf7) jf8) jf9) jf10) jf11) jf12) jf13) jf14) jf15) jf16) jf17) jf18) jf19) jf20) jf21) jf22) jf23) jf24) jf25) jf26) jf27) jf28) jf29) jf30) jf31)
theorem atName : Tryz.prog.funcNamed Rows.fnExactStepMachineRow.func = some 3 := by kernel_rfl
theorem wrapped : Tryz.f3.isWrapper Tryz.prog Rows.fnExactStepMachineRow.wrapper Rows.fnExactStepMachineRow.mainSum := by unfold Func.isWrapper; first | (rw [if_pos (by decide +kernel)]; kernel_rfl) | (rw [if_neg (by decide +kernel)]; exact ⟨rfl, rfl⟩)
theorem over : Rows.fnExactStepMachineRow.holds Tryz.pinned (OpenSpec.ofChange Rows.fnExactStepMachineSpec) :=
  OpenClaim.holds_of_wide 3 Tryz.f3 rfl rfl rfl rfl rfl rfl rfl ⟨rfl, rfl, rfl, rfl, rfl⟩ rfl rfl rfl rfl rfl atName Tryz.func3 closed
    (of_decide_eq_true (by kernel_rfl)) wrapped
    (fun os started H enc _ => lifted os started H enc)
theorem proved : Rows.FnExactStepMachineSaid := over
#print axioms proved
end Go.Proofs.YtdhmlhlpdejefaaGreat.fnExactStepMachine
namespace Go.Proofs.YtdhmlhlpdejefaaGreat
/-- The row, under a short name, for the claim. -/
theorem fnExactStepMachine_holds : Rows.FnExactStepMachineSaid := fnExactStepMachine.proved
end Go.Proofs.YtdhmlhlpdejefaaGreat
