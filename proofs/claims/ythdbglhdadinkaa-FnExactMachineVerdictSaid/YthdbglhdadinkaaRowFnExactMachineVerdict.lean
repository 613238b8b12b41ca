/- The law FnExactMachineVerdict holds at every argument: its row, out of the law of the reckoner. -/
import Derived.Test.YthdbglhdadinkaaRows
import Derived.Test.YthdbglhdadinkaaLFnExactMachineVerdict
import Derived.WalkKit
import Derived.ProofKit
import Derived.KernelRfl
import Derived.OpenShut
import Derived.ShutString
import Derived.ChangeOld
import Derived.Below
import Derived.SizedLaws
namespace Go.Proofs.Ythdbglhdadinkaa.fnExactMachineVerdict
open Go.Proofs.Ythdbglhdadinkaa.AI
open Go.ChangeShapes Go.WideShapes Go.ChangeAt Go.RowKit
open Go.ChangeMaps (open_string shut_string)
set_option linter.all false
set_option maxRecDepth 100000
theorem op24 : Opens Try.prog 24 (⟨3, cImage⟩ : Kd DImage) gdImage := opens_G (opens_iso (f := fun b : DImage => (b.Text, b.Starts, b.Size)) (fun y => ⟨y.1, y.2.1, y.2.2⟩) (fun _ => rfl) (opens_struct Try.underlying24 (by kernel_rfl) (opensF_cons rfl (by kernel_rfl) (op_sl (k := 1) (B := 8) (c := cI) Try.underlying22 (by kernel_rfl) (by kernel_rfl) (by decide) (by decide) (op_int Try.underlying3)) (opensF_cons rfl (by kernel_rfl) (op_sl (k := 1) (B := 8) (c := cI) Try.underlying22 (by kernel_rfl) (by kernel_rfl) (by decide) (by decide) (op_int Try.underlying3)) (opensF_one rfl (by kernel_rfl) (op_int Try.underlying3)))))) (fun _ h => ⟨h.1, h.2.1, h.2.2⟩)
theorem op52 : Opens Try.prog 52 (⟨3, cCore⟩ : Kd DCore) gdCore := opens_G (opens_iso (f := fun b : DCore => (b.Regs, b.Pc, b.Process)) (fun y => ⟨y.1, y.2.1, y.2.2⟩) (fun _ => rfl) (opens_struct Try.underlying52 (by kernel_rfl) (opensF_cons rfl (by kernel_rfl) (op_sl (k := 1) (B := 8) (c := cI) Try.underlying22 (by kernel_rfl) (by kernel_rfl) (by decide) (by decide) (op_int Try.underlying3)) (opensF_cons rfl (by kernel_rfl) (op_int Try.underlying3) (opensF_one rfl (by kernel_rfl) (op_int Try.underlying3)))))) (fun _ h => ⟨h.1, h.2.1, h.2.2⟩)
theorem op180 : Opens Try.prog 180 (⟨3, cGate⟩ : Kd DGate) gdGate := opens_G (opens_iso (f := fun b : DGate => (b.Owner, b.Waits, b.Queues)) (fun y => ⟨y.1, y.2.1, y.2.2⟩) (fun _ => rfl) (opens_struct Try.underlying180 (by kernel_rfl) (opensF_cons rfl (by kernel_rfl) (op_int Try.underlying3) (opensF_cons rfl (by kernel_rfl) (op_sl (k := 1) (B := 8) (c := cI) Try.underlying22 (by kernel_rfl) (by kernel_rfl) (by decide) (by decide) (op_int Try.underlying3)) (opensF_one rfl (by kernel_rfl) (op_sl (k := 1) (B := 8) (c := cI) Try.underlying22 (by kernel_rfl) (by kernel_rfl) (by decide) (by decide) (op_int Try.underlying3))))))) (fun _ h => ⟨h.1, h.2.1, h.2.2⟩)
theorem op29 : Opens Try.prog 29 (⟨4, cKernel⟩ : Kd DKernel) gdKernel := opens_G (opens_iso (f := fun b : DKernel => (b.Gates, b.Ready, b.Saved, b.Over)) (fun y => ⟨y.1, y.2.1, y.2.2.1, y.2.2.2⟩) (fun _ => rfl) (opens_struct Try.underlying29 (by kernel_rfl) (opensF_cons rfl (by kernel_rfl) (op_sl (k := 3) (B := 56) (c := cGate) Try.underlying26 (by kernel_rfl) (by kernel_rfl) (by decide) (by decide) op180) (opensF_cons rfl (by kernel_rfl) (op_sl (k := 1) (B := 8) (c := cI) Try.underlying22 (by kernel_rfl) (by kernel_rfl) (by decide) (by decide) (op_int Try.underlying3)) (opensF_cons rfl (by kernel_rfl) (op_sl (k := 3) (B := 40) (c := cCore) Try.underlying25 (by kernel_rfl) (by kernel_rfl) (by decide) (by decide) op52) (opensF_one rfl (by kernel_rfl) (op_sl (k := 1) (B := 1) (c := cB) Try.underlying27 (by kernel_rfl) (by kernel_rfl) (by decide) (by decide) (op_bool Try.underlying4)))))))) (fun _ h => ⟨h.1, h.2.1, h.2.2.1, h.2.2.2.1⟩)
theorem op166 : Opens Try.prog 166 (⟨3, cEvent⟩ : Kd DEvent) gdEvent := opens_G (opens_iso (f := fun b : DEvent => (b.Process, b.Kind, b.Num)) (fun y => ⟨y.1, y.2.1, y.2.2⟩) (fun _ => rfl) (opens_struct Try.underlying166 (by kernel_rfl) (opensF_cons rfl (by kernel_rfl) (op_int Try.underlying3) (opensF_cons rfl (by kernel_rfl) (op_int Try.underlying3) (opensF_one rfl (by kernel_rfl) (op_int Try.underlying3)))))) (fun _ h => ⟨h.1, h.2.1, h.2.2⟩)
theorem op32 : Opens Try.prog 32 (⟨12, cMachine⟩ : Kd DMachine) gdMachine := opens_G (opens_iso (f := fun b : DMachine => (b.Image, b.Mem, b.Cores, b.Kernel, b.Input, b.Events, b.Stopped)) (fun y => ⟨y.1, y.2.1, y.2.2.1, y.2.2.2.1, y.2.2.2.2.1, y.2.2.2.2.2.1, y.2.2.2.2.2.2⟩) (fun _ => rfl) (opens_struct Try.underlying32 (by kernel_rfl) (opensF_cons rfl (by kernel_rfl) op24 (opensF_cons rfl (by kernel_rfl) (op_sl (k := 1) (B := 8) (c := cI) Try.underlying22 (by kernel_rfl) (by kernel_rfl) (by decide) (by decide) (op_int Try.underlying3)) (opensF_cons rfl (by kernel_rfl) (op_sl (k := 3) (B := 40) (c := cCore) Try.underlying25 (by kernel_rfl) (by kernel_rfl) (by decide) (by decide) op52) (opensF_cons rfl (by kernel_rfl) op29 (opensF_cons rfl (by kernel_rfl) (op_sl (k := 1) (B := 8) (c := cI) Try.underlying22 (by kernel_rfl) (by kernel_rfl) (by decide) (by decide) (op_int Try.underlying3)) (opensF_cons rfl (by kernel_rfl) (op_sl (k := 3) (B := 24) (c := cEvent) Try.underlying30 (by kernel_rfl) (by kernel_rfl) (by decide) (by decide) op166) (opensF_one rfl (by kernel_rfl) (op_bool Try.underlying4)))))))))) (fun _ h => ⟨h.1, h.2.1, h.2.2.1, h.2.2.2.1, h.2.2.2.2.1, h.2.2.2.2.2.1⟩)
theorem own : ownKnob Try.prog.godebug = none := by kernel_rfl
theorem laidOut : laidOutB Try.prog = true := by kernel_rfl
set_option maxHeartbeats 8000000 in
set_option maxRecDepth 100000 in
theorem lifted (os : Os) (started : os.Started) (H : Type) (enc : TypeId × Value → H) :
    ReturnsInHanded {} Try.checked os 11 .any (Rows.fnExactMachineVerdictSpec.pre6 enc Try.prog Try.f11 Rows.fnExactMachineVerdictRow.domain false) (Rows.fnExactMachineVerdictSpec.post enc Try.prog Try.f11 false true false false) := by
  refine returnsInHanded_of_change_sized (C := Try.checked) own started (by kernel_rfl) Try.func11
    (ChangeSpec.witness6 (enc := enc) (C := Try.checked) false ⟨#[], #[.agg #[.slice none 0 0, .slice none 0 0, .int .i64 0, .slice none 0 0, .slice none 0 0, .slice none 0 0, .slice none 0 0, .slice none 0 0, .slice none 0 0, .slice none 0 0, .slice none 0 0, .bool false]], []⟩ 8 (by kernel_rfl) (by kernel_rfl) (by kernel_rfl) (by kernel_rfl)) ?_
  intro W base args ds gs before hval0 hW hcnd hsz0 _
  have hsz : (DataW.weightsEach Try.prog (Try.f11.params.toList ++ Rows.fnExactMachineVerdictSpec.plain.varTypes Try.prog) (ds ++ gs)).all (· ≤ reachBytes) = true := hsz0
  have hval : ∀ (j : Nat) t v, Try.f11.params[j]? = some t → args[j]? = some v → Value.okWide Try.prog W .any base t v := hval0
  have hW' := hW
  obtain ⟨p, q, hA0, hV, rfl, hfz, hnd⟩ := hW
  have hA : DataW.TrodAll enc Try.prog W 0 (fun _ => true) true Try.f11.params.toList args.toList ds p := hA0
  rw [Try.params11] at hA hval hsz
  obtain ⟨v0, vs0, d0, ds0, p0, q0, hargs, rfl, rfl, h0, r0⟩ := trodAll_cons hA
  obtain ⟨rfl, rfl, rfl⟩ := trodAll_nil r0
  obtain rfl : args = #[v0] := by cases args; simp_all
  obtain ⟨rfl, rfl⟩ := trodVars_none hV
  have k0 := h0
  have lt0 : ∀ x ∈ p0, x.block < W.heap.size := by obtain ⟨m, hm⟩ := k0; exact DataW.trod_lt m _ _ _ hm
  obtain ⟨y0, hK0, hG0⟩ := Opens.arg op32 h0 (sized_at (j := 0) hsz rfl rfl)
  obtain ⟨cs0, rfl, _⟩ := okWide_struct Try.underlying32 (hval 0 32 v0 rfl rfl)
  clear hA0 hval0 hsz0 hsz
  refine (law_tru co_laws_FnExactMachineVerdict Try.func11 r_laws_FnExactMachineVerdict (avs := [.agg (cMachine y0)]) (VL_cons (V_agg hK0) VL_nil) rfl (law_FnExactMachineVerdict y0 hG0)).mono fun e W' ⟨he, bel⟩ => ?_
  subst he
  exact ⟨_, rfl, _, _, _, [], _, [], hW', trodAll_mk1 (shut_bool Try.underlying4 _), (trodAll_cons_mk (Below.trod laidOut (by kernel_rfl) (of_decide_eq_true (by kernel_rfl)) k0 bel lt0) trodAll_mk0), rfl, bel.frame _, fun h => by cases h⟩
theorem and_ {a b : Bool} (h : a = true) (k : b = true) : (a && b) = true := by rw [h, k]; rfl
theorem jf0 : (Rows.fnExactMachineVerdictRow.wf (OpenSpec.ofChange Rows.fnExactMachineVerdictSpec)) = true := by kernel_rfl
theorem jf1 : (laidOutB Try.prog) = true := by kernel_rfl
theorem jf2 : (mapsRowed Try.prog) = true := by kernel_rfl
theorem jf3 : (Try.f11.params.all (Try.prog.readableRec ·)) = true := by kernel_rfl
theorem jf4 : (namedTie Try.prog Rows.fnExactMachineVerdictRow.named Rows.fnExactMachineVerdictSpec.vars) = true := by kernel_rfl
theorem jf5 : (Rows.fnExactMachineVerdictRow.stops == []) = true := by kernel_rfl
theorem jf6 : (Try.prog.stops == []) = true := by kernel_rfl
theorem jf7 : (Rows.fnExactMachineVerdictRow.knobs == []) = true := by kernel_rfl
theorem jf8 : (Try.prog.stopKnobs == []) = true := by kernel_rfl
theorem jf9 : (Rows.fnExactMachineVerdictRow.inPlace == Try.prog.inPlace 11) = true := by kernel_rfl
theorem jf10 : (Rows.fnExactMachineVerdictRow.unfollowed == Try.prog.unfollowed 11) = true := by kernel_rfl
theorem jf11 : (Rows.fnExactMachineVerdictRow.recurses == Try.prog.recurses 11) = true := by kernel_rfl
theorem jf12 : (Rows.fnExactMachineVerdictRow.named == Try.prog.varsNamed 11) = true := by kernel_rfl
theorem jf13 : (Rows.fnExactMachineVerdictRow.maps == (Try.f11.params.toList ++ Rows.fnExactMachineVerdictSpec.plain.varTypes Try.prog).any (Try.prog.mapsRec ·)) = true := by kernel_rfl
theorem jf14 : (Rows.fnExactMachineVerdictRow.ifaces == (Try.f11.params.toList ++ Rows.fnExactMachineVerdictSpec.plain.varTypes Try.prog).any (Try.prog.ifacesRec ·)) = true := by kernel_rfl
theorem jf15 : (Rows.fnExactMachineVerdictRow.mapsOut == Try.prog.mapsAmong Try.f11.resultTypes.toList) = true := by kernel_rfl
theorem jf16 : (Rows.fnExactMachineVerdictRow.loops == (Try.f11.params.toList ++ Rows.fnExactMachineVerdictSpec.plain.varTypes Try.prog).any (Try.prog.loopsFrom ·)) = true := by kernel_rfl
theorem jf17 : (Rows.fnExactMachineVerdictRow.wideKeys == (Try.f11.params.toList ++ Rows.fnExactMachineVerdictSpec.plain.varTypes Try.prog ++ Try.f11.resultTypes.toList).any (Try.prog.wideKeysFrom ·)) = true := by kernel_rfl
theorem jf18 : (Rows.fnExactMachineVerdictSpec.vars.all (Try.prog.varReadable ·)) = true := by kernel_rfl
theorem jf19 : (Try.f11.resultTypes.all (fun t => Try.prog.readableRec t && decide (t < Try.prog.types.size))) = true := by kernel_rfl
theorem jf20 : (Rows.fnExactMachineVerdictRow.ifacesOut == Try.f11.resultTypes.toList.any (Try.prog.ifacesRec ·)) = true := by kernel_rfl
theorem jf21 : (Rows.fnExactMachineVerdictRow.loopsOut == Try.f11.resultTypes.toList.any (Try.prog.loopsFrom ·)) = true := by kernel_rfl
theorem jf22 : (Rows.fnExactMachineVerdictRow.plainKeys == Try.prog.plainKeys) = true := by kernel_rfl
theorem jf23 : (Rows.fnExactMachineVerdictRow.shortTexts.isNone) = true := by kernel_rfl
theorem jf24 : (Try.prog.stopsHeard) = true := by kernel_rfl
theorem jf25 : (Try.prog.mayEnter) = true := by kernel_rfl
theorem jf26 : (Rows.fnExactMachineVerdictRow.lifted == Try.prog.liftsFinal) = true := by kernel_rfl
theorem jf27 : (Try.prog.make == some Rows.fnExactMachineVerdictRow.make) = true := by kernel_rfl
theorem jf28 : (Rows.fnExactMachineVerdictRow.kinds == (if Rows.fnExactMachineVerdictRow.domain.isEmpty then [] else Try.f11.params.toList.map fun t => match Try.prog.underlying t with | some (.int k) => some k | _ => none)) = true := by kernel_rfl
theorem jf29 : (Rows.fnExactMachineVerdictRow.pinned == Rows.fnExactMachineVerdictRow.pinnedBy) = true := by kernel_rfl
theorem jf30 : (Rows.fnExactMachineVerdictRow.veiled == (Try.f11.params.toList ++ Rows.fnExactMachineVerdictSpec.plain.varTypes Try.prog ++ Try.f11.resultTypes.toList).any (Try.prog.veiledRec ·)) = true := by kernel_rfl
theorem jf31 : (Rows.fnExactMachineVerdictRow.veiledFits Try.prog Try.f11.params.toList (Try.f11.params.toList ++ Rows.fnExactMachineVerdictSpec.plain.varTypes Try.prog ++ Try.f11.resultTypes.toList)) = true := by kernel_rfl
set_option maxRecDepth 1000000 in
theorem closed : joinedFacts Try.prog 11 Try.f11 Rows.fnExactMachineVerdictSpec Rows.fnExactMachineVerdictRow = true := by
  unfold joinedFacts
  exact (and_ (and_ (and_ (and_ (and_ (and_ (and_ (and_ (and_ (and_ (and_ (and_ (and_ (and_ (and_ (and_ (and_ (and_ (and_ (and_ (and_ (and_ (and_ (and_ (and_ (and_ (and_ (and_ (and_ (and_ (and_ jf0 jf1) jf2) jf3) jf4) jf5) jf6) jf7) jf8) jf9) jf10) jf11) jf12) jf13) jf14) jf15) jf16) jf17) jf18) jf19) jf20) jf21) jf22) jf23) jf24) jf25) jf26) jf27) jf28) jf29) jf30) jf31)
theorem atName : Try.prog.funcNamed Rows.fnExactMachineVerdictRow.func = some 11 := by kernel_rfl
theorem wrapped : Try.f11.isWrapper Try.prog Rows.fnExactMachineVerdictRow.wrapper Rows.fnExactMachineVerdictRow.mainSum := by unfold Func.isWrapper; first | (rw [if_pos (by decide +kernel)]; kernel_rfl) | (rw [if_neg (by decide +kernel)]; exact ⟨rfl, rfl⟩)
theorem over : Rows.fnExactMachineVerdictRow.holds Try.pinned (OpenSpec.ofChange Rows.fnExactMachineVerdictSpec) :=
  OpenClaim.holds_of_wide 11 Try.f11 rfl rfl rfl rfl rfl rfl rfl ⟨rfl, rfl, rfl, rfl, rfl⟩ rfl rfl rfl rfl rfl atName Try.func11 closed
    (of_decide_eq_true (by kernel_rfl)) wrapped
    (fun os started H enc _ => lifted os started H enc)
theorem proved : Rows.FnExactMachineVerdictSaid := over
#print axioms proved
end Go.Proofs.Ythdbglhdadinkaa.fnExactMachineVerdict
namespace Go.Proofs.Ythdbglhdadinkaa
/-- The row, under a short name, for the claim. -/
theorem fnExactMachineVerdict_holds : Rows.FnExactMachineVerdictSaid := fnExactMachineVerdict.proved
end Go.Proofs.Ythdbglhdadinkaa
