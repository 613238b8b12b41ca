/- The law FnExactVerdictOf holds at every argument: its row, out of the law of the reckoner. -/
import Derived.Test.YtfecgljlnfoheaaRows
import Derived.Test.YtfecgljlnfoheaaLFnExactVerdictOf
import Derived.WalkKit
import Derived.ProofKit
import Derived.KernelRfl
import Derived.OpenShut
import Derived.ShutString
import Derived.ChangeOld
import Derived.Below
import Derived.SizedLaws
namespace Go.Proofs.Ytfecgljlnfoheaa.fnExactVerdictOf
open Go.Proofs.Ytfecgljlnfoheaa.AI
open Go.ChangeShapes Go.WideShapes Go.ChangeAt Go.RowKit
open Go.ChangeMaps (open_string shut_string)
set_option linter.all false
set_option maxRecDepth 100000
theorem op214 : Opens Try.prog 214 (⟨6, cNode⟩ : Kd DNode) gdNode := opens_G (opens_iso (f := fun b : DNode => (b.Kind, b.Num, b.Name, b.More, b.To, b.Kids)) (fun y => ⟨y.1, y.2.1, y.2.2.1, y.2.2.2.1, y.2.2.2.2.1, y.2.2.2.2.2⟩) (fun _ => rfl) (opens_struct Try.underlying214 (by kernel_rfl) (opensF_cons rfl (by kernel_rfl) (op_int Try.underlying3) (opensF_cons rfl (by kernel_rfl) (op_int Try.underlying3) (opensF_cons rfl (by kernel_rfl) (op_str Try.underlying9) (opensF_cons rfl (by kernel_rfl) (op_str Try.underlying9) (opensF_cons rfl (by kernel_rfl) (op_str Try.underlying9) (opensF_one rfl (by kernel_rfl) (op_sl (k := 1) (B := 8) (c := cI) Try.underlying24 (by kernel_rfl) (by kernel_rfl) (by decide) (by decide) (op_int Try.underlying3)))))))))) (fun _ h => ⟨h.1, h.2.1, h.2.2.1, h.2.2.2.1, h.2.2.2.2.1, h.2.2.2.2.2⟩)
theorem op290 : Opens Try.prog 290 (⟨3, cEntry⟩ : Kd DEntry) gdEntry := opens_G (opens_iso (f := fun b : DEntry => (b.Name, b.Param, b.Body)) (fun y => ⟨y.1, y.2.1, y.2.2⟩) (fun _ => rfl) (opens_struct Try.underlying290 (by kernel_rfl) (opensF_cons rfl (by kernel_rfl) (op_str Try.underlying9) (opensF_cons rfl (by kernel_rfl) (op_str Try.underlying9) (opensF_one rfl (by kernel_rfl) (op_int Try.underlying3)))))) (fun _ h => ⟨h.1, h.2.1, h.2.2⟩)
theorem op218 : Opens Try.prog 218 (⟨4, cMonitor⟩ : Kd DMonitor) gdMonitor := opens_G (opens_iso (f := fun b : DMonitor => (b.Name, b.Vars, b.Queues, b.Entries)) (fun y => ⟨y.1, y.2.1, y.2.2.1, y.2.2.2⟩) (fun _ => rfl) (opens_struct Try.underlying218 (by kernel_rfl) (opensF_cons rfl (by kernel_rfl) (op_str Try.underlying9) (opensF_cons rfl (by kernel_rfl) (op_sl (k := 1) (B := 16) (c := cS) Try.underlying52 (by kernel_rfl) (by kernel_rfl) (by decide) (by decide) (op_str Try.underlying9)) (opensF_cons rfl (by kernel_rfl) (op_sl (k := 1) (B := 16) (c := cS) Try.underlying52 (by kernel_rfl) (by kernel_rfl) (by decide) (by decide) (op_str Try.underlying9)) (opensF_one rfl (by kernel_rfl) (op_sl (k := 3) (B := 40) (c := cEntry) Try.underlying216 (by kernel_rfl) (by kernel_rfl) (by decide) (by decide) op290))))))) (fun _ h => ⟨h.1, h.2.1, h.2.2.1, h.2.2.2⟩)
theorem op220 : Opens Try.prog 220 (⟨4, cProcess⟩ : Kd DProcess) gdProcess := opens_G (opens_iso (f := fun b : DProcess => (b.Name, b.Uses, b.Vars, b.Body)) (fun y => ⟨y.1, y.2.1, y.2.2.1, y.2.2.2⟩) (fun _ => rfl) (opens_struct Try.underlying220 (by kernel_rfl) (opensF_cons rfl (by kernel_rfl) (op_str Try.underlying9) (opensF_cons rfl (by kernel_rfl) (op_sl (k := 1) (B := 16) (c := cS) Try.underlying52 (by kernel_rfl) (by kernel_rfl) (by decide) (by decide) (op_str Try.underlying9)) (opensF_cons rfl (by kernel_rfl) (op_sl (k := 1) (B := 16) (c := cS) Try.underlying52 (by kernel_rfl) (by kernel_rfl) (by decide) (by decide) (op_str Try.underlying9)) (opensF_one rfl (by kernel_rfl) (op_int Try.underlying3))))))) (fun _ h => ⟨h.1, h.2.1, h.2.2.1, h.2.2.2⟩)
theorem op41 : Opens Try.prog 41 (⟨3, cProgram⟩ : Kd DProgram) gdProgram := opens_G (opens_iso (f := fun b : DProgram => (b.Nodes, b.Monitors, b.Processes)) (fun y => ⟨y.1, y.2.1, y.2.2⟩) (fun _ => rfl) (opens_struct Try.underlying41 (by kernel_rfl) (opensF_cons rfl (by kernel_rfl) (op_sl (k := 6) (B := 88) (c := cNode) Try.underlying37 (by kernel_rfl) (by kernel_rfl) (by decide) (by decide) op214) (opensF_cons rfl (by kernel_rfl) (op_sl (k := 4) (B := 88) (c := cMonitor) Try.underlying38 (by kernel_rfl) (by kernel_rfl) (by decide) (by decide) op218) (opensF_one rfl (by kernel_rfl) (op_sl (k := 4) (B := 72) (c := cProcess) Try.underlying39 (by kernel_rfl) (by kernel_rfl) (by decide) (by decide) op220)))))) (fun _ h => ⟨h.1, h.2.1, h.2.2⟩)
theorem op234 : Opens Try.prog 234 (⟨2, cEnv⟩ : Kd DEnv) gdEnv := opens_G (opens_iso (f := fun b : DEnv => (b.Names, b.Vals)) (fun y => ⟨y.1, y.2⟩) (fun _ => rfl) (opens_struct Try.underlying234 (by kernel_rfl) (opensF_cons rfl (by kernel_rfl) (op_sl (k := 1) (B := 16) (c := cS) Try.underlying52 (by kernel_rfl) (by kernel_rfl) (by decide) (by decide) (op_str Try.underlying9)) (opensF_one rfl (by kernel_rfl) (op_sl (k := 1) (B := 8) (c := cI) Try.underlying24 (by kernel_rfl) (by kernel_rfl) (by decide) (by decide) (op_int Try.underlying3)))))) (fun _ h => ⟨h.1, h.2⟩)
theorem op236 : Opens Try.prog 236 (⟨4, cThread⟩ : Kd DThread) gdThread := opens_G (opens_iso (f := fun b : DThread => (b.Todo, b.Env, b.Fault)) (fun y => ⟨y.1, y.2.1, y.2.2⟩) (fun _ => rfl) (opens_struct Try.underlying236 (by kernel_rfl) (opensF_cons rfl (by kernel_rfl) (op_sl (k := 1) (B := 8) (c := cI) Try.underlying24 (by kernel_rfl) (by kernel_rfl) (by decide) (by decide) (op_int Try.underlying3)) (opensF_cons rfl (by kernel_rfl) op234 (opensF_one rfl (by kernel_rfl) (op_int Try.underlying3)))))) (fun _ h => ⟨h.1, h.2.1, h.2.2⟩)
theorem op238 : Opens Try.prog 238 (⟨12, cActor⟩ : Kd DActor) gdActor := opens_G (opens_iso (f := fun b : DActor => (b.Outer, b.Inner, b.Monitor, b.Entry, b.Ready, b.Over)) (fun y => ⟨y.1, y.2.1, y.2.2.1, y.2.2.2.1, y.2.2.2.2.1, y.2.2.2.2.2⟩) (fun _ => rfl) (opens_struct Try.underlying238 (by kernel_rfl) (opensF_cons rfl (by kernel_rfl) op236 (opensF_cons rfl (by kernel_rfl) op236 (opensF_cons rfl (by kernel_rfl) (op_int Try.underlying3) (opensF_cons rfl (by kernel_rfl) (op_int Try.underlying3) (opensF_cons rfl (by kernel_rfl) (op_bool Try.underlying4) (opensF_one rfl (by kernel_rfl) (op_bool Try.underlying4))))))))) (fun _ h => ⟨h.1, h.2.1, h.2.2.1, h.2.2.2.1⟩)
theorem op240 : Opens Try.prog 240 (⟨3, cGate⟩ : Kd DGate) gdGate := opens_G (opens_iso (f := fun b : DGate => (b.Owner, b.Waits, b.Queues)) (fun y => ⟨y.1, y.2.1, y.2.2⟩) (fun _ => rfl) (opens_struct Try.underlying240 (by kernel_rfl) (opensF_cons rfl (by kernel_rfl) (op_int Try.underlying3) (opensF_cons rfl (by kernel_rfl) (op_sl (k := 1) (B := 8) (c := cI) Try.underlying24 (by kernel_rfl) (by kernel_rfl) (by decide) (by decide) (op_int Try.underlying3)) (opensF_one rfl (by kernel_rfl) (op_sl (k := 1) (B := 8) (c := cI) Try.underlying24 (by kernel_rfl) (by kernel_rfl) (by decide) (by decide) (op_int Try.underlying3))))))) (fun _ h => ⟨h.1, h.2.1, h.2.2⟩)
theorem op248 : Opens Try.prog 248 (⟨3, cEvent⟩ : Kd DEvent) gdEvent := opens_G (opens_iso (f := fun b : DEvent => (b.Process, b.Kind, b.Num)) (fun y => ⟨y.1, y.2.1, y.2.2⟩) (fun _ => rfl) (opens_struct Try.underlying248 (by kernel_rfl) (opensF_cons rfl (by kernel_rfl) (op_int Try.underlying3) (opensF_cons rfl (by kernel_rfl) (op_int Try.underlying3) (opensF_one rfl (by kernel_rfl) (op_int Try.underlying3)))))) (fun _ h => ⟨h.1, h.2.1, h.2.2⟩)
theorem op81 : Opens Try.prog 81 (⟨9, cModel⟩ : Kd DModel) gdModel := opens_G (opens_iso (f := fun b : DModel => (b.Program, b.Actors, b.Gates, b.Vars, b.Input, b.Events, b.Stopped)) (fun y => ⟨y.1, y.2.1, y.2.2.1, y.2.2.2.1, y.2.2.2.2.1, y.2.2.2.2.2.1, y.2.2.2.2.2.2⟩) (fun _ => rfl) (opens_struct Try.underlying81 (by kernel_rfl) (opensF_cons rfl (by kernel_rfl) op41 (opensF_cons rfl (by kernel_rfl) (op_sl (k := 12) (B := 184) (c := cActor) Try.underlying76 (by kernel_rfl) (by kernel_rfl) (by decide) (by decide) op238) (opensF_cons rfl (by kernel_rfl) (op_sl (k := 3) (B := 56) (c := cGate) Try.underlying77 (by kernel_rfl) (by kernel_rfl) (by decide) (by decide) op240) (opensF_cons rfl (by kernel_rfl) (op_sl (k := 2) (B := 48) (c := cEnv) Try.underlying78 (by kernel_rfl) (by kernel_rfl) (by decide) (by decide) op234) (opensF_cons rfl (by kernel_rfl) (op_sl (k := 1) (B := 8) (c := cI) Try.underlying24 (by kernel_rfl) (by kernel_rfl) (by decide) (by decide) (op_int Try.underlying3)) (opensF_cons rfl (by kernel_rfl) (op_sl (k := 3) (B := 24) (c := cEvent) Try.underlying79 (by kernel_rfl) (by kernel_rfl) (by decide) (by decide) op248) (opensF_one rfl (by kernel_rfl) (op_bool Try.underlying4)))))))))) (fun _ h => ⟨h.1, h.2.1, h.2.2.1, h.2.2.2.1, h.2.2.2.2.1, h.2.2.2.2.2.1⟩)
theorem own : ownKnob Try.prog.godebug = none := by kernel_rfl
theorem laidOut : laidOutB Try.prog = true := by kernel_rfl
set_option maxHeartbeats 8000000 in
set_option maxRecDepth 100000 in
theorem lifted (os : Os) (started : os.Started) (H : Type) (enc : TypeId × Value → H) :
    ReturnsInHanded {} Try.checked os 10 .any (Rows.fnExactVerdictOfSpec.pre6 enc Try.prog Try.f10 Rows.fnExactVerdictOfRow.domain false) (Rows.fnExactVerdictOfSpec.post enc Try.prog Try.f10 false true false false) := by
  refine returnsInHanded_of_change_sized (C := Try.checked) own started (by kernel_rfl) Try.func10
    (ChangeSpec.witness6 (enc := enc) (C := Try.checked) false ⟨#[], #[.agg #[.slice none 0 0, .slice none 0 0, .slice none 0 0, .slice none 0 0, .slice none 0 0, .slice none 0 0, .slice none 0 0, .slice none 0 0, .bool false]], []⟩ 8 (by kernel_rfl) (by kernel_rfl) (by kernel_rfl) (by kernel_rfl)) ?_
  intro W base args ds gs before hval0 hW hcnd hsz0 _
  have hsz : (DataW.weightsEach Try.prog (Try.f10.params.toList ++ Rows.fnExactVerdictOfSpec.plain.varTypes Try.prog) (ds ++ gs)).all (· ≤ reachBytes) = true := hsz0
  have hval : ∀ (j : Nat) t v, Try.f10.params[j]? = some t → args[j]? = some v → Value.okWide Try.prog W .any base t v := hval0
  have hW' := hW
  obtain ⟨p, q, hA0, hV, rfl, hfz, hnd⟩ := hW
  have hA : DataW.TrodAll enc Try.prog W 0 (fun _ => true) true Try.f10.params.toList args.toList ds p := hA0
  rw [Try.params10] at hA hval hsz
  obtain ⟨v0, vs0, d0, ds0, p0, q0, hargs, rfl, rfl, h0, r0⟩ := trodAll_cons hA
  obtain ⟨rfl, rfl, rfl⟩ := trodAll_nil r0
  obtain rfl : args = #[v0] := by cases args; simp_all
  obtain ⟨rfl, rfl⟩ := trodVars_none hV
  have k0 := h0
  have lt0 : ∀ x ∈ p0, x.block < W.heap.size := by obtain ⟨m, hm⟩ := k0; exact DataW.trod_lt m _ _ _ hm
  obtain ⟨y0, hK0, hG0⟩ := Opens.arg op81 h0 (sized_at (j := 0) hsz rfl rfl)
  obtain ⟨cs0, rfl, _⟩ := okWide_struct Try.underlying81 (hval 0 81 v0 rfl rfl)
  clear hA0 hval0 hsz0 hsz
  refine (law_tru co_laws_FnExactVerdictOf Try.func10 r_laws_FnExactVerdictOf (avs := [.agg (cModel y0)]) (VL_cons (V_agg hK0) VL_nil) rfl (law_FnExactVerdictOf y0 hG0)).mono fun e W' ⟨he, bel⟩ => ?_
  subst he
  exact ⟨_, rfl, _, _, _, [], _, [], hW', trodAll_mk1 (shut_bool Try.underlying4 _), (trodAll_cons_mk (Below.trod laidOut (by kernel_rfl) (of_decide_eq_true (by kernel_rfl)) k0 bel lt0) trodAll_mk0), rfl, bel.frame _, fun h => by cases h⟩
theorem and_ {a b : Bool} (h : a = true) (k : b = true) : (a && b) = true := by rw [h, k]; rfl
theorem jf0 : (Rows.fnExactVerdictOfRow.wf (OpenSpec.ofChange Rows.fnExactVerdictOfSpec)) = true := by kernel_rfl
theorem jf1 : (laidOutB Try.prog) = true := by kernel_rfl
theorem jf2 : (mapsRowed Try.prog) = true := by kernel_rfl
theorem jf3 : (Try.f10.params.all (Try.prog.readableRec ·)) = true := by kernel_rfl
theorem jf4 : (namedTie Try.prog Rows.fnExactVerdictOfRow.named Rows.fnExactVerdictOfSpec.vars) = true := by kernel_rfl
theorem jf5 : (Rows.fnExactVerdictOfRow.stops == []) = true := by kernel_rfl
theorem jf6 : (Try.prog.stops == []) = true := by kernel_rfl
theorem jf7 : (Rows.fnExactVerdictOfRow.knobs == []) = true := by kernel_rfl
theorem jf8 : (Try.prog.stopKnobs == []) = true := by kernel_rfl
theorem jf9 : (Rows.fnExactVerdictOfRow.inPlace == Try.prog.inPlace 10) = true := by kernel_rfl
theorem jf10 : (Rows.fnExactVerdictOfRow.unfollowed == Try.prog.unfollowed 10) = true := by kernel_rfl
theorem jf11 : (Rows.fnExactVerdictOfRow.recurses == Try.prog.recurses 10) = true := by kernel_rfl
theorem jf12 : (Rows.fnExactVerdictOfRow.named == Try.prog.varsNamed 10) = true := by kernel_rfl
theorem jf13 : (Rows.fnExactVerdictOfRow.maps == (Try.f10.params.toList ++ Rows.fnExactVerdictOfSpec.plain.varTypes Try.prog).any (Try.prog.mapsRec ·)) = true := by kernel_rfl
theorem jf14 : (Rows.fnExactVerdictOfRow.ifaces == (Try.f10.params.toList ++ Rows.fnExactVerdictOfSpec.plain.varTypes Try.prog).any (Try.prog.ifacesRec ·)) = true := by kernel_rfl
theorem jf15 : (Rows.fnExactVerdictOfRow.mapsOut == Try.prog.mapsAmong Try.f10.resultTypes.toList) = true := by kernel_rfl
theorem jf16 : (Rows.fnExactVerdictOfRow.loops == (Try.f10.params.toList ++ Rows.fnExactVerdictOfSpec.plain.varTypes Try.prog).any (Try.prog.loopsFrom ·)) = true := by kernel_rfl
theorem jf17 : (Rows.fnExactVerdictOfRow.wideKeys == (Try.f10.params.toList ++ Rows.fnExactVerdictOfSpec.plain.varTypes Try.prog ++ Try.f10.resultTypes.toList).any (Try.prog.wideKeysFrom ·)) = true := by kernel_rfl
theorem jf18 : (Rows.fnExactVerdictOfSpec.vars.all (Try.prog.varReadable ·)) = true := by kernel_rfl
theorem jf19 : (Try.f10.resultTypes.all (fun t => Try.prog.readableRec t && decide (t < Try.prog.types.size))) = true := by kernel_rfl
theorem jf20 : (Rows.fnExactVerdictOfRow.ifacesOut == Try.f10.resultTypes.toList.any (Try.prog.ifacesRec ·)) = true := by kernel_rfl
theorem jf21 : (Rows.fnExactVerdictOfRow.loopsOut == Try.f10.resultTypes.toList.any (Try.prog.loopsFrom ·)) = true := by kernel_rfl
theorem jf22 : (Rows.fnExactVerdictOfRow.plainKeys == Try.prog.plainKeys) = true := by kernel_rfl
theorem jf23 : (Rows.fnExactVerdictOfRow.shortTexts.isNone) = true := by kernel_rfl
theorem jf24 : (Try.prog.stopsHeard) = true := by kernel_rfl
theorem jf25 : (Try.prog.mayEnter) = true := by kernel_rfl
theorem jf26 : (Rows.fnExactVerdictOfRow.lifted == Try.prog.liftsFinal) = true := by kernel_rfl
theorem jf27 : (Try.prog.make == some Rows.fnExactVerdictOfRow.make) = true := by kernel_rfl
theorem jf28 : (Rows.fnExactVerdictOfRow.kinds == (if Rows.fnExactVerdictOfRow.domain.isEmpty then [] else Try.f10.params.toList.map fun t => match Try.prog.underlying t with | some (.int k) => some k | _ => none)) = true := by kernel_rfl
theorem jf29 : (Rows.fnExactVerdictOfRow.pinned == Rows.fnExactVerdictOfRow.pinnedBy) = true := by kernel_rfl
theorem jf30 : (Rows.fnExactVerdictOfRow.veiled == (Try.f10.params.toList ++ Rows.fnExactVerdictOfSpec.plain.varTypes Try.prog ++ Try.f10.resultTypes.toList).any (Try.prog.veiledRec ·)) = true := by kernel_rfl
theorem jf31 : (Rows.fnExactVerdictOfRow.veiledFits Try.prog Try.f10.params.toList (Try.f10.params.toList ++ Rows.fnExactVerdictOfSpec.plain.varTypes Try.prog ++ Try.f10.resultTypes.toList)) = true := by kernel_rfl
set_option maxRecDepth 1000000 in
theorem closed : joinedFacts Try.prog 10 Try.f10 Rows.fnExactVerdictOfSpec Rows.fnExactVerdictOfRow = true := by
  unfold joinedFacts
  exact (and_ (and_ (and_ (and_ (and_ (and_ (and_ (and_ (and_ (and_ (and_ (and_ (and_ (and_ (and_ (and_ (and_ (and_ (and_ (and_ (and_ (and_ (and_ (and_ (and_ (and_ (and_ (and_ (and_ (and_ (and_ jf0 jf1) jf2) jf3) jf4) jf5) jf6) jf7) jf8) jf9) jf10) jf11) jf12) jf13) jf14) jf15) jf16) jf17) jf18) jf19) jf20) jf21) jf22) jf23) jf24) jf25) jf26) jf27) jf28) jf29) jf30) jf31)
theorem atName : Try.prog.funcNamed Rows.fnExactVerdictOfRow.func = some 10 := by kernel_rfl
theorem wrapped : Try.f10.isWrapper Try.prog Rows.fnExactVerdictOfRow.wrapper Rows.fnExactVerdictOfRow.mainSum := by unfold Func.isWrapper; first | (rw [if_pos (by decide +kernel)]; kernel_rfl) | (rw [if_neg (by decide +kernel)]; exact ⟨rfl, rfl⟩)
theorem over : Rows.fnExactVerdictOfRow.holds Try.pinned (OpenSpec.ofChange Rows.fnExactVerdictOfSpec) :=
  OpenClaim.holds_of_wide 10 Try.f10 rfl rfl rfl rfl rfl rfl rfl ⟨rfl, rfl, rfl, rfl, rfl⟩ rfl rfl rfl rfl rfl atName Try.func10 closed
    (of_decide_eq_true (by kernel_rfl)) wrapped
    (fun os started H enc _ => lifted os started H enc)
theorem proved : Rows.FnExactVerdictOfSaid := over
#print axioms proved
end Go.Proofs.Ytfecgljlnfoheaa.fnExactVerdictOf
namespace Go.Proofs.Ytfecgljlnfoheaa
/-- The row, under a short name, for the claim. -/
theorem fnExactVerdictOf_holds : Rows.FnExactVerdictOfSaid := fnExactVerdictOf.proved
end Go.Proofs.Ytfecgljlnfoheaa
