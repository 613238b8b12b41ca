/- The law FnExactRegsOf holds at every argument: its row, out of the law of the reckoner. -/
import Derived.Test.YtdhmlhlpdejefaaRows
import Derived.Test.YtdhmlhlpdejefaaLFnExactRegsOf
import Derived.WalkKit
import Derived.ProofKit
import Derived.KernelRfl
import Derived.OpenShut
import Derived.ShutString
import Derived.ChangeOld
import Derived.Below
import Derived.SizedLaws
namespace Go.Proofs.Ytdhmlhlpdejefaa.fnExactRegsOf
open Go.Proofs.Ytdhmlhlpdejefaa.AI
open Go.ChangeShapes Go.WideShapes Go.ChangeAt Go.RowKit
open Go.ChangeMaps (open_string shut_string)
set_option linter.all false
set_option maxRecDepth 100000
theorem op143 : Opens Try.prog 143 (⟨6, cNode⟩ : Kd DNode) gdNode := opens_G (opens_iso (f := fun b : DNode => (b.Kind, b.Num, b.Name, b.More, b.To, b.Kids)) (fun y => ⟨y.1, y.2.1, y.2.2.1, y.2.2.2.1, y.2.2.2.2.1, y.2.2.2.2.2⟩) (fun _ => rfl) (opens_struct Try.underlying143 (by kernel_rfl) (opensF_cons rfl (by kernel_rfl) (op_int Try.underlying3) (opensF_cons rfl (by kernel_rfl) (op_int Try.underlying3) (opensF_cons rfl (by kernel_rfl) (op_str Try.underlying9) (opensF_cons rfl (by kernel_rfl) (op_str Try.underlying9) (opensF_cons rfl (by kernel_rfl) (op_str Try.underlying9) (opensF_one rfl (by kernel_rfl) (op_sl (k := 1) (B := 8) (c := cI) Try.underlying24 (by kernel_rfl) (by kernel_rfl) (by decide) (by decide) (op_int Try.underlying3)))))))))) (fun _ h => ⟨h.1, h.2.1, h.2.2.1, h.2.2.2.1, h.2.2.2.2.1, h.2.2.2.2.2⟩)
theorem op181 : Opens Try.prog 181 (⟨3, cEntry⟩ : Kd DEntry) gdEntry := opens_G (opens_iso (f := fun b : DEntry => (b.Name, b.Param, b.Body)) (fun y => ⟨y.1, y.2.1, y.2.2⟩) (fun _ => rfl) (opens_struct Try.underlying181 (by kernel_rfl) (opensF_cons rfl (by kernel_rfl) (op_str Try.underlying9) (opensF_cons rfl (by kernel_rfl) (op_str Try.underlying9) (opensF_one rfl (by kernel_rfl) (op_int Try.underlying3)))))) (fun _ h => ⟨h.1, h.2.1, h.2.2⟩)
theorem op147 : Opens Try.prog 147 (⟨4, cMonitor⟩ : Kd DMonitor) gdMonitor := opens_G (opens_iso (f := fun b : DMonitor => (b.Name, b.Vars, b.Queues, b.Entries)) (fun y => ⟨y.1, y.2.1, y.2.2.1, y.2.2.2⟩) (fun _ => rfl) (opens_struct Try.underlying147 (by kernel_rfl) (opensF_cons rfl (by kernel_rfl) (op_str Try.underlying9) (opensF_cons rfl (by kernel_rfl) (op_sl (k := 1) (B := 16) (c := cS) Try.underlying52 (by kernel_rfl) (by kernel_rfl) (by decide) (by decide) (op_str Try.underlying9)) (opensF_cons rfl (by kernel_rfl) (op_sl (k := 1) (B := 16) (c := cS) Try.underlying52 (by kernel_rfl) (by kernel_rfl) (by decide) (by decide) (op_str Try.underlying9)) (opensF_one rfl (by kernel_rfl) (op_sl (k := 3) (B := 40) (c := cEntry) Try.underlying145 (by kernel_rfl) (by kernel_rfl) (by decide) (by decide) op181))))))) (fun _ h => ⟨h.1, h.2.1, h.2.2.1, h.2.2.2⟩)
theorem op150 : Opens Try.prog 150 (⟨4, cProcess⟩ : Kd DProcess) gdProcess := opens_G (opens_iso (f := fun b : DProcess => (b.Name, b.Uses, b.Vars, b.Body)) (fun y => ⟨y.1, y.2.1, y.2.2.1, y.2.2.2⟩) (fun _ => rfl) (opens_struct Try.underlying150 (by kernel_rfl) (opensF_cons rfl (by kernel_rfl) (op_str Try.underlying9) (opensF_cons rfl (by kernel_rfl) (op_sl (k := 1) (B := 16) (c := cS) Try.underlying52 (by kernel_rfl) (by kernel_rfl) (by decide) (by decide) (op_str Try.underlying9)) (opensF_cons rfl (by kernel_rfl) (op_sl (k := 1) (B := 16) (c := cS) Try.underlying52 (by kernel_rfl) (by kernel_rfl) (by decide) (by decide) (op_str Try.underlying9)) (opensF_one rfl (by kernel_rfl) (op_int Try.underlying3))))))) (fun _ h => ⟨h.1, h.2.1, h.2.2.1, h.2.2.2⟩)
theorem op41 : Opens Try.prog 41 (⟨3, cProgram⟩ : Kd DProgram) gdProgram := opens_G (opens_iso (f := fun b : DProgram => (b.Nodes, b.Monitors, b.Processes)) (fun y => ⟨y.1, y.2.1, y.2.2⟩) (fun _ => rfl) (opens_struct Try.underlying41 (by kernel_rfl) (opensF_cons rfl (by kernel_rfl) (op_sl (k := 6) (B := 88) (c := cNode) Try.underlying37 (by kernel_rfl) (by kernel_rfl) (by decide) (by decide) op143) (opensF_cons rfl (by kernel_rfl) (op_sl (k := 4) (B := 88) (c := cMonitor) Try.underlying38 (by kernel_rfl) (by kernel_rfl) (by decide) (by decide) op147) (opensF_one rfl (by kernel_rfl) (op_sl (k := 4) (B := 72) (c := cProcess) Try.underlying39 (by kernel_rfl) (by kernel_rfl) (by decide) (by decide) op150)))))) (fun _ h => ⟨h.1, h.2.1, h.2.2⟩)
theorem own : ownKnob Try.prog.godebug = none := by kernel_rfl
theorem laidOut : laidOutB Try.prog = true := by kernel_rfl
set_option maxHeartbeats 8000000 in
set_option maxRecDepth 100000 in
theorem lifted (os : Os) (started : os.Started) (H : Type) (enc : TypeId × Value → H) :
    ReturnsInHanded {} Try.checked os 4 .any (Rows.fnExactRegsOfSpec.pre6 enc Try.prog Try.f4 Rows.fnExactRegsOfRow.domain false) (Rows.fnExactRegsOfSpec.post enc Try.prog Try.f4 false true false false) := by
  refine returnsInHanded_of_change_sized (C := Try.checked) own started (by kernel_rfl) Try.func4
    (ChangeSpec.witness6 (enc := enc) (C := Try.checked) false ⟨#[], #[.agg #[.slice none 0 0, .slice none 0 0, .slice none 0 0], .int .i64 0], []⟩ 8 (by kernel_rfl) (by kernel_rfl) (by kernel_rfl) (by kernel_rfl)) ?_
  intro W base args ds gs before hval0 hW hcnd hsz0 _
  have hsz : (DataW.weightsEach Try.prog (Try.f4.params.toList ++ Rows.fnExactRegsOfSpec.plain.varTypes Try.prog) (ds ++ gs)).all (· ≤ reachBytes) = true := hsz0
  have hval : ∀ (j : Nat) t v, Try.f4.params[j]? = some t → args[j]? = some v → Value.okWide Try.prog W .any base t v := hval0
  have hW' := hW
  obtain ⟨p, q, hA0, hV, rfl, hfz, hnd⟩ := hW
  have hA : DataW.TrodAll enc Try.prog W 0 (fun _ => true) true Try.f4.params.toList args.toList ds p := hA0
  rw [Try.params4] at hA hval hsz
  obtain ⟨v0, vs0, d0, ds0, p0, q0, hargs, rfl, rfl, h0, r0⟩ := trodAll_cons hA
  obtain ⟨v1, vs1, d1, ds1, p1, q1, rfl, rfl, rfl, h1, r1⟩ := trodAll_cons r0
  obtain ⟨rfl, rfl, rfl⟩ := trodAll_nil r1
  obtain rfl : args = #[v0, v1] := by cases args; simp_all
  obtain ⟨rfl, rfl⟩ := trodVars_none hV
  have k0 := h0
  have lt0 : ∀ x ∈ p0, x.block < W.heap.size := by obtain ⟨m, hm⟩ := k0; exact DataW.trod_lt m _ _ _ hm
  obtain ⟨y0, hK0, hG0⟩ := Opens.arg op41 h0 (sized_at (j := 0) hsz rfl rfl)
  obtain ⟨cs0, rfl, _⟩ := okWide_struct Try.underlying41 (hval 0 41 v0 rfl rfl)
  obtain ⟨a1, rfl, rfl, rfl, w1⟩ := open_int Try.underlying3 (hval 1 3 v1 rfl rfl) h1
  clear hA0 hval0 hsz0 hsz
  refine (law_tru co_laws_FnExactRegsOf Try.func4 r_laws_FnExactRegsOf (avs := [.agg (cProgram y0), .int .i64 a1]) (VL_cons (V_agg hK0) (VL_cons V_intR VL_nil)) rfl (law_FnExactRegsOf y0 hG0 a1 (i64_of w1))).mono fun e W' ⟨he, bel⟩ => ?_
  subst he
  exact ⟨_, rfl, _, _, _, [], _, [], hW', trodAll_mk1 (shut_bool Try.underlying4 _), (trodAll_cons_mk (Below.trod laidOut (by kernel_rfl) (of_decide_eq_true (by kernel_rfl)) k0 bel lt0) (trodAll_cons_mk (shut_int Try.underlying3 w1) trodAll_mk0)), rfl, bel.frame _, fun h => by cases h⟩
theorem and_ {a b : Bool} (h : a = true) (k : b = true) : (a && b) = true := by rw [h, k]; rfl
theorem jf0 : (Rows.fnExactRegsOfRow.wf (OpenSpec.ofChange Rows.fnExactRegsOfSpec)) = true := by kernel_rfl
theorem jf1 : (laidOutB Try.prog) = true := by kernel_rfl
theorem jf2 : (mapsRowed Try.prog) = true := by kernel_rfl
theorem jf3 : (Try.f4.params.all (Try.prog.readableRec ·)) = true := by kernel_rfl
theorem jf4 : (namedTie Try.prog Rows.fnExactRegsOfRow.named Rows.fnExactRegsOfSpec.vars) = true := by kernel_rfl
theorem jf5 : (Rows.fnExactRegsOfRow.stops == []) = true := by kernel_rfl
theorem jf6 : (Try.prog.stops == []) = true := by kernel_rfl
theorem jf7 : (Rows.fnExactRegsOfRow.knobs == []) = true := by kernel_rfl
theorem jf8 : (Try.prog.stopKnobs == []) = true := by kernel_rfl
theorem jf9 : (Rows.fnExactRegsOfRow.inPlace == Try.prog.inPlace 4) = true := by kernel_rfl
theorem jf10 : (Rows.fnExactRegsOfRow.unfollowed == Try.prog.unfollowed 4) = true := by kernel_rfl
theorem jf11 : (Rows.fnExactRegsOfRow.recurses == Try.prog.recurses 4) = true := by kernel_rfl
theorem jf12 : (Rows.fnExactRegsOfRow.named == Try.prog.varsNamed 4) = true := by kernel_rfl
theorem jf13 : (Rows.fnExactRegsOfRow.maps == (Try.f4.params.toList ++ Rows.fnExactRegsOfSpec.plain.varTypes Try.prog).any (Try.prog.mapsRec ·)) = true := by kernel_rfl
theorem jf14 : (Rows.fnExactRegsOfRow.ifaces == (Try.f4.params.toList ++ Rows.fnExactRegsOfSpec.plain.varTypes Try.prog).any (Try.prog.ifacesRec ·)) = true := by kernel_rfl
theorem jf15 : (Rows.fnExactRegsOfRow.mapsOut == Try.prog.mapsAmong Try.f4.resultTypes.toList) = true := by kernel_rfl
theorem jf16 : (Rows.fnExactRegsOfRow.loops == (Try.f4.params.toList ++ Rows.fnExactRegsOfSpec.plain.varTypes Try.prog).any (Try.prog.loopsFrom ·)) = true := by kernel_rfl
theorem jf17 : (Rows.fnExactRegsOfRow.wideKeys == (Try.f4.params.toList ++ Rows.fnExactRegsOfSpec.plain.varTypes Try.prog ++ Try.f4.resultTypes.toList).any (Try.prog.wideKeysFrom ·)) = true := by kernel_rfl
theorem jf18 : (Rows.fnExactRegsOfSpec.vars.all (Try.prog.varReadable ·)) = true := by kernel_rfl
theorem jf19 : (Try.f4.resultTypes.all (fun t => Try.prog.readableRec t && decide (t < Try.prog.types.size))) = true := by kernel_rfl
theorem jf20 : (Rows.fnExactRegsOfRow.ifacesOut == Try.f4.resultTypes.toList.any (Try.prog.ifacesRec ·)) = true := by kernel_rfl
theorem jf21 : (Rows.fnExactRegsOfRow.loopsOut == Try.f4.resultTypes.toList.any (Try.prog.loopsFrom ·)) = true := by kernel_rfl
theorem jf22 : (Rows.fnExactRegsOfRow.plainKeys == Try.prog.plainKeys) = true := by kernel_rfl
theorem jf23 : (Rows.fnExactRegsOfRow.shortTexts.isNone) = true := by kernel_rfl
theorem jf24 : (Try.prog.stopsHeard) = true := by kernel_rfl
theorem jf25 : (Try.prog.mayEnter) = true := by kernel_rfl
theorem jf26 : (Rows.fnExactRegsOfRow.lifted == Try.prog.liftsFinal) = true := by kernel_rfl
theorem jf27 : (Try.prog.make == some Rows.fnExactRegsOfRow.make) = true := by kernel_rfl
theorem jf28 : (Rows.fnExactRegsOfRow.kinds == (if Rows.fnExactRegsOfRow.domain.isEmpty then [] else Try.f4.params.toList.map fun t => match Try.prog.underlying t with | some (.int k) => some k | _ => none)) = true := by kernel_rfl
theorem jf29 : (Rows.fnExactRegsOfRow.pinned == Rows.fnExactRegsOfRow.pinnedBy) = true := by kernel_rfl
theorem jf30 : (Rows.fnExactRegsOfRow.veiled == (Try.f4.params.toList ++ Rows.fnExactRegsOfSpec.plain.varTypes Try.prog ++ Try.f4.resultTypes.toList).any (Try.prog.veiledRec ·)) = true := by kernel_rfl
theorem jf31 : (Rows.fnExactRegsOfRow.veiledFits Try.prog Try.f4.params.toList (Try.f4.params.toList ++ Rows.fnExactRegsOfSpec.plain.varTypes Try.prog ++ Try.f4.resultTypes.toList)) = true := by kernel_rfl
set_option maxRecDepth 1000000 in
theorem closed : joinedFacts Try.prog 4 Try.f4 Rows.fnExactRegsOfSpec Rows.fnExactRegsOfRow = true := by
  unfold joinedFacts
  exact (and_ (and_ (and_ (and_ (and_ (and_ (and_ (and_ (and_ (and_ (and_ (and_ (and_ (and_ (and_ (and_ (and_ (and_ (and_ (and_ (and_ (and_ (and_ (and_ (and_ (and_ (and_ (and_ (and_ (and_ (and_ jf0 jf1) jf2) jf3) jf4) jf5) jf6) jf7) jf8) jf9) jf10) jf11) jf12) jf13) jf14) jf15) jf16) jf17) jf18) jf19) jf20) jf21) jf22) jf23) jf24) jf25) jf26) jf27) jf28) jf29) jf30) jf31)
theorem atName : Try.prog.funcNamed Rows.fnExactRegsOfRow.func = some 4 := by kernel_rfl
theorem wrapped : Try.f4.isWrapper Try.prog Rows.fnExactRegsOfRow.wrapper Rows.fnExactRegsOfRow.mainSum := by unfold Func.isWrapper; first | (rw [if_pos (by decide +kernel)]; kernel_rfl) | (rw [if_neg (by decide +kernel)]; exact ⟨rfl, rfl⟩)
theorem over : Rows.fnExactRegsOfRow.holds Try.pinned (OpenSpec.ofChange Rows.fnExactRegsOfSpec) :=
  OpenClaim.holds_of_wide 4 Try.f4 rfl rfl rfl rfl rfl rfl rfl ⟨rfl, rfl, rfl, rfl, rfl⟩ rfl rfl rfl rfl rfl atName Try.func4 closed
    (of_decide_eq_true (by kernel_rfl)) wrapped
    (fun os started H enc _ => lifted os started H enc)
theorem proved : Rows.FnExactRegsOfSaid := over
#print axioms proved
end Go.Proofs.Ytdhmlhlpdejefaa.fnExactRegsOf
namespace Go.Proofs.Ytdhmlhlpdejefaa
/-- The row, under a short name, for the claim. -/
theorem fnExactRegsOf_holds : Rows.FnExactRegsOfSaid := fnExactRegsOf.proved
end Go.Proofs.Ytdhmlhlpdejefaa
