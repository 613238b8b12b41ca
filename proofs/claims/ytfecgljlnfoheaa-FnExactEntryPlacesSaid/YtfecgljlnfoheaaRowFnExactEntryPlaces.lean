/- The law FnExactEntryPlaces holds at every argument: its row, out of the law of the reckoner. -/
import Derived.Test.YtfecgljlnfoheaaRows
import Derived.Test.YtfecgljlnfoheaaLFnExactEntryPlaces
import Derived.WalkKit
import Derived.ProofKit
import Derived.KernelRfl
import Derived.OpenShut
import Derived.ShutString
import Derived.ChangeOld
import Derived.Below
import Derived.SizedLaws
namespace Go.Proofs.Ytfecgljlnfoheaa.fnExactEntryPlaces
open Go.Proofs.Ytfecgljlnfoheaa.AI
open Go.ChangeShapes Go.WideShapes Go.ChangeAt Go.RowKit
open Go.ChangeMaps (open_string shut_string)
set_option linter.all false
set_option maxRecDepth 100000
theorem op214 : Opens Try.prog 214 (⟨6, cNode⟩ : Kd DNode) gdNode := opens_G (opens_iso (f := fun b : DNode => (b.Kind, b.Num, b.Name, b.More, b.To, b.Kids)) (fun y => ⟨y.1, y.2.1, y.2.2.1, y.2.2.2.1, y.2.2.2.2.1, y.2.2.2.2.2⟩) (fun _ => rfl) (opens_struct Try.underlying214 (by kernel_rfl) (opensF_cons rfl (by kernel_rfl) (op_int Try.underlying3) (opensF_cons rfl (by kernel_rfl) (op_int Try.underlying3) (opensF_cons rfl (by kernel_rfl) (op_str Try.underlying9) (opensF_cons rfl (by kernel_rfl) (op_str Try.underlying9) (opensF_cons rfl (by kernel_rfl) (op_str Try.underlying9) (opensF_one rfl (by kernel_rfl) (op_sl (k := 1) (B := 8) (c := cI) Try.underlying24 (by kernel_rfl) (by kernel_rfl) (by decide) (by decide) (op_int Try.underlying3)))))))))) (fun _ h => ⟨h.1, h.2.1, h.2.2.1, h.2.2.2.1, h.2.2.2.2.1, h.2.2.2.2.2⟩)
theorem op290 : Opens Try.prog 290 (⟨3, cEntry⟩ : Kd DEntry) gdEntry := opens_G (opens_iso (f := fun b : DEntry => (b.Name, b.Param, b.Body)) (fun y => ⟨y.1, y.2.1, y.2.2⟩) (fun _ => rfl) (opens_struct Try.underlying290 (by kernel_rfl) (opensF_cons rfl (by kernel_rfl) (op_str Try.underlying9) (opensF_cons rfl (by kernel_rfl) (op_str Try.underlying9) (opensF_one rfl (by kernel_rfl) (op_int Try.underlying3)))))) (fun _ h => ⟨h.1, h.2.1, h.2.2⟩)
theorem op218 : Opens Try.prog 218 (⟨4, cMonitor⟩ : Kd DMonitor) gdMonitor := opens_G (opens_iso (f := fun b : DMonitor => (b.Name, b.Vars, b.Queues, b.Entries)) (fun y => ⟨y.1, y.2.1, y.2.2.1, y.2.2.2⟩) (fun _ => rfl) (opens_struct Try.underlying218 (by kernel_rfl) (opensF_cons rfl (by kernel_rfl) (op_str Try.underlying9) (opensF_cons rfl (by kernel_rfl) (op_sl (k := 1) (B := 16) (c := cS) Try.underlying52 (by kernel_rfl) (by kernel_rfl) (by decide) (by decide) (op_str Try.underlying9)) (opensF_cons rfl (by kernel_rfl) (op_sl (k := 1) (B := 16) (c := cS) Try.underlying52 (by kernel_rfl) (by kernel_rfl) (by decide) (by decide) (op_str Try.underlying9)) (opensF_one rfl (by kernel_rfl) (op_sl (k := 3) (B := 40) (c := cEntry) Try.underlying216 (by kernel_rfl) (by kernel_rfl) (by decide) (by decide) op290))))))) (fun _ h => ⟨h.1, h.2.1, h.2.2.1, h.2.2.2⟩)
theorem op220 : Opens Try.prog 220 (⟨4, cProcess⟩ : Kd DProcess) gdProcess := opens_G (opens_iso (f := fun b : DProcess => (b.Name, b.Uses, b.Vars, b.Body)) (fun y => ⟨y.1, y.2.1, y.2.2.1, y.2.2.2⟩) (fun _ => rfl) (opens_struct Try.underlying220 (by kernel_rfl) (opensF_cons rfl (by kernel_rfl) (op_str Try.underlying9) (opensF_cons rfl (by kernel_rfl) (op_sl (k := 1) (B := 16) (c := cS) Try.underlying52 (by kernel_rfl) (by kernel_rfl) (by decide) (by decide) (op_str Try.underlying9)) (opensF_cons rfl (by kernel_rfl) (op_sl (k := 1) (B := 16) (c := cS) Try.underlying52 (by kernel_rfl) (by kernel_rfl) (by decide) (by decide) (op_str Try.underlying9)) (opensF_one rfl (by kernel_rfl) (op_int Try.underlying3))))))) (fun _ h => ⟨h.1, h.2.1, h.2.2.1, h.2.2.2⟩)
theorem op41 : Opens Try.prog 41 (⟨3, cProgram⟩ : Kd DProgram) gdProgram := opens_G (opens_iso (f := fun b : DProgram => (b.Nodes, b.Monitors, b.Processes)) (fun y => ⟨y.1, y.2.1, y.2.2⟩) (fun _ => rfl) (opens_struct Try.underlying41 (by kernel_rfl) (opensF_cons rfl (by kernel_rfl) (op_sl (k := 6) (B := 88) (c := cNode) Try.underlying37 (by kernel_rfl) (by kernel_rfl) (by decide) (by decide) op214) (opensF_cons rfl (by kernel_rfl) (op_sl (k := 4) (B := 88) (c := cMonitor) Try.underlying38 (by kernel_rfl) (by kernel_rfl) (by decide) (by decide) op218) (opensF_one rfl (by kernel_rfl) (op_sl (k := 4) (B := 72) (c := cProcess) Try.underlying39 (by kernel_rfl) (by kernel_rfl) (by decide) (by decide) op220)))))) (fun _ h => ⟨h.1, h.2.1, h.2.2⟩)
theorem own : ownKnob Try.prog.godebug = none := by kernel_rfl
theorem laidOut : laidOutB Try.prog = true := by kernel_rfl
set_option maxHeartbeats 8000000 in
set_option maxRecDepth 100000 in
theorem lifted (os : Os) (started : os.Started) (H : Type) (enc : TypeId × Value → H) :
    ReturnsInHanded {} Try.checked os 7 .any (Rows.fnExactEntryPlacesSpec.pre6 enc Try.prog Try.f7 Rows.fnExactEntryPlacesRow.domain false) (Rows.fnExactEntryPlacesSpec.post enc Try.prog Try.f7 false true false false) := by
  refine returnsInHanded_of_change_sized (C := Try.checked) own started (by kernel_rfl) Try.func7
    (ChangeSpec.witness6 (enc := enc) (C := Try.checked) false ⟨#[], #[.agg #[.slice none 0 0, .slice none 0 0, .slice none 0 0], .int .i64 0, .int .i64 0, .int .i64 0], []⟩ 8 (by kernel_rfl) (by kernel_rfl) (by kernel_rfl) (by kernel_rfl)) ?_
  intro W base args ds gs before hval0 hW hcnd hsz0 _
  have hsz : (DataW.weightsEach Try.prog (Try.f7.params.toList ++ Rows.fnExactEntryPlacesSpec.plain.varTypes Try.prog) (ds ++ gs)).all (· ≤ reachBytes) = true := hsz0
  have hval : ∀ (j : Nat) t v, Try.f7.params[j]? = some t → args[j]? = some v → Value.okWide Try.prog W .any base t v := hval0
  have hW' := hW
  obtain ⟨p, q, hA0, hV, rfl, hfz, hnd⟩ := hW
  have hA : DataW.TrodAll enc Try.prog W 0 (fun _ => true) true Try.f7.params.toList args.toList ds p := hA0
  rw [Try.params7] at hA hval hsz
  obtain ⟨v0, vs0, d0, ds0, p0, q0, hargs, rfl, rfl, h0, r0⟩ := trodAll_cons hA
  obtain ⟨v1, vs1, d1, ds1, p1, q1, rfl, rfl, rfl, h1, r1⟩ := trodAll_cons r0
  obtain ⟨v2, vs2, d2, ds2, p2, q2, rfl, rfl, rfl, h2, r2⟩ := trodAll_cons r1
  obtain ⟨v3, vs3, d3, ds3, p3, q3, rfl, rfl, rfl, h3, r3⟩ := trodAll_cons r2
  obtain ⟨rfl, rfl, rfl⟩ := trodAll_nil r3
  obtain rfl : args = #[v0, v1, v2, v3] := by cases args; simp_all
  obtain ⟨rfl, rfl⟩ := trodVars_none hV
  have k0 := h0
  have lt0 : ∀ x ∈ p0, x.block < W.heap.size := by obtain ⟨m, hm⟩ := k0; exact DataW.trod_lt m _ _ _ hm
  obtain ⟨y0, hK0, hG0⟩ := Opens.arg op41 h0 (sized_at (j := 0) hsz rfl rfl)
  obtain ⟨cs0, rfl, _⟩ := okWide_struct Try.underlying41 (hval 0 41 v0 rfl rfl)
  obtain ⟨a1, rfl, rfl, rfl, w1⟩ := open_int Try.underlying3 (hval 1 3 v1 rfl rfl) h1
  obtain ⟨a2, rfl, rfl, rfl, w2⟩ := open_int Try.underlying3 (hval 2 3 v2 rfl rfl) h2
  obtain ⟨a3, rfl, rfl, rfl, w3⟩ := open_int Try.underlying3 (hval 3 3 v3 rfl rfl) h3
  clear hA0 hval0 hsz0 hsz
  refine (law_tru co_laws_FnExactEntryPlaces Try.func7 r_laws_FnExactEntryPlaces (avs := [.agg (cProgram y0), .int .i64 a1, .int .i64 a2, .int .i64 a3]) (VL_cons (V_agg hK0) (VL_cons V_intR (VL_cons V_intR (VL_cons V_intR VL_nil)))) rfl (law_FnExactEntryPlaces y0 hG0 a1 (i64_of w1) a2 (i64_of w2) a3 (i64_of w3))).mono fun e W' ⟨he, bel⟩ => ?_
  subst he
  exact ⟨_, rfl, _, _, _, [], _, [], hW', trodAll_mk1 (shut_bool Try.underlying4 _), (trodAll_cons_mk (Below.trod laidOut (by kernel_rfl) (of_decide_eq_true (by kernel_rfl)) k0 bel lt0) (trodAll_cons_mk (shut_int Try.underlying3 w1) (trodAll_cons_mk (shut_int Try.underlying3 w2) (trodAll_cons_mk (shut_int Try.underlying3 w3) trodAll_mk0)))), rfl, bel.frame _, fun h => by cases h⟩
theorem and_ {a b : Bool} (h : a = true) (k : b = true) : (a && b) = true := by rw [h, k]; rfl
theorem jf0 : (Rows.fnExactEntryPlacesRow.wf (OpenSpec.ofChange Rows.fnExactEntryPlacesSpec)) = true := by kernel_rfl
theorem jf1 : (laidOutB Try.prog) = true := by kernel_rfl
theorem jf2 : (mapsRowed Try.prog) = true := by kernel_rfl
theorem jf3 : (Try.f7.params.all (Try.prog.readableRec ·)) = true := by kernel_rfl
theorem jf4 : (namedTie Try.prog Rows.fnExactEntryPlacesRow.named Rows.fnExactEntryPlacesSpec.vars) = true := by kernel_rfl
theorem jf5 : (Rows.fnExactEntryPlacesRow.stops == []) = true := by kernel_rfl
theorem jf6 : (Try.prog.stops == []) = true := by kernel_rfl
theorem jf7 : (Rows.fnExactEntryPlacesRow.knobs == []) = true := by kernel_rfl
theorem jf8 : (Try.prog.stopKnobs == []) = true := by kernel_rfl
theorem jf9 : (Rows.fnExactEntryPlacesRow.inPlace == Try.prog.inPlace 7) = true := by kernel_rfl
theorem jf10 : (Rows.fnExactEntryPlacesRow.unfollowed == Try.prog.unfollowed 7) = true := by kernel_rfl
theorem jf11 : (Rows.fnExactEntryPlacesRow.recurses == Try.prog.recurses 7) = true := by kernel_rfl
theorem jf12 : (Rows.fnExactEntryPlacesRow.named == Try.prog.varsNamed 7) = true := by kernel_rfl
theorem jf13 : (Rows.fnExactEntryPlacesRow.maps == (Try.f7.params.toList ++ Rows.fnExactEntryPlacesSpec.plain.varTypes Try.prog).any (Try.prog.mapsRec ·)) = true := by kernel_rfl
theorem jf14 : (Rows.fnExactEntryPlacesRow.ifaces == (Try.f7.params.toList ++ Rows.fnExactEntryPlacesSpec.plain.varTypes Try.prog).any (Try.prog.ifacesRec ·)) = true := by kernel_rfl
theorem jf15 : (Rows.fnExactEntryPlacesRow.mapsOut == Try.prog.mapsAmong Try.f7.resultTypes.toList) = true := by kernel_rfl
theorem jf16 : (Rows.fnExactEntryPlacesRow.loops == (Try.f7.params.toList ++ Rows.fnExactEntryPlacesSpec.plain.varTypes Try.prog).any (Try.prog.loopsFrom ·)) = true := by kernel_rfl
theorem jf17 : (Rows.fnExactEntryPlacesRow.wideKeys == (Try.f7.params.toList ++ Rows.fnExactEntryPlacesSpec.plain.varTypes Try.prog ++ Try.f7.resultTypes.toList).any (Try.prog.wideKeysFrom ·)) = true := by kernel_rfl
theorem jf18 : (Rows.fnExactEntryPlacesSpec.vars.all (Try.prog.varReadable ·)) = true := by kernel_rfl
theorem jf19 : (Try.f7.resultTypes.all (fun t => Try.prog.readableRec t && decide (t < Try.prog.types.size))) = true := by kernel_rfl
theorem jf20 : (Rows.fnExactEntryPlacesRow.ifacesOut == Try.f7.resultTypes.toList.any (Try.prog.ifacesRec ·)) = true := by kernel_rfl
theorem jf21 : (Rows.fnExactEntryPlacesRow.loopsOut == Try.f7.resultTypes.toList.any (Try.prog.loopsFrom ·)) = true := by kernel_rfl
theorem jf22 : (Rows.fnExactEntryPlacesRow.plainKeys == Try.prog.plainKeys) = true := by kernel_rfl
theorem jf23 : (Rows.fnExactEntryPlacesRow.shortTexts.isNone) = true := by kernel_rfl
theorem jf24 : (Try.prog.stopsHeard) = true := by kernel_rfl
theorem jf25 : (Try.prog.mayEnter) = true := by kernel_rfl
theorem jf26 : (Rows.fnExactEntryPlacesRow.lifted == Try.prog.liftsFinal) = true := by kernel_rfl
theorem jf27 : (Try.prog.make == some Rows.fnExactEntryPlacesRow.make) = true := by kernel_rfl
theorem jf28 : (Rows.fnExactEntryPlacesRow.kinds == (if Rows.fnExactEntryPlacesRow.domain.isEmpty then [] else Try.f7.params.toList.map fun t => match Try.prog.underlying t with | some (.int k) => some k | _ => none)) = true := by kernel_rfl
theorem jf29 : (Rows.fnExactEntryPlacesRow.pinned == Rows.fnExactEntryPlacesRow.pinnedBy) = true := by kernel_rfl
theorem jf30 : (Rows.fnExactEntryPlacesRow.veiled == (Try.f7.params.toList ++ Rows.fnExactEntryPlacesSpec.plain.varTypes Try.prog ++ Try.f7.resultTypes.toList).any (Try.prog.veiledRec ·)) = true := by kernel_rfl
theorem jf31 : (Rows.fnExactEntryPlacesRow.veiledFits Try.prog Try.f7.params.toList (Try.f7.params.toList ++ Rows.fnExactEntryPlacesSpec.plain.varTypes Try.prog ++ Try.f7.resultTypes.toList)) = true := by kernel_rfl
set_option maxRecDepth 1000000 in
theorem closed : joinedFacts Try.prog 7 Try.f7 Rows.fnExactEntryPlacesSpec Rows.fnExactEntryPlacesRow = true := by
  unfold joinedFacts
  exact (and_ (and_ (and_ (and_ (and_ (and_ (and_ (and_ (and_ (and_ (and_ (and_ (and_ (and_ (and_ (and_ (and_ (and_ (and_ (and_ (and_ (and_ (and_ (and_ (and_ (and_ (and_ (and_ (and_ (and_ (and_ jf0 jf1) jf2) jf3) jf4) jf5) jf6) jf7) jf8) jf9) jf10) jf11) jf12) jf13) jf14) jf15) jf16) jf17) jf18) jf19) jf20) jf21) jf22) jf23) jf24) jf25) jf26) jf27) jf28) jf29) jf30) jf31)
theorem atName : Try.prog.funcNamed Rows.fnExactEntryPlacesRow.func = some 7 := by kernel_rfl
theorem wrapped : Try.f7.isWrapper Try.prog Rows.fnExactEntryPlacesRow.wrapper Rows.fnExactEntryPlacesRow.mainSum := by unfold Func.isWrapper; first | (rw [if_pos (by decide +kernel)]; kernel_rfl) | (rw [if_neg (by decide +kernel)]; exact ⟨rfl, rfl⟩)
theorem over : Rows.fnExactEntryPlacesRow.holds Try.pinned (OpenSpec.ofChange Rows.fnExactEntryPlacesSpec) :=
  OpenClaim.holds_of_wide 7 Try.f7 rfl rfl rfl rfl rfl rfl rfl ⟨rfl, rfl, rfl, rfl, rfl⟩ rfl rfl rfl rfl rfl atName Try.func7 closed
    (of_decide_eq_true (by kernel_rfl)) wrapped
    (fun os started H enc _ => lifted os started H enc)
theorem proved : Rows.FnExactEntryPlacesSaid := over
#print axioms proved
end Go.Proofs.Ytfecgljlnfoheaa.fnExactEntryPlaces
namespace Go.Proofs.Ytfecgljlnfoheaa
/-- The row, under a short name, for the claim. -/
theorem fnExactEntryPlaces_holds : Rows.FnExactEntryPlacesSaid := fnExactEntryPlaces.proved
end Go.Proofs.Ytfecgljlnfoheaa
