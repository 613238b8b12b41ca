/- The law FnExactStepCore holds at every argument: its row, out of the law of the reckoner. -/
import Derived.Test.YthdbglhdadinkaaRows
import Derived.Test.YthdbglhdadinkaaLFnExactStepCore
import Derived.WalkKit
import Derived.ProofKit
import Derived.KernelRfl
import Derived.OpenShut
import Derived.ShutString
import Derived.ChangeOld
import Derived.Below
import Derived.SizedLaws
namespace Go.Proofs.Ythdbglhdadinkaa.fnExactStepCore
open Go.Proofs.Ythdbglhdadinkaa.AI
open Go.ChangeShapes Go.WideShapes Go.ChangeAt Go.RowKit
open Go.ChangeMaps (open_string shut_string)
set_option linter.all false
set_option maxRecDepth 100000
theorem op52 : Opens Try.prog 52 (⟨3, cCore⟩ : Kd DCore) gdCore := opens_G (opens_iso (f := fun b : DCore => (b.Regs, b.Pc, b.Process)) (fun y => ⟨y.1, y.2.1, y.2.2⟩) (fun _ => rfl) (opens_struct Try.underlying52 (by kernel_rfl) (opensF_cons rfl (by kernel_rfl) (op_sl (k := 1) (B := 8) (c := cI) Try.underlying22 (by kernel_rfl) (by kernel_rfl) (by decide) (by decide) (op_int Try.underlying3)) (opensF_cons rfl (by kernel_rfl) (op_int Try.underlying3) (opensF_one rfl (by kernel_rfl) (op_int Try.underlying3)))))) (fun _ h => ⟨h.1, h.2.1, h.2.2⟩)
theorem own : ownKnob Try.prog.godebug = none := by kernel_rfl
theorem laidOut : laidOutB Try.prog = true := by kernel_rfl
set_option maxHeartbeats 8000000 in
set_option maxRecDepth 100000 in
theorem lifted (os : Os) (started : os.Started) (H : Type) (enc : TypeId × Value → H) :
    ReturnsInHanded {} Try.checked os 6 .any (Rows.fnExactStepCoreSpec.pre6 enc Try.prog Try.f6 Rows.fnExactStepCoreRow.domain false) (Rows.fnExactStepCoreSpec.post enc Try.prog Try.f6 false true false false) := by
  refine returnsInHanded_of_change_sized (C := Try.checked) own started (by kernel_rfl) Try.func6
    (ChangeSpec.witness6 (enc := enc) (C := Try.checked) false ⟨#[], #[.agg #[.slice none 0 0, .int .i64 0, .int .i64 0], .slice none 0 0, .slice none 0 0], []⟩ 8 (by kernel_rfl) (by kernel_rfl) (by kernel_rfl) (by kernel_rfl)) ?_
  intro W base args ds gs before hval0 hW hcnd hsz0 _
  have hsz : (DataW.weightsEach Try.prog (Try.f6.params.toList ++ Rows.fnExactStepCoreSpec.plain.varTypes Try.prog) (ds ++ gs)).all (· ≤ reachBytes) = true := hsz0
  have hval : ∀ (j : Nat) t v, Try.f6.params[j]? = some t → args[j]? = some v → Value.okWide Try.prog W .any base t v := hval0
  have hW' := hW
  obtain ⟨p, q, hA0, hV, rfl, hfz, hnd⟩ := hW
  have hA : DataW.TrodAll enc Try.prog W 0 (fun _ => true) true Try.f6.params.toList args.toList ds p := hA0
  rw [Try.params6] at hA hval hsz
  obtain ⟨v0, vs0, d0, ds0, p0, q0, hargs, rfl, rfl, h0, r0⟩ := trodAll_cons hA
  obtain ⟨v1, vs1, d1, ds1, p1, q1, rfl, rfl, rfl, h1, r1⟩ := trodAll_cons r0
  obtain ⟨v2, vs2, d2, ds2, p2, q2, rfl, rfl, rfl, h2, r2⟩ := trodAll_cons r1
  obtain ⟨rfl, rfl, rfl⟩ := trodAll_nil r2
  obtain rfl : args = #[v0, v1, v2] := by cases args; simp_all
  obtain ⟨rfl, rfl⟩ := trodVars_none hV
  have k0 := h0
  have lt0 : ∀ x ∈ p0, x.block < W.heap.size := by obtain ⟨m, hm⟩ := k0; exact DataW.trod_lt m _ _ _ hm
  obtain ⟨y0, hK0, hG0⟩ := Opens.arg op52 h0 (sized_at (j := 0) hsz rfl rfl)
  obtain ⟨cs0, rfl, _⟩ := okWide_struct Try.underlying52 (hval 0 52 v0 rfl rfl)
  have k1 := h1
  have lt1 : ∀ x ∈ p1, x.block < W.heap.size := by obtain ⟨m, hm⟩ := k1; exact DataW.trod_lt m _ _ _ hm
  obtain ⟨y1, hK1, hG1⟩ := Opens.arg (op_sl (k := 1) (B := 8) (c := cI) Try.underlying22 (by kernel_rfl) (by kernel_rfl) (by decide) (by decide) (op_int Try.underlying3)) h1 (sized_at (j := 1) hsz rfl rfl)
  obtain ⟨a1, len1, cap1, rfl⟩ := okWide_slice Try.underlying22 (hval 1 22 v1 rfl rfl)
  have k2 := h2
  have lt2 : ∀ x ∈ p2, x.block < W.heap.size := by obtain ⟨m, hm⟩ := k2; exact DataW.trod_lt m _ _ _ hm
  obtain ⟨y2, hK2, hG2⟩ := Opens.arg (op_sl (k := 1) (B := 8) (c := cI) Try.underlying22 (by kernel_rfl) (by kernel_rfl) (by decide) (by decide) (op_int Try.underlying3)) h2 (sized_at (j := 2) hsz rfl rfl)
  obtain ⟨a2, len2, cap2, rfl⟩ := okWide_slice Try.underlying22 (hval 2 22 v2 rfl rfl)
  clear hA0 hval0 hsz0 hsz
  refine (law_tru co_laws_FnExactStepCore Try.func6 r_laws_FnExactStepCore (avs := [.agg (cCore y0), .tree 1 (y1.map cI), .tree 1 (y2.map cI)]) (VL_cons (V_agg hK0) (VL_cons (V_cell1 hK1 rfl) (VL_cons (V_cell1 hK2 rfl) VL_nil))) rfl (law_FnExactStepCore y0 hG0 y1 hG1 y2 hG2)).mono fun e W' ⟨he, bel⟩ => ?_
  subst he
  exact ⟨_, rfl, _, _, _, [], _, [], hW', trodAll_mk1 (shut_bool Try.underlying4 _), (trodAll_cons_mk (Below.trod laidOut (by kernel_rfl) (of_decide_eq_true (by kernel_rfl)) k0 bel lt0) (trodAll_cons_mk (Below.trod laidOut (by kernel_rfl) (of_decide_eq_true (by kernel_rfl)) k1 bel lt1) (trodAll_cons_mk (Below.trod laidOut (by kernel_rfl) (of_decide_eq_true (by kernel_rfl)) k2 bel lt2) trodAll_mk0))), rfl, bel.frame _, fun h => by cases h⟩
theorem and_ {a b : Bool} (h : a = true) (k : b = true) : (a && b) = true := by rw [h, k]; rfl
theorem jf0 : (Rows.fnExactStepCoreRow.wf (OpenSpec.ofChange Rows.fnExactStepCoreSpec)) = true := by kernel_rfl
theorem jf1 : (laidOutB Try.prog) = true := by kernel_rfl
theorem jf2 : (mapsRowed Try.prog) = true := by kernel_rfl
theorem jf3 : (Try.f6.params.all (Try.prog.readableRec ·)) = true := by kernel_rfl
theorem jf4 : (namedTie Try.prog Rows.fnExactStepCoreRow.named Rows.fnExactStepCoreSpec.vars) = true := by kernel_rfl
theorem jf5 : (Rows.fnExactStepCoreRow.stops == []) = true := by kernel_rfl
theorem jf6 : (Try.prog.stops == []) = true := by kernel_rfl
theorem jf7 : (Rows.fnExactStepCoreRow.knobs == []) = true := by kernel_rfl
theorem jf8 : (Try.prog.stopKnobs == []) = true := by kernel_rfl
theorem jf9 : (Rows.fnExactStepCoreRow.inPlace == Try.prog.inPlace 6) = true := by kernel_rfl
theorem jf10 : (Rows.fnExactStepCoreRow.unfollowed == Try.prog.unfollowed 6) = true := by kernel_rfl
theorem jf11 : (Rows.fnExactStepCoreRow.recurses == Try.prog.recurses 6) = true := by kernel_rfl
theorem jf12 : (Rows.fnExactStepCoreRow.named == Try.prog.varsNamed 6) = true := by kernel_rfl
theorem jf13 : (Rows.fnExactStepCoreRow.maps == (Try.f6.params.toList ++ Rows.fnExactStepCoreSpec.plain.varTypes Try.prog).any (Try.prog.mapsRec ·)) = true := by kernel_rfl
theorem jf14 : (Rows.fnExactStepCoreRow.ifaces == (Try.f6.params.toList ++ Rows.fnExactStepCoreSpec.plain.varTypes Try.prog).any (Try.prog.ifacesRec ·)) = true := by kernel_rfl
theorem jf15 : (Rows.fnExactStepCoreRow.mapsOut == Try.prog.mapsAmong Try.f6.resultTypes.toList) = true := by kernel_rfl
theorem jf16 : (Rows.fnExactStepCoreRow.loops == (Try.f6.params.toList ++ Rows.fnExactStepCoreSpec.plain.varTypes Try.prog).any (Try.prog.loopsFrom ·)) = true := by kernel_rfl
theorem jf17 : (Rows.fnExactStepCoreRow.wideKeys == (Try.f6.params.toList ++ Rows.fnExactStepCoreSpec.plain.varTypes Try.prog ++ Try.f6.resultTypes.toList).any (Try.prog.wideKeysFrom ·)) = true := by kernel_rfl
theorem jf18 : (Rows.fnExactStepCoreSpec.vars.all (Try.prog.varReadable ·)) = true := by kernel_rfl
theorem jf19 : (Try.f6.resultTypes.all (fun t => Try.prog.readableRec t && decide (t < Try.prog.types.size))) = true := by kernel_rfl
theorem jf20 : (Rows.fnExactStepCoreRow.ifacesOut == Try.f6.resultTypes.toList.any (Try.prog.ifacesRec ·)) = true := by kernel_rfl
theorem jf21 : (Rows.fnExactStepCoreRow.loopsOut == Try.f6.resultTypes.toList.any (Try.prog.loopsFrom ·)) = true := by kernel_rfl
theorem jf22 : (Rows.fnExactStepCoreRow.plainKeys == Try.prog.plainKeys) = true := by kernel_rfl
theorem jf23 : (Rows.fnExactStepCoreRow.shortTexts.isNone) = true := by kernel_rfl
theorem jf24 : (Try.prog.stopsHeard) = true := by kernel_rfl
theorem jf25 : (Try.prog.mayEnter) = true := by kernel_rfl
theorem jf26 : (Rows.fnExactStepCoreRow.lifted == Try.prog.liftsFinal) = true := by kernel_rfl
theorem jf27 : (Try.prog.make == some Rows.fnExactStepCoreRow.make) = true := by kernel_rfl
theorem jf28 : (Rows.fnExactStepCoreRow.kinds == (if Rows.fnExactStepCoreRow.domain.isEmpty then [] else Try.f6.params.toList.map fun t => match Try.prog.underlying t with | some (.int k) => some k | _ => none)) = true := by kernel_rfl
theorem jf29 : (Rows.fnExactStepCoreRow.pinned == Rows.fnExactStepCoreRow.pinnedBy) = true := by kernel_rfl
theorem jf30 : (Rows.fnExactStepCoreRow.veiled == (Try.f6.params.toList ++ Rows.fnExactStepCoreSpec.plain.varTypes Try.prog ++ Try.f6.resultTypes.toList).any (Try.prog.veiledRec ·)) = true := by kernel_rfl
theorem jf31 : (Rows.fnExactStepCoreRow.veiledFits Try.prog Try.f6.params.toList (Try.f6.params.toList ++ Rows.fnExactStepCoreSpec.plain.varTypes Try.prog ++ Try.f6.resultTypes.toList)) = true := by kernel_rfl
set_option maxRecDepth 1000000 in
theorem closed : joinedFacts Try.prog 6 Try.f6 Rows.fnExactStepCoreSpec Rows.fnExactStepCoreRow = true := by
  unfold joinedFacts
  exact (and_ (and_ (and_ (and_ (and_ (and_ (and_ (and_ (and_ (and_ (and_ (and_ (and_ (and_ (and_ (and_ (and_ (and_ (and_ (and_ (and_ (and_ (and_ (and_ (and_ (and_ (and_ (and_ (and_ (and_ (and_ jf0 jf1) jf2) jf3) jf4) jf5) jf6) jf7) jf8) jf9) jf10) jf11) jf12) jf13) jf14) jf15) jf16) jf17) jf18) jf19) jf20) jf21) jf22) jf23) jf24) jf25) jf26) jf27) jf28) jf29) jf30) jf31)
theorem atName : Try.prog.funcNamed Rows.fnExactStepCoreRow.func = some 6 := by kernel_rfl
theorem wrapped : Try.f6.isWrapper Try.prog Rows.fnExactStepCoreRow.wrapper Rows.fnExactStepCoreRow.mainSum := by unfold Func.isWrapper; first | (rw [if_pos (by decide +kernel)]; kernel_rfl) | (rw [if_neg (by decide +kernel)]; exact ⟨rfl, rfl⟩)
theorem over : Rows.fnExactStepCoreRow.holds Try.pinned (OpenSpec.ofChange Rows.fnExactStepCoreSpec) :=
  OpenClaim.holds_of_wide 6 Try.f6 rfl rfl rfl rfl rfl rfl rfl ⟨rfl, rfl, rfl, rfl, rfl⟩ rfl rfl rfl rfl rfl atName Try.func6 closed
    (of_decide_eq_true (by kernel_rfl)) wrapped
    (fun os started H enc _ => lifted os started H enc)
theorem proved : Rows.FnExactStepCoreSaid := over
#print axioms proved
end Go.Proofs.Ythdbglhdadinkaa.fnExactStepCore
namespace Go.Proofs.Ythdbglhdadinkaa
/-- The row, under a short name, for the claim. -/
theorem fnExactStepCore_holds : Rows.FnExactStepCoreSaid := fnExactStepCore.proved
end Go.Proofs.Ythdbglhdadinkaa
