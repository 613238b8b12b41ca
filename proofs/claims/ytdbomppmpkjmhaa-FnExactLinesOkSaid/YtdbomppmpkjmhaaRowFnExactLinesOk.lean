/- The law FnExactLinesOk holds at every argument: its row, out of the law of the reckoner. -/
import Derived.Test.YtdbomppmpkjmhaaRows
import Derived.Test.YtdbomppmpkjmhaaLFnExactLinesOk
import Derived.WalkKit
import Derived.ProofKit
import Derived.KernelRfl
import Derived.OpenShut
import Derived.ShutString
import Derived.ChangeOld
import Derived.Below
import Derived.SizedLaws
namespace Go.Proofs.Ytdbomppmpkjmhaa.fnExactLinesOk
open Go.Proofs.Ytdbomppmpkjmhaa.AI
open Go.ChangeShapes Go.WideShapes Go.ChangeAt Go.RowKit
open Go.ChangeMaps (open_string shut_string)
set_option linter.all false
set_option maxRecDepth 100000
theorem op101 : Opens Try.prog 101 (⟨4, cIns⟩ : Kd DIns) gdIns := opens_G (opens_iso (f := fun b : DIns => (b.Op, b.A, b.B, b.C)) (fun y => ⟨y.1, y.2.1, y.2.2.1, y.2.2.2⟩) (fun _ => rfl) (opens_struct Try.underlying101 (by kernel_rfl) (opensF_cons rfl (by kernel_rfl) (op_int Try.underlying3) (opensF_cons rfl (by kernel_rfl) (op_int Try.underlying3) (opensF_cons rfl (by kernel_rfl) (op_int Try.underlying3) (opensF_one rfl (by kernel_rfl) (op_int Try.underlying3))))))) (fun _ h => ⟨h.1, h.2.1, h.2.2.1, h.2.2.2⟩)
theorem op103 : Opens Try.prog 103 (⟨6, cLine⟩ : Kd DLine) gdLine := opens_G (opens_iso (f := fun b : DLine => (b.Label, b.Ins, b.Target)) (fun y => ⟨y.1, y.2.1, y.2.2⟩) (fun _ => rfl) (opens_struct Try.underlying103 (by kernel_rfl) (opensF_cons rfl (by kernel_rfl) (op_str Try.underlying9) (opensF_cons rfl (by kernel_rfl) op101 (opensF_one rfl (by kernel_rfl) (op_str Try.underlying9)))))) (fun _ h => ⟨h.1, h.2.1, h.2.2⟩)
theorem own : ownKnob Try.prog.godebug = none := by kernel_rfl
theorem laidOut : laidOutB Try.prog = true := by kernel_rfl
set_option maxHeartbeats 8000000 in
set_option maxRecDepth 100000 in
theorem lifted (os : Os) (started : os.Started) (H : Type) (enc : TypeId × Value → H) :
    ReturnsInHanded {} Try.checked os 3 .any (Rows.fnExactLinesOkSpec.pre6 enc Try.prog Try.f3 Rows.fnExactLinesOkRow.domain false) (Rows.fnExactLinesOkSpec.post enc Try.prog Try.f3 false true false false) := by
  refine returnsInHanded_of_change_sized (C := Try.checked) own started (by kernel_rfl) Try.func3
    (ChangeSpec.witness6 (enc := enc) (C := Try.checked) false ⟨#[], #[.slice none 0 0], []⟩ 8 (by kernel_rfl) (by kernel_rfl) (by kernel_rfl) (by kernel_rfl)) ?_
  intro W base args ds gs before hval0 hW hcnd hsz0 _
  have hsz : (DataW.weightsEach Try.prog (Try.f3.params.toList ++ Rows.fnExactLinesOkSpec.plain.varTypes Try.prog) (ds ++ gs)).all (· ≤ reachBytes) = true := hsz0
  have hval : ∀ (j : Nat) t v, Try.f3.params[j]? = some t → args[j]? = some v → Value.okWide Try.prog W .any base t v := hval0
  have hW' := hW
  obtain ⟨p, q, hA0, hV, rfl, hfz, hnd⟩ := hW
  have hA : DataW.TrodAll enc Try.prog W 0 (fun _ => true) true Try.f3.params.toList args.toList ds p := hA0
  rw [Try.params3] at hA hval hsz
  obtain ⟨v0, vs0, d0, ds0, p0, q0, hargs, rfl, rfl, h0, r0⟩ := trodAll_cons hA
  obtain ⟨rfl, rfl, rfl⟩ := trodAll_nil r0
  obtain rfl : args = #[v0] := by cases args; simp_all
  obtain ⟨rfl, rfl⟩ := trodVars_none hV
  have k0 := h0
  have lt0 : ∀ x ∈ p0, x.block < W.heap.size := by obtain ⟨m, hm⟩ := k0; exact DataW.trod_lt m _ _ _ hm
  obtain ⟨y0, hK0, hG0⟩ := Opens.arg (op_sl (k := 6) (B := 64) (c := cLine) Try.underlying22 (by kernel_rfl) (by kernel_rfl) (by decide) (by decide) op103) h0 (sized_at (j := 0) hsz rfl rfl)
  obtain ⟨a0, len0, cap0, rfl⟩ := okWide_slice Try.underlying22 (hval 0 22 v0 rfl rfl)
  clear hA0 hval0 hsz0 hsz
  refine (law_tru co_laws_FnExactLinesOk Try.func3 r_laws_FnExactLinesOk (avs := [.tree 6 (y0.map cLine)]) (VL_cons (V_cell1 hK0 rfl) VL_nil) rfl (law_FnExactLinesOk y0 hG0)).mono fun e W' ⟨he, bel⟩ => ?_
  subst he
  exact ⟨_, rfl, _, _, _, [], _, [], hW', trodAll_mk1 (shut_bool Try.underlying4 _), (trodAll_cons_mk (Below.trod laidOut (by kernel_rfl) (of_decide_eq_true (by kernel_rfl)) k0 bel lt0) trodAll_mk0), rfl, bel.frame _, fun h => by cases h⟩
theorem and_ {a b : Bool} (h : a = true) (k : b = true) : (a && b) = true := by rw [h, k]; rfl
theorem jf0 : (Rows.fnExactLinesOkRow.wf (OpenSpec.ofChange Rows.fnExactLinesOkSpec)) = true := by kernel_rfl
theorem jf1 : (laidOutB Try.prog) = true := by kernel_rfl
theorem jf2 : (mapsRowed Try.prog) = true := by kernel_rfl
theorem jf3 : (Try.f3.params.all (Try.prog.readableRec ·)) = true := by kernel_rfl
theorem jf4 : (namedTie Try.prog Rows.fnExactLinesOkRow.named Rows.fnExactLinesOkSpec.vars) = true := by kernel_rfl
theorem jf5 : (Rows.fnExactLinesOkRow.stops == []) = true := by kernel_rfl
theorem jf6 : (Try.prog.stops == []) = true := by kernel_rfl
theorem jf7 : (Rows.fnExactLinesOkRow.knobs == []) = true := by kernel_rfl
theorem jf8 : (Try.prog.stopKnobs == []) = true := by kernel_rfl
theorem jf9 : (Rows.fnExactLinesOkRow.inPlace == Try.prog.inPlace 3) = true := by kernel_rfl
theorem jf10 : (Rows.fnExactLinesOkRow.unfollowed == Try.prog.unfollowed 3) = true := by kernel_rfl
theorem jf11 : (Rows.fnExactLinesOkRow.recurses == Try.prog.recurses 3) = true := by kernel_rfl
theorem jf12 : (Rows.fnExactLinesOkRow.named == Try.prog.varsNamed 3) = true := by kernel_rfl
theorem jf13 : (Rows.fnExactLinesOkRow.maps == (Try.f3.params.toList ++ Rows.fnExactLinesOkSpec.plain.varTypes Try.prog).any (Try.prog.mapsRec ·)) = true := by kernel_rfl
theorem jf14 : (Rows.fnExactLinesOkRow.ifaces == (Try.f3.params.toList ++ Rows.fnExactLinesOkSpec.plain.varTypes Try.prog).any (Try.prog.ifacesRec ·)) = true := by kernel_rfl
theorem jf15 : (Rows.fnExactLinesOkRow.mapsOut == Try.prog.mapsAmong Try.f3.resultTypes.toList) = true := by kernel_rfl
theorem jf16 : (Rows.fnExactLinesOkRow.loops == (Try.f3.params.toList ++ Rows.fnExactLinesOkSpec.plain.varTypes Try.prog).any (Try.prog.loopsFrom ·)) = true := by kernel_rfl
theorem jf17 : (Rows.fnExactLinesOkRow.wideKeys == (Try.f3.params.toList ++ Rows.fnExactLinesOkSpec.plain.varTypes Try.prog ++ Try.f3.resultTypes.toList).any (Try.prog.wideKeysFrom ·)) = true := by kernel_rfl
theorem jf18 : (Rows.fnExactLinesOkSpec.vars.all (Try.prog.varReadable ·)) = true := by kernel_rfl
theorem jf19 : (Try.f3.resultTypes.all (fun t => Try.prog.readableRec t && decide (t < Try.prog.types.size))) = true := by kernel_rfl
theorem jf20 : (Rows.fnExactLinesOkRow.ifacesOut == Try.f3.resultTypes.toList.any (Try.prog.ifacesRec ·)) = true := by kernel_rfl
theorem jf21 : (Rows.fnExactLinesOkRow.loopsOut == Try.f3.resultTypes.toList.any (Try.prog.loopsFrom ·)) = true := by kernel_rfl
theorem jf22 : (Rows.fnExactLinesOkRow.plainKeys == Try.prog.plainKeys) = true := by kernel_rfl
theorem jf23 : (Rows.fnExactLinesOkRow.shortTexts.isNone) = true := by kernel_rfl
theorem jf24 : (Try.prog.stopsHeard) = true := by kernel_rfl
theorem jf25 : (Try.prog.mayEnter) = true := by kernel_rfl
theorem jf26 : (Rows.fnExactLinesOkRow.lifted == Try.prog.liftsFinal) = true := by kernel_rfl
theorem jf27 : (Try.prog.make == some Rows.fnExactLinesOkRow.make) = true := by kernel_rfl
theorem jf28 : (Rows.fnExactLinesOkRow.kinds == (if Rows.fnExactLinesOkRow.domain.isEmpty then [] else Try.f3.params.toList.map fun t => match Try.prog.underlying t with | some (.int k) => some k | _ => none)) = true := by kernel_rfl
theorem jf29 : (Rows.fnExactLinesOkRow.pinned == Rows.fnExactLinesOkRow.pinnedBy) = true := by kernel_rfl
theorem jf30 : (Rows.fnExactLinesOkRow.veiled == (Try.f3.params.toList ++ Rows.fnExactLinesOkSpec.plain.varTypes Try.prog ++ Try.f3.resultTypes.toList).any (Try.prog.veiledRec ·)) = true := by kernel_rfl
theorem jf31 : (Rows.fnExactLinesOkRow.veiledFits Try.prog Try.f3.params.toList (Try.f3.params.toList ++ Rows.fnExactLinesOkSpec.plain.varTypes Try.prog ++ Try.f3.resultTypes.toList)) = true := by kernel_rfl
set_option maxRecDepth 1000000 in
theorem closed : joinedFacts Try.prog 3 Try.f3 Rows.fnExactLinesOkSpec Rows.fnExactLinesOkRow = true := by
  unfold joinedFacts
  exact (and_ (and_ (and_ (and_ (and_ (and_ (and_ (and_ (and_ (and_ (and_ (and_ (and_ (and_ (and_ (and_ (and_ (and_ (and_ (and_ (and_ (and_ (and_ (and_ (and_ (and_ (and_ (and_ (and_ (and_ (and_ jf0 jf1) jf2) jf3) jf4) jf5) jf6) jf7) jf8) jf9) jf10) jf11) jf12) jf13) jf14) jf15) jf16) jf17) jf18) jf19) jf20) jf21) jf22) jf23) jf24) jf25) jf26) jf27) jf28) jf29) jf30) jf31)
theorem atName : Try.prog.funcNamed Rows.fnExactLinesOkRow.func = some 3 := by kernel_rfl
theorem wrapped : Try.f3.isWrapper Try.prog Rows.fnExactLinesOkRow.wrapper Rows.fnExactLinesOkRow.mainSum := by unfold Func.isWrapper; first | (rw [if_pos (by decide +kernel)]; kernel_rfl) | (rw [if_neg (by decide +kernel)]; exact ⟨rfl, rfl⟩)
theorem over : Rows.fnExactLinesOkRow.holds Try.pinned (OpenSpec.ofChange Rows.fnExactLinesOkSpec) :=
  OpenClaim.holds_of_wide 3 Try.f3 rfl rfl rfl rfl rfl rfl rfl ⟨rfl, rfl, rfl, rfl, rfl⟩ rfl rfl rfl rfl rfl atName Try.func3 closed
    (of_decide_eq_true (by kernel_rfl)) wrapped
    (fun os started H enc _ => lifted os started H enc)
theorem proved : Rows.FnExactLinesOkSaid := over
#print axioms proved
end Go.Proofs.Ytdbomppmpkjmhaa.fnExactLinesOk
namespace Go.Proofs.Ytdbomppmpkjmhaa
/-- The row, under a short name, for the claim. -/
theorem fnExactLinesOk_holds : Rows.FnExactLinesOkSaid := fnExactLinesOk.proved
end Go.Proofs.Ytdbomppmpkjmhaa
