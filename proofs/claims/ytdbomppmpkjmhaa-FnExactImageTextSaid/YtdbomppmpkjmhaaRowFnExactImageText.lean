/- The law FnExactImageText holds at every argument: its row, out of the law of the reckoner. -/
import Derived.Test.YtdbomppmpkjmhaaRows
import Derived.Test.YtdbomppmpkjmhaaLFnExactImageText
import Derived.WalkKit
import Derived.ProofKit
import Derived.KernelRfl
import Derived.OpenShut
import Derived.ShutString
import Derived.ChangeOld
import Derived.Below
import Derived.SizedLaws
namespace Go.Proofs.Ytdbomppmpkjmhaa.fnExactImageText
open Go.Proofs.Ytdbomppmpkjmhaa.AI
open Go.ChangeShapes Go.WideShapes Go.ChangeAt Go.RowKit
open Go.ChangeMaps (open_string shut_string)
set_option linter.all false
set_option maxRecDepth 100000
theorem op53 : Opens Try.prog 53 (⟨3, cImage⟩ : Kd DImage) gdImage := opens_G (opens_iso (f := fun b : DImage => (b.Text, b.Starts, b.Size)) (fun y => ⟨y.1, y.2.1, y.2.2⟩) (fun _ => rfl) (opens_struct Try.underlying53 (by kernel_rfl) (opensF_cons rfl (by kernel_rfl) (op_sl (k := 1) (B := 8) (c := cI) Try.underlying29 (by kernel_rfl) (by kernel_rfl) (by decide) (by decide) (op_int Try.underlying3)) (opensF_cons rfl (by kernel_rfl) (op_sl (k := 1) (B := 8) (c := cI) Try.underlying29 (by kernel_rfl) (by kernel_rfl) (by decide) (by decide) (op_int Try.underlying3)) (opensF_one rfl (by kernel_rfl) (op_int Try.underlying3)))))) (fun _ h => ⟨h.1, h.2.1, h.2.2⟩)
theorem own : ownKnob Try.prog.godebug = none := by kernel_rfl
theorem laidOut : laidOutB Try.prog = true := by kernel_rfl
set_option maxHeartbeats 8000000 in
set_option maxRecDepth 100000 in
theorem lifted (os : Os) (started : os.Started) (H : Type) (enc : TypeId × Value → H) :
    ReturnsInHanded {} Try.checked os 9 .any (Rows.fnExactImageTextSpec.pre6 enc Try.prog Try.f9 Rows.fnExactImageTextRow.domain false) (Rows.fnExactImageTextSpec.post enc Try.prog Try.f9 false true false false) := by
  refine returnsInHanded_of_change_sized (C := Try.checked) own started (by kernel_rfl) Try.func9
    (ChangeSpec.witness6 (enc := enc) (C := Try.checked) false ⟨#[], #[.agg #[.slice none 0 0, .slice none 0 0, .int .i64 0]], []⟩ 8 (by kernel_rfl) (by kernel_rfl) (by kernel_rfl) (by kernel_rfl)) ?_
  intro W base args ds gs before hval0 hW hcnd hsz0 _
  have hsz : (DataW.weightsEach Try.prog (Try.f9.params.toList ++ Rows.fnExactImageTextSpec.plain.varTypes Try.prog) (ds ++ gs)).all (· ≤ reachBytes) = true := hsz0
  have hval : ∀ (j : Nat) t v, Try.f9.params[j]? = some t → args[j]? = some v → Value.okWide Try.prog W .any base t v := hval0
  have hW' := hW
  obtain ⟨p, q, hA0, hV, rfl, hfz, hnd⟩ := hW
  have hA : DataW.TrodAll enc Try.prog W 0 (fun _ => true) true Try.f9.params.toList args.toList ds p := hA0
  rw [Try.params9] at hA hval hsz
  obtain ⟨v0, vs0, d0, ds0, p0, q0, hargs, rfl, rfl, h0, r0⟩ := trodAll_cons hA
  obtain ⟨rfl, rfl, rfl⟩ := trodAll_nil r0
  obtain rfl : args = #[v0] := by cases args; simp_all
  obtain ⟨rfl, rfl⟩ := trodVars_none hV
  have k0 := h0
  have lt0 : ∀ x ∈ p0, x.block < W.heap.size := by obtain ⟨m, hm⟩ := k0; exact DataW.trod_lt m _ _ _ hm
  obtain ⟨y0, hK0, hG0⟩ := Opens.arg op53 h0 (sized_at (j := 0) hsz rfl rfl)
  obtain ⟨cs0, rfl, _⟩ := okWide_struct Try.underlying53 (hval 0 53 v0 rfl rfl)
  clear hA0 hval0 hsz0 hsz
  refine (law_tru co_laws_FnExactImageText Try.func9 r_laws_FnExactImageText (avs := [.agg (cImage y0)]) (VL_cons (V_agg hK0) VL_nil) rfl (law_FnExactImageText y0 hG0)).mono fun e W' ⟨he, bel⟩ => ?_
  subst he
  exact ⟨_, rfl, _, _, _, [], _, [], hW', trodAll_mk1 (shut_bool Try.underlying4 _), (trodAll_cons_mk (Below.trod laidOut (by kernel_rfl) (of_decide_eq_true (by kernel_rfl)) k0 bel lt0) trodAll_mk0), rfl, bel.frame _, fun h => by cases h⟩
theorem and_ {a b : Bool} (h : a = true) (k : b = true) : (a && b) = true := by rw [h, k]; rfl
theorem jf0 : (Rows.fnExactImageTextRow.wf (OpenSpec.ofChange Rows.fnExactImageTextSpec)) = true := by kernel_rfl
theorem jf1 : (laidOutB Try.prog) = true := by kernel_rfl
theorem jf2 : (mapsRowed Try.prog) = true := by kernel_rfl
theorem jf3 : (Try.f9.params.all (Try.prog.readableRec ·)) = true := by kernel_rfl
theorem jf4 : (namedTie Try.prog Rows.fnExactImageTextRow.named Rows.fnExactImageTextSpec.vars) = true := by kernel_rfl
theorem jf5 : (Rows.fnExactImageTextRow.stops == []) = true := by kernel_rfl
theorem jf6 : (Try.prog.stops == []) = true := by kernel_rfl
theorem jf7 : (Rows.fnExactImageTextRow.knobs == []) = true := by kernel_rfl
theorem jf8 : (Try.prog.stopKnobs == []) = true := by kernel_rfl
theorem jf9 : (Rows.fnExactImageTextRow.inPlace == Try.prog.inPlace 9) = true := by kernel_rfl
theorem jf10 : (Rows.fnExactImageTextRow.unfollowed == Try.prog.unfollowed 9) = true := by kernel_rfl
theorem jf11 : (Rows.fnExactImageTextRow.recurses == Try.prog.recurses 9) = true := by kernel_rfl
theorem jf12 : (Rows.fnExactImageTextRow.named == Try.prog.varsNamed 9) = true := by kernel_rfl
theorem jf13 : (Rows.fnExactImageTextRow.maps == (Try.f9.params.toList ++ Rows.fnExactImageTextSpec.plain.varTypes Try.prog).any (Try.prog.mapsRec ·)) = true := by kernel_rfl
theorem jf14 : (Rows.fnExactImageTextRow.ifaces == (Try.f9.params.toList ++ Rows.fnExactImageTextSpec.plain.varTypes Try.prog).any (Try.prog.ifacesRec ·)) = true := by kernel_rfl
theorem jf15 : (Rows.fnExactImageTextRow.mapsOut == Try.prog.mapsAmong Try.f9.resultTypes.toList) = true := by kernel_rfl
theorem jf16 : (Rows.fnExactImageTextRow.loops == (Try.f9.params.toList ++ Rows.fnExactImageTextSpec.plain.varTypes Try.prog).any (Try.prog.loopsFrom ·)) = true := by kernel_rfl
theorem jf17 : (Rows.fnExactImageTextRow.wideKeys == (Try.f9.params.toList ++ Rows.fnExactImageTextSpec.plain.varTypes Try.prog ++ Try.f9.resultTypes.toList).any (Try.prog.wideKeysFrom ·)) = true := by kernel_rfl
theorem jf18 : (Rows.fnExactImageTextSpec.vars.all (Try.prog.varReadable ·)) = true := by kernel_rfl
theorem jf19 : (Try.f9.resultTypes.all (fun t => Try.prog.readableRec t && decide (t < Try.prog.types.size))) = true := by kernel_rfl
theorem jf20 : (Rows.fnExactImageTextRow.ifacesOut == Try.f9.resultTypes.toList.any (Try.prog.ifacesRec ·)) = true := by kernel_rfl
theorem jf21 : (Rows.fnExactImageTextRow.loopsOut == Try.f9.resultTypes.toList.any (Try.prog.loopsFrom ·)) = true := by kernel_rfl
theorem jf22 : (Rows.fnExactImageTextRow.plainKeys == Try.prog.plainKeys) = true := by kernel_rfl
theorem jf23 : (Rows.fnExactImageTextRow.shortTexts.isNone) = true := by kernel_rfl
theorem jf24 : (Try.prog.stopsHeard) = true := by kernel_rfl
theorem jf25 : (Try.prog.mayEnter) = true := by kernel_rfl
theorem jf26 : (Rows.fnExactImageTextRow.lifted == Try.prog.liftsFinal) = true := by kernel_rfl
theorem jf27 : (Try.prog.make == some Rows.fnExactImageTextRow.make) = true := by kernel_rfl
theorem jf28 : (Rows.fnExactImageTextRow.kinds == (if Rows.fnExactImageTextRow.domain.isEmpty then [] else Try.f9.params.toList.map fun t => match Try.prog.underlying t with | some (.int k) => some k | _ => none)) = true := by kernel_rfl
theorem jf29 : (Rows.fnExactImageTextRow.pinned == Rows.fnExactImageTextRow.pinnedBy) = true := by kernel_rfl
theorem jf30 : (Rows.fnExactImageTextRow.veiled == (Try.f9.params.toList ++ Rows.fnExactImageTextSpec.plain.varTypes Try.prog ++ Try.f9.resultTypes.toList).any (Try.prog.veiledRec ·)) = true := by kernel_rfl
theorem jf31 : (Rows.fnExactImageTextRow.veiledFits Try.prog Try.f9.params.toList (Try.f9.params.toList ++ Rows.fnExactImageTextSpec.plain.varTypes Try.prog ++ Try.f9.resultTypes.toList)) = true := by kernel_rfl
set_option maxRecDepth 1000000 in
theorem closed : joinedFacts Try.prog 9 Try.f9 Rows.fnExactImageTextSpec Rows.fnExactImageTextRow = true := by
  unfold joinedFacts
  exact (and_ (and_ (and_ (and_ (and_ (and_ (and_ (and_ (and_ (and_ (and_ (and_ (and_ (and_ (and_ (and_ (and_ (and_ (and_ (and_ (and_ (and_ (and_ (and_ (and_ (and_ (and_ (and_ (and_ (and_ (and_ jf0 jf1) jf2) jf3) jf4) jf5) jf6) jf7) jf8) jf9) jf10) jf11) jf12) jf13) jf14) jf15) jf16) jf17) jf18) jf19) jf20) jf21) jf22) jf23) jf24) jf25) jf26) jf27) jf28) jf29) jf30) jf31)
theorem atName : Try.prog.funcNamed Rows.fnExactImageTextRow.func = some 9 := by kernel_rfl
theorem wrapped : Try.f9.isWrapper Try.prog Rows.fnExactImageTextRow.wrapper Rows.fnExactImageTextRow.mainSum := by unfold Func.isWrapper; first | (rw [if_pos (by decide +kernel)]; kernel_rfl) | (rw [if_neg (by decide +kernel)]; exact ⟨rfl, rfl⟩)
theorem over : Rows.fnExactImageTextRow.holds Try.pinned (OpenSpec.ofChange Rows.fnExactImageTextSpec) :=
  OpenClaim.holds_of_wide 9 Try.f9 rfl rfl rfl rfl rfl rfl rfl ⟨rfl, rfl, rfl, rfl, rfl⟩ rfl rfl rfl rfl rfl atName Try.func9 closed
    (of_decide_eq_true (by kernel_rfl)) wrapped
    (fun os started H enc _ => lifted os started H enc)
theorem proved : Rows.FnExactImageTextSaid := over
#print axioms proved
end Go.Proofs.Ytdbomppmpkjmhaa.fnExactImageText
namespace Go.Proofs.Ytdbomppmpkjmhaa
/-- The row, under a short name, for the claim. -/
theorem fnExactImageText_holds : Rows.FnExactImageTextSaid := fnExactImageText.proved
end Go.Proofs.Ytdbomppmpkjmhaa
