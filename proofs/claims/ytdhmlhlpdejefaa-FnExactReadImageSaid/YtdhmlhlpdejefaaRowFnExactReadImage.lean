/- The law FnExactReadImage holds at every argument: its row, out of the law of the reckoner. -/
import Derived.Test.YtdhmlhlpdejefaaRows
import Derived.Test.YtdhmlhlpdejefaaLFnExactReadImage
import Derived.WalkKit
import Derived.ProofKit
import Derived.KernelRfl
import Derived.OpenShut
import Derived.ShutString
import Derived.ChangeOld
import Derived.Below
import Derived.SizedLaws
namespace Go.Proofs.Ytdhmlhlpdejefaa.fnExactReadImage
open Go.Proofs.Ytdhmlhlpdejefaa.AI
open Go.ChangeShapes Go.WideShapes Go.ChangeAt Go.RowKit
open Go.ChangeMaps (open_string shut_string)
set_option linter.all false
set_option maxRecDepth 100000
theorem own : ownKnob Try.prog.godebug = none := by kernel_rfl
theorem laidOut : laidOutB Try.prog = true := by kernel_rfl
set_option maxHeartbeats 8000000 in
set_option maxRecDepth 100000 in
theorem lifted (os : Os) (started : os.Started) (H : Type) (enc : TypeId × Value → H) :
    ReturnsInHanded {} Try.checked os 6 .any (Rows.fnExactReadImageSpec.pre6 enc Try.prog Try.f6 Rows.fnExactReadImageRow.domain false) (Rows.fnExactReadImageSpec.post enc Try.prog Try.f6 false true false false) := by
  refine returnsInHanded_of_change_sized (C := Try.checked) own started (by kernel_rfl) Try.func6
    (ChangeSpec.witness6 (enc := enc) (C := Try.checked) false ⟨#[], #[.string ByteArray.empty], []⟩ 8 (by kernel_rfl) (by kernel_rfl) (by kernel_rfl) (by kernel_rfl)) ?_
  intro W base args ds gs before hval0 hW hcnd hsz0 _
  have hsz : (DataW.weightsEach Try.prog (Try.f6.params.toList ++ Rows.fnExactReadImageSpec.plain.varTypes Try.prog) (ds ++ gs)).all (· ≤ reachBytes) = true := hsz0
  have hval : ∀ (j : Nat) t v, Try.f6.params[j]? = some t → args[j]? = some v → Value.okWide Try.prog W .any base t v := hval0
  have hW' := hW
  obtain ⟨p, q, hA0, hV, rfl, hfz, hnd⟩ := hW
  have hA : DataW.TrodAll enc Try.prog W 0 (fun _ => true) true Try.f6.params.toList args.toList ds p := hA0
  rw [Try.params6] at hA hval hsz
  obtain ⟨v0, vs0, d0, ds0, p0, q0, hargs, rfl, rfl, h0, r0⟩ := trodAll_cons hA
  obtain ⟨rfl, rfl, rfl⟩ := trodAll_nil r0
  obtain rfl : args = #[v0] := by cases args; simp_all
  obtain ⟨rfl, rfl⟩ := trodVars_none hV
  obtain ⟨a0, rfl, rfl, rfl, y0⟩ := open_string Try.underlying9 (hval 0 9 v0 rfl rfl) h0
  have w0 : a0.size ≤ 140737488351232 := by
    have z := sized_string hsz (j := 0) (t := 9) rfl rfl
    rw [Array.length_toList] at z
    exact z
  clear hA0 hval0 hsz0 hsz
  refine (law_tru co_laws_FnExactReadImage Try.func6 r_laws_FnExactReadImage (avs := [.str a0]) (VL_cons V_strR VL_nil) rfl (law_FnExactReadImage a0 w0)).mono fun e W' ⟨he, bel⟩ => ?_
  subst he
  exact ⟨_, rfl, _, _, _, [], _, [], hW', trodAll_mk1 (shut_bool Try.underlying4 _), (trodAll_cons_mk (shut_string Try.underlying9 y0) trodAll_mk0), rfl, bel.frame _, fun h => by cases h⟩
theorem and_ {a b : Bool} (h : a = true) (k : b = true) : (a && b) = true := by rw [h, k]; rfl
theorem jf0 : (Rows.fnExactReadImageRow.wf (OpenSpec.ofChange Rows.fnExactReadImageSpec)) = true := by kernel_rfl
theorem jf1 : (laidOutB Try.prog) = true := by kernel_rfl
theorem jf2 : (mapsRowed Try.prog) = true := by kernel_rfl
theorem jf3 : (Try.f6.params.all (Try.prog.readableRec ·)) = true := by kernel_rfl
theorem jf4 : (namedTie Try.prog Rows.fnExactReadImageRow.named Rows.fnExactReadImageSpec.vars) = true := by kernel_rfl
theorem jf5 : (Rows.fnExactReadImageRow.stops == []) = true := by kernel_rfl
theorem jf6 : (Try.prog.stops == []) = true := by kernel_rfl
theorem jf7 : (Rows.fnExactReadImageRow.knobs == []) = true := by kernel_rfl
theorem jf8 : (Try.prog.stopKnobs == []) = true := by kernel_rfl
theorem jf9 : (Rows.fnExactReadImageRow.inPlace == Try.prog.inPlace 6) = true := by kernel_rfl
theorem jf10 : (Rows.fnExactReadImageRow.unfollowed == Try.prog.unfollowed 6) = true := by kernel_rfl
theorem jf11 : (Rows.fnExactReadImageRow.recurses == Try.prog.recurses 6) = true := by kernel_rfl
theorem jf12 : (Rows.fnExactReadImageRow.named == Try.prog.varsNamed 6) = true := by kernel_rfl
theorem jf13 : (Rows.fnExactReadImageRow.maps == (Try.f6.params.toList ++ Rows.fnExactReadImageSpec.plain.varTypes Try.prog).any (Try.prog.mapsRec ·)) = true := by kernel_rfl
theorem jf14 : (Rows.fnExactReadImageRow.ifaces == (Try.f6.params.toList ++ Rows.fnExactReadImageSpec.plain.varTypes Try.prog).any (Try.prog.ifacesRec ·)) = true := by kernel_rfl
theorem jf15 : (Rows.fnExactReadImageRow.mapsOut == Try.prog.mapsAmong Try.f6.resultTypes.toList) = true := by kernel_rfl
theorem jf16 : (Rows.fnExactReadImageRow.loops == (Try.f6.params.toList ++ Rows.fnExactReadImageSpec.plain.varTypes Try.prog).any (Try.prog.loopsFrom ·)) = true := by kernel_rfl
theorem jf17 : (Rows.fnExactReadImageRow.wideKeys == (Try.f6.params.toList ++ Rows.fnExactReadImageSpec.plain.varTypes Try.prog ++ Try.f6.resultTypes.toList).any (Try.prog.wideKeysFrom ·)) = true := by kernel_rfl
theorem jf18 : (Rows.fnExactReadImageSpec.vars.all (Try.prog.varReadable ·)) = true := by kernel_rfl
theorem jf19 : (Try.f6.resultTypes.all (fun t => Try.prog.readableRec t && decide (t < Try.prog.types.size))) = true := by kernel_rfl
theorem jf20 : (Rows.fnExactReadImageRow.ifacesOut == Try.f6.resultTypes.toList.any (Try.prog.ifacesRec ·)) = true := by kernel_rfl
theorem jf21 : (Rows.fnExactReadImageRow.loopsOut == Try.f6.resultTypes.toList.any (Try.prog.loopsFrom ·)) = true := by kernel_rfl
theorem jf22 : (Rows.fnExactReadImageRow.plainKeys == Try.prog.plainKeys) = true := by kernel_rfl
theorem jf23 : (Rows.fnExactReadImageRow.shortTexts.isNone) = true := by kernel_rfl
theorem jf24 : (Try.prog.stopsHeard) = true := by kernel_rfl
theorem jf25 : (Try.prog.mayEnter) = true := by kernel_rfl
theorem jf26 : (Rows.fnExactReadImageRow.lifted == Try.prog.liftsFinal) = true := by kernel_rfl
theorem jf27 : (Try.prog.make == some Rows.fnExactReadImageRow.make) = true := by kernel_rfl
theorem jf28 : (Rows.fnExactReadImageRow.kinds == (if Rows.fnExactReadImageRow.domain.isEmpty then [] else Try.f6.params.toList.map fun t => match Try.prog.underlying t with | some (.int k) => some k | _ => none)) = true := by kernel_rfl
theorem jf29 : (Rows.fnExactReadImageRow.pinned == Rows.fnExactReadImageRow.pinnedBy) = true := by kernel_rfl
theorem jf30 : (Rows.fnExactReadImageRow.veiled == (Try.f6.params.toList ++ Rows.fnExactReadImageSpec.plain.varTypes Try.prog ++ Try.f6.resultTypes.toList).any (Try.prog.veiledRec ·)) = true := by kernel_rfl
theorem jf31 : (Rows.fnExactReadImageRow.veiledFits Try.prog Try.f6.params.toList (Try.f6.params.toList ++ Rows.fnExactReadImageSpec.plain.varTypes Try.prog ++ Try.f6.resultTypes.toList)) = true := by kernel_rfl
set_option maxRecDepth 1000000 in
theorem closed : joinedFacts Try.prog 6 Try.f6 Rows.fnExactReadImageSpec Rows.fnExactReadImageRow = true := by
  unfold joinedFacts
  exact (and_ (and_ (and_ (and_ (and_ (and_ (and_ (and_ (and_ (and_ (and_ (and_ (and_ (and_ (and_ (and_ (and_ (and_ (and_ (and_ (and_ (and_ (and_ (and_ (and_ (and_ (and_ (and_ (and_ (and_ (and_ jf0 jf1) jf2) jf3) jf4) jf5) jf6) jf7) jf8) jf9) jf10) jf11) jf12) jf13) jf14) jf15) jf16) jf17) jf18) jf19) jf20) jf21) jf22) jf23) jf24) jf25) jf26) jf27) jf28) jf29) jf30) jf31)
theorem atName : Try.prog.funcNamed Rows.fnExactReadImageRow.func = some 6 := by kernel_rfl
theorem wrapped : Try.f6.isWrapper Try.prog Rows.fnExactReadImageRow.wrapper Rows.fnExactReadImageRow.mainSum := by unfold Func.isWrapper; first | (rw [if_pos (by decide +kernel)]; kernel_rfl) | (rw [if_neg (by decide +kernel)]; exact ⟨rfl, rfl⟩)
theorem over : Rows.fnExactReadImageRow.holds Try.pinned (OpenSpec.ofChange Rows.fnExactReadImageSpec) :=
  OpenClaim.holds_of_wide 6 Try.f6 rfl rfl rfl rfl rfl rfl rfl ⟨rfl, rfl, rfl, rfl, rfl⟩ rfl rfl rfl rfl rfl atName Try.func6 closed
    (of_decide_eq_true (by kernel_rfl)) wrapped
    (fun os started H enc _ => lifted os started H enc)
theorem proved : Rows.FnExactReadImageSaid := over
#print axioms proved
end Go.Proofs.Ytdhmlhlpdejefaa.fnExactReadImage
namespace Go.Proofs.Ytdhmlhlpdejefaa
/-- The row, under a short name, for the claim. -/
theorem fnExactReadImage_holds : Rows.FnExactReadImageSaid := fnExactReadImage.proved
end Go.Proofs.Ytdhmlhlpdejefaa
