/- The law FnExactAssemble holds at every argument: its row, out of the law of the reckoner. -/
import Derived.Test.YtldmpjoddghdkaaRows
import Derived.Test.YtldmpjoddghdkaaLFnExactAssemble
import Derived.WalkKit
import Derived.ProofKit
import Derived.KernelRfl
import Derived.OpenShut
import Derived.ShutString
import Derived.ChangeOld
import Derived.Below
import Derived.SizedLaws
namespace Go.Proofs.Ytldmpjoddghdkaa.fnExactAssemble
open Go.Proofs.Ytldmpjoddghdkaa.AI
open Go.ChangeShapes Go.WideShapes Go.ChangeAt Go.RowKit
open Go.ChangeMaps (open_string shut_string)
set_option linter.all false
set_option maxRecDepth 100000
theorem op47 : Opens Try.prog 47 (⟨4, cIns⟩ : Kd DIns) gdIns := opens_G (opens_iso (f := fun b : DIns => (b.Op, b.A, b.B, b.C)) (fun y => ⟨y.1, y.2.1, y.2.2.1, y.2.2.2⟩) (fun _ => rfl) (opens_struct Try.underlying47 (by kernel_rfl) (opensF_cons rfl (by kernel_rfl) (op_int Try.underlying3) (opensF_cons rfl (by kernel_rfl) (op_int Try.underlying3) (opensF_cons rfl (by kernel_rfl) (op_int Try.underlying3) (opensF_one rfl (by kernel_rfl) (op_int Try.underlying3))))))) (fun _ h => ⟨h.1, h.2.1, h.2.2.1, h.2.2.2⟩)
theorem op49 : Opens Try.prog 49 (⟨6, cLine⟩ : Kd DLine) gdLine := opens_G (opens_iso (f := fun b : DLine => (b.Label, b.Ins, b.Target)) (fun y => ⟨y.1, y.2.1, y.2.2⟩) (fun _ => rfl) (opens_struct Try.underlying49 (by kernel_rfl) (opensF_cons rfl (by kernel_rfl) (op_str Try.underlying9) (opensF_cons rfl (by kernel_rfl) op47 (opensF_one rfl (by kernel_rfl) (op_str Try.underlying9)))))) (fun _ h => ⟨h.1, h.2.1, h.2.2⟩)
theorem own : ownKnob Try.prog.godebug = none := by kernel_rfl
theorem laidOut : laidOutB Try.prog = true := by kernel_rfl
set_option maxHeartbeats 8000000 in
set_option maxRecDepth 100000 in
theorem lifted (os : Os) (started : os.Started) (H : Type) (enc : TypeId × Value → H) :
    ReturnsInHanded {} Try.checked os 3 .any (Rows.fnExactAssembleSpec.pre6 enc Try.prog Try.f3 Rows.fnExactAssembleRow.domain false) (Rows.fnExactAssembleSpec.post enc Try.prog Try.f3 false true false false) := by
  refine returnsInHanded_of_change_sized (C := Try.checked) own started (by kernel_rfl) Try.func3
    (ChangeSpec.witness6 (enc := enc) (C := Try.checked) false ⟨#[], #[.slice none 0 0], []⟩ 8 (by kernel_rfl) (by kernel_rfl) (by kernel_rfl) (by kernel_rfl)) ?_
  intro W base args ds gs before hval0 hW hcnd hsz0 _
  have hsz : (DataW.weightsEach Try.prog (Try.f3.params.toList ++ Rows.fnExactAssembleSpec.plain.varTypes Try.prog) (ds ++ gs)).all (· ≤ reachBytes) = true := hsz0
  have hval : ∀ (j : Nat) t v, Try.f3.params[j]? = some t → args[j]? = some v → Value.okWide Try.prog W .any base t v := hval0
  have hW' := hW
  obtain ⟨p, q, hA0, hV, rfl, hfz, hnd⟩ := hW
  have hA : DataW.TrodAll enc Try.prog W 0 (fun _ => true) true Try.f3.params.toList args.toList ds p := hA0
  rw [Try.params3] at hA hval hsz
  obtain ⟨v0, vs0, d0, ds0, p0, q0, hargs, rfl, rfl, h0, r0⟩ := trodAll_cons hA
  obtain ⟨rfl, rfl, rfl⟩ := trodAll_nil r0
  obtain rfl : args = #[v0] := by cases args; simp_all
  obtain ⟨rfl, rfl⟩ := trodVars_none hV
  have k0 := h0
  have lt0 : ∀ x ∈ p0, x.block < W.heap.size := by obtain ⟨m, hm⟩ := k0; exact DataW.trod_lt m _ _ _ hm
  obtain ⟨y0, hK0, hG0⟩ := Opens.arg (op_sl (k := 6) (B := 64) (c := cLine) Try.underlying22 (by kernel_rfl) (by kernel_rfl) (by decide) (by decide) op49) h0 (sized_at (j := 0) hsz rfl rfl)
  obtain ⟨a0, len0, cap0, rfl⟩ := okWide_slice Try.underlying22 (hval 0 22 v0 rfl rfl)
  clear hA0 hval0 hsz0 hsz
  refine (law_tru co_laws_FnExactAssemble Try.func3 r_laws_FnExactAssemble (fun _ h => False.elim h) (avs := [.tree 6 (y0.map cLine)]) (VL_cons (V_cell1 hK0 rfl) VL_nil) rfl (law_FnExactAssemble y0 hG0)).mono fun e W' ⟨he, bel⟩ => ?_
  subst he
  exact ⟨_, rfl, _, _, _, [], _, [], hW', trodAll_mk1 (shut_bool Try.underlying4 _), (trodAll_cons_mk (Below.trod laidOut (by kernel_rfl) (of_decide_eq_true (by kernel_rfl)) k0 bel lt0) trodAll_mk0), rfl, bel.frame _, fun h => by cases h⟩
theorem and_ {a b : Bool} (h : a = true) (k : b = true) : (a && b) = true := by rw [h, k]; rfl
theorem jf0 : (Rows.fnExactAssembleRow.wf (OpenSpec.ofChange Rows.fnExactAssembleSpec)) = true := by kernel_rfl
theorem jf1 : (laidOutB Try.prog) = true := by kernel_rfl
theorem jf2 : (mapsRowed Try.prog) = true := by kernel_rfl
theorem jf3 : (Try.f3.params.all (Try.prog.readableRec ·)) = true := by kernel_rfl
theorem jf4 : (namedTie Try.prog Rows.fnExactAssembleRow.named Rows.fnExactAssembleSpec.vars) = true := by kernel_rfl
theorem jf5 : (Rows.fnExactAssembleRow.stops == []) = true := by kernel_rfl
theorem jf6 : (Try.prog.stops == []) = true := by kernel_rfl
theorem jf7 : (Rows.fnExactAssembleRow.knobs == []) = true := by kernel_rfl
theorem jf8 : (Try.prog.stopKnobs == []) = true := by kernel_rfl
theorem jf9 : (Rows.fnExactAssembleRow.inPlace == Try.prog.inPlace 3) = true := by kernel_rfl
theorem jf10 : (Rows.fnExactAssembleRow.unfollowed == Try.prog.unfollowed 3) = true := by kernel_rfl
theorem jf11 : (Rows.fnExactAssembleRow.recurses == Try.prog.recurses 3) = true := by kernel_rfl
theorem jf12 : (Rows.fnExactAssembleRow.named == Try.prog.varsNamed 3) = true := by kernel_rfl
theorem jf13 : (Rows.fnExactAssembleRow.maps == (Try.f3.params.toList ++ Rows.fnExactAssembleSpec.plain.varTypes Try.prog).any (Try.prog.mapsRec ·)) = true := by kernel_rfl
theorem jf14 : (Rows.fnExactAssembleRow.ifaces == (Try.f3.params.toList ++ Rows.fnExactAssembleSpec.plain.varTypes Try.prog).any (Try.prog.ifacesRec ·)) = true := by kernel_rfl
theorem jf15 : (Rows.fnExactAssembleRow.mapsOut == Try.prog.mapsAmong Try.f3.resultTypes.toList) = true := by kernel_rfl
theorem jf16 : (Rows.fnExactAssembleRow.loops == (Try.f3.params.toList ++ Rows.fnExactAssembleSpec.plain.varTypes Try.prog).any (Try.prog.loopsFrom ·)) = true := by kernel_rfl
theorem jf17 : (Rows.fnExactAssembleRow.wideKeys == (Try.f3.params.toList ++ Rows.fnExactAssembleSpec.plain.varTypes Try.prog ++ Try.f3.resultTypes.toList).any (Try.prog.wideKeysFrom ·)) = true := by kernel_rfl
theorem jf18 : (Rows.fnExactAssembleSpec.vars.all (Try.prog.varReadable ·)) = true := by kernel_rfl
theorem jf19 : (Try.f3.resultTypes.all (fun t => Try.prog.readableRec t && decide (t < Try.prog.types.size))) = true := by kernel_rfl
theorem jf20 : (Rows.fnExactAssembleRow.ifacesOut == Try.f3.resultTypes.toList.any (Try.prog.ifacesRec ·)) = true := by kernel_rfl
theorem jf21 : (Rows.fnExactAssembleRow.loopsOut == Try.f3.resultTypes.toList.any (Try.prog.loopsFrom ·)) = true := by kernel_rfl
theorem jf22 : (Rows.fnExactAssembleRow.plainKeys == Try.prog.plainKeys) = true := by kernel_rfl
theorem jf23 : (Rows.fnExactAssembleRow.shortTexts.isNone) = true := by kernel_rfl
theorem jf24 : (Try.prog.stopsHeard) = true := by kernel_rfl
theorem jf25 : (Try.prog.mayEnter) = true := by kernel_rfl
theorem jf26 : (Rows.fnExactAssembleRow.lifted == Try.prog.liftsFinal) = true := by kernel_rfl
theorem jf27 : (Try.prog.make == some Rows.fnExactAssembleRow.make) = true := by kernel_rfl
theorem jf28 : (Rows.fnExactAssembleRow.kinds == (if Rows.fnExactAssembleRow.domain.isEmpty then [] else Try.f3.params.toList.map fun t => match Try.prog.underlying t with | some (.int k) => some k | _ => none)) = true := by kernel_rfl
theorem jf29 : (Rows.fnExactAssembleRow.pinned == Rows.fnExactAssembleRow.pinnedBy) = true := by kernel_rfl
theorem jf30 : (Rows.fnExactAssembleRow.veiled == (Try.f3.params.toList ++ Rows.fnExactAssembleSpec.plain.varTypes Try.prog ++ Try.f3.resultTypes.toList).any (Try.prog.veiledRec ·)) = true := by kernel_rfl
theorem jf31 : (Rows.fnExactAssembleRow.veiledFits Try.prog Try.f3.params.toList (Try.f3.params.toList ++ Rows.fnExactAssembleSpec.plain.varTypes Try.prog ++ Try.f3.resultTypes.toList)) = true := by kernel_rfl
set_option maxRecDepth 1000000 in
theorem closed : joinedFacts Try.prog 3 Try.f3 Rows.fnExactAssembleSpec Rows.fnExactAssembleRow = true := by
  unfold joinedFacts
  exact (and_ (and_ (and_ (and_ (and_ (and_ (and_ (and_ (and_ (and_ (and_ (and_ (and_ (and_ (and_ (and_ (and_ (and_ (and_ (and_ (and_ (and_ (and_ (and_ (and_ (and_ (and_ (and_ (and_ (and_ (and_ jf0 jf1) jf2) jf3) jf4) jf5) jf6) jf7) jf8) jf9) jf10) jf11) jf12) jf13) jf14) jf15) jf16) jf17) jf18) jf19) jf20) jf21) jf22) jf23) jf24) jf25) jf26) jf27) jf28) jf29) jf30) jf31)
theorem atName : Try.prog.funcNamed Rows.fnExactAssembleRow.func = some 3 := by kernel_rfl
theorem wrapped : Try.f3.isWrapper Try.prog Rows.fnExactAssembleRow.wrapper Rows.fnExactAssembleRow.mainSum := by unfold Func.isWrapper; first | (rw [if_pos (by decide +kernel)]; kernel_rfl) | (rw [if_neg (by decide +kernel)]; exact ⟨rfl, rfl⟩)
theorem over : Rows.fnExactAssembleRow.holds Try.pinned (OpenSpec.ofChange Rows.fnExactAssembleSpec) :=
  OpenClaim.holds_of_wide 3 Try.f3 rfl rfl rfl rfl rfl rfl rfl ⟨rfl, rfl, rfl, rfl, rfl⟩ rfl rfl rfl rfl rfl atName Try.func3 closed
    (of_decide_eq_true (by kernel_rfl)) wrapped
    (fun os started H enc _ => lifted os started H enc)
theorem proved : Rows.FnExactAssembleSaid := over
#print axioms proved
end Go.Proofs.Ytldmpjoddghdkaa.fnExactAssemble
namespace Go.Proofs.Ytldmpjoddghdkaa
/-- The row, under a short name, for the claim. -/
theorem fnExactAssemble_holds : Rows.FnExactAssembleSaid := fnExactAssemble.proved
end Go.Proofs.Ytldmpjoddghdkaa
