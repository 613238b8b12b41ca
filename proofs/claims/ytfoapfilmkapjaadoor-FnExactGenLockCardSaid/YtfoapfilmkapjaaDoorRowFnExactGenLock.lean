/- The law FnExactGenLock holds at every argument: its row, out of the law of the reckoner, the tables that it reads as the program lays them; and the card, which ties them. -/
import Derived.Test.YtfoapfilmkapjaaDoorRows
import Derived.Test.YtfoapfilmkapjaaDoorLFnExactGenLock
import Derived.WalkKit
import Derived.ProofKit
import Derived.KernelRfl
import Derived.OpenShut
import Derived.ShutString
import Derived.ChangeOld
import Derived.Below
import Derived.SizedLaws
import Derived.Test.YtfoapfilmkapjaaDoorTie
import Derived.Test.YtfoapfilmkapjaaDoorCards
import Derived.LaidMore
import Derived.Stop.Joined
import Derived.Handed
import Derived.SevenTiedAt
import Derived.Lib.LaidTab
namespace Go.Proofs.YtfoapfilmkapjaaDoor.fnExactGenLock
open Go.Proofs.YtfoapfilmkapjaaDoor.AI
open Go.ChangeShapes Go.WideShapes Go.ChangeAt Go.RowKit
open Go.ChangeMaps (open_string shut_string)
set_option linter.all false
set_option maxRecDepth 100000
theorem op23 : Opens Tryd.prog 23 (⟨4, cIns⟩ : Kd DIns) gdIns := opens_G (opens_iso (f := fun b : DIns => (b.Op, b.A, b.B, b.C)) (fun y => ⟨y.1, y.2.1, y.2.2.1, y.2.2.2⟩) (fun _ => rfl) (opens_struct Tryd.underlying23 (by kernel_rfl) (opensF_cons rfl (by kernel_rfl) (op_int Tryd.underlying3) (opensF_cons rfl (by kernel_rfl) (op_int Tryd.underlying3) (opensF_cons rfl (by kernel_rfl) (op_int Tryd.underlying3) (opensF_one rfl (by kernel_rfl) (op_int Tryd.underlying3))))))) (fun _ h => ⟨h.1, h.2.1, h.2.2.1, h.2.2.2⟩)
theorem op78 : Opens Tryd.prog 78 (⟨6, cLine⟩ : Kd DLine) gdLine := opens_G (opens_iso (f := fun b : DLine => (b.Label, b.Ins, b.Target)) (fun y => ⟨y.1, y.2.1, y.2.2⟩) (fun _ => rfl) (opens_struct Tryd.underlying78 (by kernel_rfl) (opensF_cons rfl (by kernel_rfl) (op_str Tryd.underlying9) (opensF_cons rfl (by kernel_rfl) op23 (opensF_one rfl (by kernel_rfl) (op_str Tryd.underlying9)))))) (fun _ h => ⟨h.1, h.2.1, h.2.2⟩)
theorem op39 : Opens Tryd.prog 39 (⟨3, cGen⟩ : Kd DGen) gdGen := opens_G (opens_iso (f := fun b : DGen => (b.Lines, b.Next, b.Bad)) (fun y => ⟨y.1, y.2.1, y.2.2⟩) (fun _ => rfl) (opens_struct Tryd.underlying39 (by kernel_rfl) (opensF_cons rfl (by kernel_rfl) (op_sl (k := 6) (B := 64) (c := cLine) Tryd.underlying37 (by kernel_rfl) (by kernel_rfl) (by decide) (by decide) op78) (opensF_cons rfl (by kernel_rfl) (op_int Tryd.underlying3) (opensF_one rfl (by kernel_rfl) (op_bool Tryd.underlying4)))))) (fun _ h => ⟨h.1, h.2.1⟩)
theorem own : ownKnob Tryd.prog.godebug = none := by kernel_rfl
theorem laidOut : laidOutB Tryd.prog = true := by kernel_rfl
theorem met (os : Os) (args : Array Value) : laidMetH Tryd.prog Rows.fnExactGenLockRow.laid ((World.doorLaid Tryd.prog 400 os).forCall (fun _ _ => 0) ⟨#[], args, []⟩).memory :=
  laidMetH_of_parts3 (fuel := 8) (laidMet_of_run' 8 (by kernel_rfl) (by kernel_rfl)) (by kernel_rfl) (by kernel_rfl)
theorem tab_of {W : World} (h : laidMetH Tryd.prog Rows.fnExactGenLockRow.laid W) : Lib.TabIs Tryd.prog W "internal/strconv.uint64pow10" .u64 Lib.pow10Tab := by
  rw [MakeChecks.laidMetH_plain _ _ _ (by kernel_rfl)] at h
  obtain ⟨ps, ⟨g0, t0, cs0, f0, p0, q0, hg0, ht0, hv0, hd0, ⟨g1, t1, cs1, f1, p1, q1, hg1, ht1, hv1, hd1, ⟨g2, t2, cs2, f2, p2, q2, hg2, ht2, hv2, hd2, _, _⟩, _⟩, _⟩, _⟩ := h
  obtain rfl := Option.some.inj ((show Tryd.prog.globalNamed "internal/strconv.uint64pow10" = some 0 by kernel_rfl).symm.trans hg2)
  obtain rfl := Option.some.inj ((show (Tryd.prog.globals[0]?).map (·.type) = some 105 by kernel_rfl).symm.trans ht2)
  unfold Lib.TabIs
  rw [hv2]
  have e := Lib.cells_of_tab (zs := Lib.pow10Tab) (k := .u64) (n := 20) Tryd.underlying105 Tryd.underlying98 (by kernel_rfl) (by kernel_rfl) hd2
  rw [← e]
set_option maxHeartbeats 8000000 in
set_option maxRecDepth 100000 in
theorem lifted (os : Os) (started : os.Started) (H : Type) (enc : TypeId × Value → H) :
    ReturnsInHanded {} Tryd.checked os 5 .any (fun w args => (Rows.fnExactGenLockSpec.pre enc Tryd.prog Tryd.f5 [] false w args ∧ laidMetH Tryd.prog Rows.fnExactGenLockRow.laid w) ∧ sizedMet enc Tryd.prog Tryd.f5 (OpenSpec.ofChange Rows.fnExactGenLockSpec) false w args) (Rows.fnExactGenLockSpec.post enc Tryd.prog Tryd.f5 false true false false) := by
  refine returnsInHanded_of_change_and (C := Tryd.checked) (X := fun w _ => laidMetH Tryd.prog Rows.fnExactGenLockRow.laid w) (fun _ _ _ hh h => h.of_heap hh) own started (by kernel_rfl) Tryd.func5
    (ChangeSpec.witness_shaped (enc := enc) (C := Tryd.checked) (os := os) (X := fun w _ => laidMetH Tryd.prog Rows.fnExactGenLockRow.laid w) false (World.doorLaid Tryd.prog 400 os) #[.agg #[.slice none 0 0, .int .i64 0, .bool false]] 8 (by kernel_rfl) (World.shaped_of_RefB (by kernel_rfl) (by kernel_rfl)) (by kernel_rfl) (by kernel_rfl) (by kernel_rfl) (met os _)) ?_
  intro W base args ds gs before hval0 hW hcnd hsz0 hL _
  have hsz : (DataW.weightsEach Tryd.prog (Tryd.f5.params.toList ++ Rows.fnExactGenLockSpec.plain.varTypes Tryd.prog) (ds ++ gs)).all (· ≤ reachBytes) = true := hsz0
  have hval : ∀ (j : Nat) t v, Tryd.f5.params[j]? = some t → args[j]? = some v → Value.okWide Tryd.prog W .any base t v := hval0
  have hW' := hW
  obtain ⟨p, q, hA0, hV, rfl, hfz, hnd⟩ := hW
  have hA : DataW.TrodAll enc Tryd.prog W 0 (fun _ => true) true Tryd.f5.params.toList args.toList ds p := hA0
  rw [Tryd.params5] at hA hval hsz
  obtain ⟨v0, vs0, d0, ds0, p0, q0, hargs, rfl, rfl, h0, r0⟩ := trodAll_cons hA
  obtain ⟨rfl, rfl, rfl⟩ := trodAll_nil r0
  obtain rfl : args = #[v0] := by cases args; simp_all
  obtain ⟨rfl, rfl⟩ := trodVars_none hV
  have k0 := h0
  have lt0 : ∀ x ∈ p0, x.block < W.heap.size := by obtain ⟨m, hm⟩ := k0; exact DataW.trod_lt m _ _ _ hm
  obtain ⟨y0, hK0, hG0⟩ := Opens.arg op39 h0 (sized_at (j := 0) hsz rfl rfl)
  obtain ⟨cs0, rfl, _⟩ := okWide_struct Tryd.underlying39 (hval 0 39 v0 rfl rfl)
  clear hA0 hval0 hsz0 hsz
  have hL2 : laidMetH Tryd.prog Rows.fnExactGenLockRow.laid W := hL
  have ht := tabO (tab_of hL2)
  clear hL hL2
  refine (law_tru co_laws_FnExactGenLock Tryd.func5 r_laws_FnExactGenLock ht (avs := [.agg (cGen y0)]) (VL_cons (V_agg hK0) VL_nil) rfl (law_FnExactGenLock y0 hG0)).mono fun e W' ⟨he, bel⟩ => ?_
  subst he
  exact ⟨_, rfl, _, _, _, [], _, [], hW', trodAll_mk1 (shut_bool Tryd.underlying4 _), (trodAll_cons_mk (Below.trod laidOut (by kernel_rfl) (of_decide_eq_true (by kernel_rfl)) k0 bel lt0) trodAll_mk0), rfl, bel.frame _, fun h => by cases h⟩
theorem and_ {a b : Bool} (h : a = true) (k : b = true) : (a && b) = true := by rw [h, k]; rfl
theorem jf0 : (Rows.fnExactGenLockRow.wf (OpenSpec.ofChange Rows.fnExactGenLockSpec)) = true := by kernel_rfl
theorem jf1 : (laidOutB Tryd.prog) = true := by kernel_rfl
theorem jf2 : (mapsRowed Tryd.prog) = true := by kernel_rfl
theorem jf3 : (Tryd.f5.params.all (Tryd.prog.readableRec ·)) = true := by kernel_rfl
theorem jf4 : (namedTie Tryd.prog Rows.fnExactGenLockRow.named Rows.fnExactGenLockSpec.vars) = true := by kernel_rfl
theorem jf5 : (Rows.fnExactGenLockRow.stops == []) = true := by kernel_rfl
theorem jf6 : (Tryd.prog.stops == []) = true := by kernel_rfl
theorem jf7 : (Rows.fnExactGenLockRow.knobs == []) = true := by kernel_rfl
theorem jf8 : (Tryd.prog.stopKnobs == []) = true := by kernel_rfl
theorem jf9 : (Rows.fnExactGenLockRow.inPlace == Tryd.prog.inPlace 5) = true := by kernel_rfl
theorem jf10 : (Rows.fnExactGenLockRow.unfollowed == Tryd.prog.unfollowed 5) = true := by kernel_rfl
theorem jf11 : (Rows.fnExactGenLockRow.recurses == Tryd.prog.recurses 5) = true := by kernel_rfl
theorem jf12 : (Rows.fnExactGenLockRow.named == Tryd.prog.varsNamed 5) = true := by kernel_rfl
theorem jf13 : (Rows.fnExactGenLockRow.maps == (Tryd.f5.params.toList ++ Rows.fnExactGenLockSpec.plain.varTypes Tryd.prog).any (Tryd.prog.mapsRec ·)) = true := by kernel_rfl
theorem jf14 : (Rows.fnExactGenLockRow.ifaces == (Tryd.f5.params.toList ++ Rows.fnExactGenLockSpec.plain.varTypes Tryd.prog).any (Tryd.prog.ifacesRec ·)) = true := by kernel_rfl
theorem jf15 : (Rows.fnExactGenLockRow.mapsOut == Tryd.prog.mapsAmong Tryd.f5.resultTypes.toList) = true := by kernel_rfl
theorem jf16 : (Rows.fnExactGenLockRow.loops == (Tryd.f5.params.toList ++ Rows.fnExactGenLockSpec.plain.varTypes Tryd.prog).any (Tryd.prog.loopsFrom ·)) = true := by kernel_rfl
theorem jf17 : (Rows.fnExactGenLockRow.wideKeys == (Tryd.f5.params.toList ++ Rows.fnExactGenLockSpec.plain.varTypes Tryd.prog ++ Tryd.f5.resultTypes.toList).any (Tryd.prog.wideKeysFrom ·)) = true := by kernel_rfl
theorem jf18 : (Rows.fnExactGenLockSpec.vars.all (Tryd.prog.varReadable ·)) = true := by kernel_rfl
theorem jf19 : (Tryd.f5.resultTypes.all (fun t => Tryd.prog.readableRec t && decide (t < Tryd.prog.types.size))) = true := by kernel_rfl
theorem jf20 : (Rows.fnExactGenLockRow.ifacesOut == Tryd.f5.resultTypes.toList.any (Tryd.prog.ifacesRec ·)) = true := by kernel_rfl
theorem jf21 : (Rows.fnExactGenLockRow.loopsOut == Tryd.f5.resultTypes.toList.any (Tryd.prog.loopsFrom ·)) = true := by kernel_rfl
theorem jf22 : (Rows.fnExactGenLockRow.plainKeys == Tryd.prog.plainKeys) = true := by kernel_rfl
theorem jf23 : (Rows.fnExactGenLockRow.shortTexts.isNone) = true := by kernel_rfl
theorem jf24 : (Tryd.prog.stopsHeard) = true := by kernel_rfl
theorem jf25 : (Tryd.prog.mayEnter) = true := by kernel_rfl
theorem jf26 : (Rows.fnExactGenLockRow.lifted == Tryd.prog.liftsFinal) = true := by kernel_rfl
theorem jf27 : (Tryd.prog.make == some Rows.fnExactGenLockRow.make) = true := by kernel_rfl
theorem jf28 : (Rows.fnExactGenLockRow.kinds == (if Rows.fnExactGenLockRow.domain.isEmpty then [] else Tryd.f5.params.toList.map fun t => match Tryd.prog.underlying t with | some (.int k) => some k | _ => none)) = true := by kernel_rfl
theorem jf29 : (Rows.fnExactGenLockRow.pinned == Rows.fnExactGenLockRow.pinnedBy) = true := by kernel_rfl
theorem jf30 : (Rows.fnExactGenLockRow.veiled == (Tryd.f5.params.toList ++ Rows.fnExactGenLockSpec.plain.varTypes Tryd.prog ++ Tryd.f5.resultTypes.toList).any (Tryd.prog.veiledRec ·)) = true := by kernel_rfl
theorem jf31 : (Rows.fnExactGenLockRow.veiledFits Tryd.prog Tryd.f5.params.toList (Tryd.f5.params.toList ++ Rows.fnExactGenLockSpec.plain.varTypes Tryd.prog ++ Tryd.f5.resultTypes.toList)) = true := by kernel_rfl
set_option maxRecDepth 1000000 in
theorem closed : joinedFacts Tryd.prog 5 Tryd.f5 Rows.fnExactGenLockSpec Rows.fnExactGenLockRow = true := by
  unfold joinedFacts
  exact (and_ (and_ (and_ (and_ (and_ (and_ (and_ (and_ (and_ (and_ (and_ (and_ (and_ (and_ (and_ (and_ (and_ (and_ (and_ (and_ (and_ (and_ (and_ (and_ (and_ (and_ (and_ (and_ (and_ (and_ (and_ jf0 jf1) jf2) jf3) jf4) jf5) jf6) jf7) jf8) jf9) jf10) jf11) jf12) jf13) jf14) jf15) jf16) jf17) jf18) jf19) jf20) jf21) jf22) jf23) jf24) jf25) jf26) jf27) jf28) jf29) jf30) jf31)
theorem atName : Tryd.prog.funcNamed Rows.fnExactGenLockRow.func = some 5 := by kernel_rfl
theorem wrapped : Tryd.f5.isWrapper Tryd.prog Rows.fnExactGenLockRow.wrapper Rows.fnExactGenLockRow.mainSum := by unfold Func.isWrapper; first | (rw [if_pos (by decide +kernel)]; kernel_rfl) | (rw [if_neg (by decide +kernel)]; exact ⟨rfl, rfl⟩)
theorem over : Rows.fnExactGenLockRow.holds Tryd.pinned (OpenSpec.ofChange Rows.fnExactGenLockSpec) :=
  OpenClaim.holds_of_wide 5 Tryd.f5 rfl rfl rfl rfl rfl rfl rfl ⟨rfl, rfl, rfl, rfl, rfl⟩ rfl rfl rfl rfl rfl atName Tryd.func5 closed
    (of_decide_eq_true (by kernel_rfl)) wrapped
    (fun os started H enc _ => lifted os started H enc)
theorem proved : Rows.FnExactGenLockSaid := over
theorem card : Rows.FnExactGenLockCardSaid :=
  Claim7.holds_tied_plain_at .later [] [.data, .data, .data] true (true, "272284c72538fcbd8cd555446f3eed91101ff20f9b81efe0dfbf9ac62364b653") false proved (fun _ h => by cases h) (by kernel_rfl) (fun _ h => by cases h) fnExactGenLock_row_tie rfl ⟨rfl, rfl⟩ (by kernel_rfl) rfl
    (fun f fn hf hfn => by
      obtain rfl := Option.some.inj (atName.symm.trans hf)
      obtain rfl := Option.some.inj (Tryd.func5.symm.trans hfn)
      exact ⟨by kernel_rfl, fun j t ht => by
        rw [Tryd.params5] at ht
        have hm : t ∈ [39] := by simpa using Array.mem_of_getElem? ht
        have hall : ([39].all fun u => !Tryd.prog.wantsStandIn u) = true := by kernel_rfl
        exact (show Tryd.prog.wantsStandIn t = false by simpa using List.all_eq_true.1 hall t hm)⟩)
    (by kernel_rfl)
#print axioms card
end Go.Proofs.YtfoapfilmkapjaaDoor.fnExactGenLock
namespace Go.Proofs.YtfoapfilmkapjaaDoor
/-- The row, under a short name, for the claim. -/
theorem fnExactGenLock_holds : Rows.FnExactGenLockCardSaid := fnExactGenLock.card
end Go.Proofs.YtfoapfilmkapjaaDoor
