/-
  No cell of these rows narrows 'for every input' (looked for: loops, veiled, ifaces, maps, wideKeys, modest, calm, conditions, laid).
  DERIVED. THE GIVEN ROWS OF THIS SEAT. 10 by the template 'for every input the law returns true; each argument reads behind the call as it read before'; 0 by the template 'total and deterministic' (their statements: YthdbglhdadinkaaTotals.lean).
  GIVEN WITH THE SEED: the statements are not yours to turn. If you find one false, say at which input.
  Laid BY PROGRAM, IN A SANDBOX (cutbox-rows.mjs): the forced cells as the released guide's own fill.sh prints them over the translation d6174435d3b3b831… (all of the seat's roots in one cut). By AI agents, Wed Nov 11 2026. No macro, syntax, notation, axiom, sorry.
-/
import Derived.Test.YthdbglhdadinkaaChecked
import GoSem.Claim
import GoSem.ClaimJoined
import GoSem.ClaimMapViews
import Derived.JoinedTies
import Derived.KernelRfl
namespace Go.Proofs.Ythdbglhdadinkaa
/- THE CELL 'sum', in the pinned program and in every row, IS THE sha256 OF THE DUMP (.gsa) THAT YthdbglhdadinkaaProg.lean LOADS. Nothing in Lean hashes anything: it is a label: what it is worth is what the hold of that sum in a sandbox is worth. -/
noncomputable def Try.pinned : Pinned := { name := "ythdbglhdadinkaa", sum := "d6174435d3b3b8311802f5e15cfc94afcbedb19bac6a4f4522c04905e065af81", checked := Try.checked }
namespace Rows
def none {H : Type} : Left H := { results := [], args := [] }

/-- 'laws.FnExactIdle': WHATEVER THE INPUT: true; the input reads as it did. -/
def fnExactIdleSpec : ChangeSpec := { name := "fnExactIdle", fn := fun _ => fun
  | [d] => { results := [.lit (.bool true)], args := [d] }
  | _ => none }
def fnExactIdleRow : OpenClaim := { program := "ythdbglhdadinkaa", sum := "d6174435d3b3b8311802f5e15cfc94afcbedb19bac6a4f4522c04905e065af81", func := "loop.example/g00290/laws.FnExactIdle", spec := "fnExactIdle", unfollowed := true, recurses := true, apart := false }
def FnExactIdleSaid : Prop := fnExactIdleRow.holds Try.pinned (OpenSpec.ofChange fnExactIdleSpec)

/-- ITS FALSE NEIGHBOUR: 'it returns false'. Refute it at one input. -/
def fnExactIdleWrong : ChangeSpec := { name := "fnExactIdle", fn := fun _ => fun
  | [d] => { results := [.lit (.bool false)], args := [d] }
  | _ => none }
def FnExactIdleWrongFalsely : Prop := fnExactIdleRow.holds Try.pinned (OpenSpec.ofChange fnExactIdleWrong)

/-- 'laws.FnExactReadImage': WHATEVER THE INPUT: true; the input reads as it did. -/
def fnExactReadImageSpec : ChangeSpec := { name := "fnExactReadImage", fn := fun _ => fun
  | [d] => { results := [.lit (.bool true)], args := [d] }
  | _ => none }
def fnExactReadImageRow : OpenClaim := { program := "ythdbglhdadinkaa", sum := "d6174435d3b3b8311802f5e15cfc94afcbedb19bac6a4f4522c04905e065af81", func := "loop.example/g00290/laws.FnExactReadImage", spec := "fnExactReadImage", apart := false }
def FnExactReadImageSaid : Prop := fnExactReadImageRow.holds Try.pinned (OpenSpec.ofChange fnExactReadImageSpec)

/-- ITS FALSE NEIGHBOUR: 'it returns false'. Refute it at one input. -/
def fnExactReadImageWrong : ChangeSpec := { name := "fnExactReadImage", fn := fun _ => fun
  | [d] => { results := [.lit (.bool false)], args := [d] }
  | _ => none }
def FnExactReadImageWrongFalsely : Prop := fnExactReadImageRow.holds Try.pinned (OpenSpec.ofChange fnExactReadImageWrong)

/-- 'laws.FnExactHold': WHATEVER THE INPUT: true; the input reads as it did. -/
def fnExactHoldSpec : ChangeSpec := { name := "fnExactHold", fn := fun _ => fun
  | [d1, d2] => { results := [.lit (.bool true)], args := [d1, d2] }
  | _ => none }
def fnExactHoldRow : OpenClaim := { program := "ythdbglhdadinkaa", sum := "d6174435d3b3b8311802f5e15cfc94afcbedb19bac6a4f4522c04905e065af81", func := "loop.example/g00290/laws.FnExactHold", spec := "fnExactHold", apart := false }
def FnExactHoldSaid : Prop := fnExactHoldRow.holds Try.pinned (OpenSpec.ofChange fnExactHoldSpec)

/-- ITS FALSE NEIGHBOUR: 'it returns false'. Refute it at one input. -/
def fnExactHoldWrong : ChangeSpec := { name := "fnExactHold", fn := fun _ => fun
  | [d1, d2] => { results := [.lit (.bool false)], args := [d1, d2] }
  | _ => none }
def FnExactHoldWrongFalsely : Prop := fnExactHoldRow.holds Try.pinned (OpenSpec.ofChange fnExactHoldWrong)

/-- 'laws.FnExactStepCore': WHATEVER THE INPUT: true; the input reads as it did. -/
def fnExactStepCoreSpec : ChangeSpec := { name := "fnExactStepCore", fn := fun _ => fun
  | [d1, d2, d3] => { results := [.lit (.bool true)], args := [d1, d2, d3] }
  | _ => none }
def fnExactStepCoreRow : OpenClaim := { program := "ythdbglhdadinkaa", sum := "d6174435d3b3b8311802f5e15cfc94afcbedb19bac6a4f4522c04905e065af81", func := "loop.example/g00290/laws.FnExactStepCore", spec := "fnExactStepCore", unfollowed := true, recurses := true, apart := false }
def FnExactStepCoreSaid : Prop := fnExactStepCoreRow.holds Try.pinned (OpenSpec.ofChange fnExactStepCoreSpec)

/-- ITS FALSE NEIGHBOUR: 'it returns false'. Refute it at one input. -/
def fnExactStepCoreWrong : ChangeSpec := { name := "fnExactStepCore", fn := fun _ => fun
  | [d1, d2, d3] => { results := [.lit (.bool false)], args := [d1, d2, d3] }
  | _ => none }
def FnExactStepCoreWrongFalsely : Prop := fnExactStepCoreRow.holds Try.pinned (OpenSpec.ofChange fnExactStepCoreWrong)

/-- 'laws.FnExactPick': WHATEVER THE INPUT: true; the input reads as it did. -/
def fnExactPickSpec : ChangeSpec := { name := "fnExactPick", fn := fun _ => fun
  | [d] => { results := [.lit (.bool true)], args := [d] }
  | _ => none }
def fnExactPickRow : OpenClaim := { program := "ythdbglhdadinkaa", sum := "d6174435d3b3b8311802f5e15cfc94afcbedb19bac6a4f4522c04905e065af81", func := "loop.example/g00290/laws.FnExactPick", spec := "fnExactPick", apart := false }
def FnExactPickSaid : Prop := fnExactPickRow.holds Try.pinned (OpenSpec.ofChange fnExactPickSpec)

/-- ITS FALSE NEIGHBOUR: 'it returns false'. Refute it at one input. -/
def fnExactPickWrong : ChangeSpec := { name := "fnExactPick", fn := fun _ => fun
  | [d] => { results := [.lit (.bool false)], args := [d] }
  | _ => none }
def FnExactPickWrongFalsely : Prop := fnExactPickRow.holds Try.pinned (OpenSpec.ofChange fnExactPickWrong)

/-- 'laws.FnExactWake': WHATEVER THE INPUT: true; the input reads as it did. -/
def fnExactWakeSpec : ChangeSpec := { name := "fnExactWake", fn := fun _ => fun
  | [d1, d2] => { results := [.lit (.bool true)], args := [d1, d2] }
  | _ => none }
def fnExactWakeRow : OpenClaim := { program := "ythdbglhdadinkaa", sum := "d6174435d3b3b8311802f5e15cfc94afcbedb19bac6a4f4522c04905e065af81", func := "loop.example/g00290/laws.FnExactWake", spec := "fnExactWake", apart := false }
def FnExactWakeSaid : Prop := fnExactWakeRow.holds Try.pinned (OpenSpec.ofChange fnExactWakeSpec)

/-- ITS FALSE NEIGHBOUR: 'it returns false'. Refute it at one input. -/
def fnExactWakeWrong : ChangeSpec := { name := "fnExactWake", fn := fun _ => fun
  | [d1, d2] => { results := [.lit (.bool false)], args := [d1, d2] }
  | _ => none }
def FnExactWakeWrongFalsely : Prop := fnExactWakeRow.holds Try.pinned (OpenSpec.ofChange fnExactWakeWrong)

/-- 'laws.FnExactSharedAt': WHATEVER THE INPUT: true; the input reads as it did. -/
def fnExactSharedAtSpec : ChangeSpec := { name := "fnExactSharedAt", fn := fun _ => fun
  | [d1, d2, d3] => { results := [.lit (.bool true)], args := [d1, d2, d3] }
  | _ => none }
def fnExactSharedAtRow : OpenClaim := { program := "ythdbglhdadinkaa", sum := "d6174435d3b3b8311802f5e15cfc94afcbedb19bac6a4f4522c04905e065af81", func := "loop.example/g00290/laws.FnExactSharedAt", spec := "fnExactSharedAt", apart := false }
def FnExactSharedAtSaid : Prop := fnExactSharedAtRow.holds Try.pinned (OpenSpec.ofChange fnExactSharedAtSpec)

/-- ITS FALSE NEIGHBOUR: 'it returns false'. Refute it at one input. -/
def fnExactSharedAtWrong : ChangeSpec := { name := "fnExactSharedAt", fn := fun _ => fun
  | [d1, d2, d3] => { results := [.lit (.bool false)], args := [d1, d2, d3] }
  | _ => none }
def FnExactSharedAtWrongFalsely : Prop := fnExactSharedAtRow.holds Try.pinned (OpenSpec.ofChange fnExactSharedAtWrong)

/-- 'laws.FnExactSizeOf': WHATEVER THE INPUT: true; the input reads as it did. -/
def fnExactSizeOfSpec : ChangeSpec := { name := "fnExactSizeOf", fn := fun _ => fun
  | [d] => { results := [.lit (.bool true)], args := [d] }
  | _ => none }
def fnExactSizeOfRow : OpenClaim := { program := "ythdbglhdadinkaa", sum := "d6174435d3b3b8311802f5e15cfc94afcbedb19bac6a4f4522c04905e065af81", func := "loop.example/g00290/laws.FnExactSizeOf", spec := "fnExactSizeOf", apart := false }
def FnExactSizeOfSaid : Prop := fnExactSizeOfRow.holds Try.pinned (OpenSpec.ofChange fnExactSizeOfSpec)

/-- ITS FALSE NEIGHBOUR: 'it returns false'. Refute it at one input. -/
def fnExactSizeOfWrong : ChangeSpec := { name := "fnExactSizeOf", fn := fun _ => fun
  | [d] => { results := [.lit (.bool false)], args := [d] }
  | _ => none }
def FnExactSizeOfWrongFalsely : Prop := fnExactSizeOfRow.holds Try.pinned (OpenSpec.ofChange fnExactSizeOfWrong)

/-- 'laws.FnExactMachineVerdict': WHATEVER THE INPUT: true; the input reads as it did. -/
def fnExactMachineVerdictSpec : ChangeSpec := { name := "fnExactMachineVerdict", fn := fun _ => fun
  | [d] => { results := [.lit (.bool true)], args := [d] }
  | _ => none }
def fnExactMachineVerdictRow : OpenClaim := { program := "ythdbglhdadinkaa", sum := "d6174435d3b3b8311802f5e15cfc94afcbedb19bac6a4f4522c04905e065af81", func := "loop.example/g00290/laws.FnExactMachineVerdict", spec := "fnExactMachineVerdict", unfollowed := true, recurses := true, apart := false }
def FnExactMachineVerdictSaid : Prop := fnExactMachineVerdictRow.holds Try.pinned (OpenSpec.ofChange fnExactMachineVerdictSpec)

/-- ITS FALSE NEIGHBOUR: 'it returns false'. Refute it at one input. -/
def fnExactMachineVerdictWrong : ChangeSpec := { name := "fnExactMachineVerdict", fn := fun _ => fun
  | [d] => { results := [.lit (.bool false)], args := [d] }
  | _ => none }
def FnExactMachineVerdictWrongFalsely : Prop := fnExactMachineVerdictRow.holds Try.pinned (OpenSpec.ofChange fnExactMachineVerdictWrong)

/-- 'laws.FnExactVarAt': WHATEVER THE INPUT: true; the input reads as it did. -/
def fnExactVarAtSpec : ChangeSpec := { name := "fnExactVarAt", fn := fun _ => fun
  | [d1, d2, d3] => { results := [.lit (.bool true)], args := [d1, d2, d3] }
  | _ => none }
def fnExactVarAtRow : OpenClaim := { program := "ythdbglhdadinkaa", sum := "d6174435d3b3b8311802f5e15cfc94afcbedb19bac6a4f4522c04905e065af81", func := "loop.example/g00290/laws.FnExactVarAt", spec := "fnExactVarAt", apart := false }
def FnExactVarAtSaid : Prop := fnExactVarAtRow.holds Try.pinned (OpenSpec.ofChange fnExactVarAtSpec)

/-- ITS FALSE NEIGHBOUR: 'it returns false'. Refute it at one input. -/
def fnExactVarAtWrong : ChangeSpec := { name := "fnExactVarAt", fn := fun _ => fun
  | [d1, d2, d3] => { results := [.lit (.bool false)], args := [d1, d2, d3] }
  | _ => none }
def FnExactVarAtWrongFalsely : Prop := fnExactVarAtRow.holds Try.pinned (OpenSpec.ofChange fnExactVarAtWrong)

/- THE SECOND FORM. 'bulk': how many values and letters a reading holds, each counted each time it is reached (what is shared counts as often as it is met; a slice's spare places count too). A statement '..UptoSaid' is the law's where the arguments, and the package variables that the reading takes, are together of bulk at most 1048576: NARROWER than '..Said'. Prove '..Said' where nothing that the law and all that it calls make is longer than what came in: it says more and counts as full. Else prove '..UptoSaid'. A law counts once. -/
mutual
def uptoBulk {H : Type} : DataW H → Nat
  | .lit (.string bytes) => bytes.length + 1
  | .lit _ => 1
  | .nil => 1
  | .ptr d => uptoBulk d + 1
  | .slice elems spare => uptoBulkAll elems + uptoBulkAll spare + 1
  | .agg parts => uptoBulkAll parts + 1
  | .iface _ d => uptoBulk d + 1
  | .map entries => uptoBulkEntries entries + 1
  | .held _ => 1
def uptoBulkAll {H : Type} : List (DataW H) → Nat
  | [] => 0
  | d :: r => uptoBulk d + uptoBulkAll r
def uptoBulkEntries {H : Type} : List (Lit × DataW H) → Nat
  | [] => 0
  | x :: r => uptoBulkEntry x + uptoBulkEntries r
def uptoBulkEntry {H : Type} : Lit × DataW H → Nat
  | (.string bytes, d) => bytes.length + uptoBulk d + 1
  | (_, d) => uptoBulk d + 1
 end
def uptoSmall : (H : Type) → List (DataW H) → Bool := fun _ ds => decide (uptoBulkAll ds ≤ 1048576)
def OpenSpec.upto (s : _root_.Go.ChangeSpec) : _root_.Go.OpenSpec := { _root_.Go.OpenSpec.ofChange s with cond := some uptoSmall }

/-- 'laws.FnExactIdle', WHERE WHAT IT READS IS OF BULK AT MOST 1048576: true; the input reads as it did. -/
def fnExactIdleUptoRow : OpenClaim := { program := "ythdbglhdadinkaa", sum := "d6174435d3b3b8311802f5e15cfc94afcbedb19bac6a4f4522c04905e065af81", func := "loop.example/g00290/laws.FnExactIdle", spec := "fnExactIdle", unfollowed := true, recurses := true, apart := false, narrowed := true }
def FnExactIdleUptoSaid : Prop := fnExactIdleUptoRow.holds Try.pinned (OpenSpec.upto fnExactIdleSpec)

/-- 'laws.FnExactReadImage', WHERE WHAT IT READS IS OF BULK AT MOST 1048576: true; the input reads as it did. -/
def fnExactReadImageUptoRow : OpenClaim := { program := "ythdbglhdadinkaa", sum := "d6174435d3b3b8311802f5e15cfc94afcbedb19bac6a4f4522c04905e065af81", func := "loop.example/g00290/laws.FnExactReadImage", spec := "fnExactReadImage", apart := false, narrowed := true }
def FnExactReadImageUptoSaid : Prop := fnExactReadImageUptoRow.holds Try.pinned (OpenSpec.upto fnExactReadImageSpec)

/-- 'laws.FnExactHold', WHERE WHAT IT READS IS OF BULK AT MOST 1048576: true; the input reads as it did. -/
def fnExactHoldUptoRow : OpenClaim := { program := "ythdbglhdadinkaa", sum := "d6174435d3b3b8311802f5e15cfc94afcbedb19bac6a4f4522c04905e065af81", func := "loop.example/g00290/laws.FnExactHold", spec := "fnExactHold", apart := false, narrowed := true }
def FnExactHoldUptoSaid : Prop := fnExactHoldUptoRow.holds Try.pinned (OpenSpec.upto fnExactHoldSpec)

/-- 'laws.FnExactStepCore', WHERE WHAT IT READS IS OF BULK AT MOST 1048576: true; the input reads as it did. -/
def fnExactStepCoreUptoRow : OpenClaim := { program := "ythdbglhdadinkaa", sum := "d6174435d3b3b8311802f5e15cfc94afcbedb19bac6a4f4522c04905e065af81", func := "loop.example/g00290/laws.FnExactStepCore", spec := "fnExactStepCore", unfollowed := true, recurses := true, apart := false, narrowed := true }
def FnExactStepCoreUptoSaid : Prop := fnExactStepCoreUptoRow.holds Try.pinned (OpenSpec.upto fnExactStepCoreSpec)

/-- 'laws.FnExactPick', WHERE WHAT IT READS IS OF BULK AT MOST 1048576: true; the input reads as it did. -/
def fnExactPickUptoRow : OpenClaim := { program := "ythdbglhdadinkaa", sum := "d6174435d3b3b8311802f5e15cfc94afcbedb19bac6a4f4522c04905e065af81", func := "loop.example/g00290/laws.FnExactPick", spec := "fnExactPick", apart := false, narrowed := true }
def FnExactPickUptoSaid : Prop := fnExactPickUptoRow.holds Try.pinned (OpenSpec.upto fnExactPickSpec)

/-- 'laws.FnExactWake', WHERE WHAT IT READS IS OF BULK AT MOST 1048576: true; the input reads as it did. -/
def fnExactWakeUptoRow : OpenClaim := { program := "ythdbglhdadinkaa", sum := "d6174435d3b3b8311802f5e15cfc94afcbedb19bac6a4f4522c04905e065af81", func := "loop.example/g00290/laws.FnExactWake", spec := "fnExactWake", apart := false, narrowed := true }
def FnExactWakeUptoSaid : Prop := fnExactWakeUptoRow.holds Try.pinned (OpenSpec.upto fnExactWakeSpec)

/-- 'laws.FnExactSharedAt', WHERE WHAT IT READS IS OF BULK AT MOST 1048576: true; the input reads as it did. -/
def fnExactSharedAtUptoRow : OpenClaim := { program := "ythdbglhdadinkaa", sum := "d6174435d3b3b8311802f5e15cfc94afcbedb19bac6a4f4522c04905e065af81", func := "loop.example/g00290/laws.FnExactSharedAt", spec := "fnExactSharedAt", apart := false, narrowed := true }
def FnExactSharedAtUptoSaid : Prop := fnExactSharedAtUptoRow.holds Try.pinned (OpenSpec.upto fnExactSharedAtSpec)

/-- 'laws.FnExactSizeOf', WHERE WHAT IT READS IS OF BULK AT MOST 1048576: true; the input reads as it did. -/
def fnExactSizeOfUptoRow : OpenClaim := { program := "ythdbglhdadinkaa", sum := "d6174435d3b3b8311802f5e15cfc94afcbedb19bac6a4f4522c04905e065af81", func := "loop.example/g00290/laws.FnExactSizeOf", spec := "fnExactSizeOf", apart := false, narrowed := true }
def FnExactSizeOfUptoSaid : Prop := fnExactSizeOfUptoRow.holds Try.pinned (OpenSpec.upto fnExactSizeOfSpec)

/-- 'laws.FnExactMachineVerdict', WHERE WHAT IT READS IS OF BULK AT MOST 1048576: true; the input reads as it did. -/
def fnExactMachineVerdictUptoRow : OpenClaim := { program := "ythdbglhdadinkaa", sum := "d6174435d3b3b8311802f5e15cfc94afcbedb19bac6a4f4522c04905e065af81", func := "loop.example/g00290/laws.FnExactMachineVerdict", spec := "fnExactMachineVerdict", unfollowed := true, recurses := true, apart := false, narrowed := true }
def FnExactMachineVerdictUptoSaid : Prop := fnExactMachineVerdictUptoRow.holds Try.pinned (OpenSpec.upto fnExactMachineVerdictSpec)

/-- 'laws.FnExactVarAt', WHERE WHAT IT READS IS OF BULK AT MOST 1048576: true; the input reads as it did. -/
def fnExactVarAtUptoRow : OpenClaim := { program := "ythdbglhdadinkaa", sum := "d6174435d3b3b8311802f5e15cfc94afcbedb19bac6a4f4522c04905e065af81", func := "loop.example/g00290/laws.FnExactVarAt", spec := "fnExactVarAt", apart := false, narrowed := true }
def FnExactVarAtUptoSaid : Prop := fnExactVarAtUptoRow.holds Try.pinned (OpenSpec.upto fnExactVarAtSpec)

end Rows
end Go.Proofs.Ythdbglhdadinkaa
