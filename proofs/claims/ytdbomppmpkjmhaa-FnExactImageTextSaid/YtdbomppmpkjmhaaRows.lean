/-
  No cell of these rows narrows 'for every input' (looked for: loops, veiled, ifaces, maps, wideKeys, modest, calm, conditions, laid).
  DERIVED. THE GIVEN ROWS OF THIS SEAT. 11 by the template 'for every input the law returns true; each argument reads behind the call as it read before'; 0 by the template 'total and deterministic' (their statements: YtdbomppmpkjmhaaTotals.lean).
  GIVEN WITH THE SEED: the statements are not yours to turn. If you find one false, say at which input.
  Laid BY PROGRAM, IN A SANDBOX (cutbox-rows.mjs): the forced cells as the released guide's own fill.sh prints them over the translation 68039c51df8f7afd… (all of the seat's roots in one cut). By AI agents, Wed Nov 11 2026. No macro, syntax, notation, axiom, sorry.
-/
import Derived.Test.YtdbomppmpkjmhaaChecked
import GoSem.Claim
import GoSem.ClaimJoined
import GoSem.ClaimMapViews
import Derived.JoinedTies
import Derived.KernelRfl
namespace Go.Proofs.Ytdbomppmpkjmhaa
/- THE CELL 'sum', in the pinned program and in every row, IS THE sha256 OF THE DUMP (.gsa) THAT YtdbomppmpkjmhaaProg.lean LOADS. Nothing in Lean hashes anything: it is a label: what it is worth is what the hold of that sum in a sandbox is worth. -/
noncomputable def Try.pinned : Pinned := { name := "ytdbomppmpkjmhaa", sum := "68039c51df8f7afd90b1bebbee9208aaacf29d2d2c57d04e0c83ddb5db240ee6", checked := Try.checked }
namespace Rows
def none {H : Type} : Left H := { results := [], args := [] }

/-- 'laws.FnExactLinesOk': WHATEVER THE INPUT: true; the input reads as it did. -/
def fnExactLinesOkSpec : ChangeSpec := { name := "fnExactLinesOk", fn := fun _ => fun
  | [d] => { results := [.lit (.bool true)], args := [d] }
  | _ => none }
def fnExactLinesOkRow : OpenClaim := { program := "ytdbomppmpkjmhaa", sum := "68039c51df8f7afd90b1bebbee9208aaacf29d2d2c57d04e0c83ddb5db240ee6", func := "loop.example/g00290/laws.FnExactLinesOk", spec := "fnExactLinesOk", unfollowed := true, recurses := true, apart := false }
def FnExactLinesOkSaid : Prop := fnExactLinesOkRow.holds Try.pinned (OpenSpec.ofChange fnExactLinesOkSpec)

/-- ITS FALSE NEIGHBOUR: 'it returns false'. Refute it at one input. -/
def fnExactLinesOkWrong : ChangeSpec := { name := "fnExactLinesOk", fn := fun _ => fun
  | [d] => { results := [.lit (.bool false)], args := [d] }
  | _ => none }
def FnExactLinesOkWrongFalsely : Prop := fnExactLinesOkRow.holds Try.pinned (OpenSpec.ofChange fnExactLinesOkWrong)

/-- 'laws.FnExactArrive': WHATEVER THE INPUT: true; the input reads as it did. -/
def fnExactArriveSpec : ChangeSpec := { name := "fnExactArrive", fn := fun _ => fun
  | [d1, d2] => { results := [.lit (.bool true)], args := [d1, d2] }
  | _ => none }
def fnExactArriveRow : OpenClaim := { program := "ytdbomppmpkjmhaa", sum := "68039c51df8f7afd90b1bebbee9208aaacf29d2d2c57d04e0c83ddb5db240ee6", func := "loop.example/g00290/laws.FnExactArrive", spec := "fnExactArrive", apart := false }
def FnExactArriveSaid : Prop := fnExactArriveRow.holds Try.pinned (OpenSpec.ofChange fnExactArriveSpec)

/-- ITS FALSE NEIGHBOUR: 'it returns false'. Refute it at one input. -/
def fnExactArriveWrong : ChangeSpec := { name := "fnExactArrive", fn := fun _ => fun
  | [d1, d2] => { results := [.lit (.bool false)], args := [d1, d2] }
  | _ => none }
def FnExactArriveWrongFalsely : Prop := fnExactArriveRow.holds Try.pinned (OpenSpec.ofChange fnExactArriveWrong)

/-- 'laws.FnExactLeave': WHATEVER THE INPUT: true; the input reads as it did. -/
def fnExactLeaveSpec : ChangeSpec := { name := "fnExactLeave", fn := fun _ => fun
  | [d] => { results := [.lit (.bool true)], args := [d] }
  | _ => none }
def fnExactLeaveRow : OpenClaim := { program := "ytdbomppmpkjmhaa", sum := "68039c51df8f7afd90b1bebbee9208aaacf29d2d2c57d04e0c83ddb5db240ee6", func := "loop.example/g00290/laws.FnExactLeave", spec := "fnExactLeave", apart := false }
def FnExactLeaveSaid : Prop := fnExactLeaveRow.holds Try.pinned (OpenSpec.ofChange fnExactLeaveSpec)

/-- ITS FALSE NEIGHBOUR: 'it returns false'. Refute it at one input. -/
def fnExactLeaveWrong : ChangeSpec := { name := "fnExactLeave", fn := fun _ => fun
  | [d] => { results := [.lit (.bool false)], args := [d] }
  | _ => none }
def FnExactLeaveWrongFalsely : Prop := fnExactLeaveRow.holds Try.pinned (OpenSpec.ofChange fnExactLeaveWrong)

/-- 'laws.FnExactDelayIn': WHATEVER THE INPUT: true; the input reads as it did. -/
def fnExactDelayInSpec : ChangeSpec := { name := "fnExactDelayIn", fn := fun _ => fun
  | [d1, d2] => { results := [.lit (.bool true)], args := [d1, d2] }
  | _ => none }
def fnExactDelayInRow : OpenClaim := { program := "ytdbomppmpkjmhaa", sum := "68039c51df8f7afd90b1bebbee9208aaacf29d2d2c57d04e0c83ddb5db240ee6", func := "loop.example/g00290/laws.FnExactDelayIn", spec := "fnExactDelayIn", apart := false }
def FnExactDelayInSaid : Prop := fnExactDelayInRow.holds Try.pinned (OpenSpec.ofChange fnExactDelayInSpec)

/-- ITS FALSE NEIGHBOUR: 'it returns false'. Refute it at one input. -/
def fnExactDelayInWrong : ChangeSpec := { name := "fnExactDelayIn", fn := fun _ => fun
  | [d1, d2] => { results := [.lit (.bool false)], args := [d1, d2] }
  | _ => none }
def FnExactDelayInWrongFalsely : Prop := fnExactDelayInRow.holds Try.pinned (OpenSpec.ofChange fnExactDelayInWrong)

/-- 'laws.FnExactContinueAt': WHATEVER THE INPUT: true; the input reads as it did. -/
def fnExactContinueAtSpec : ChangeSpec := { name := "fnExactContinueAt", fn := fun _ => fun
  | [d1, d2] => { results := [.lit (.bool true)], args := [d1, d2] }
  | _ => none }
def fnExactContinueAtRow : OpenClaim := { program := "ytdbomppmpkjmhaa", sum := "68039c51df8f7afd90b1bebbee9208aaacf29d2d2c57d04e0c83ddb5db240ee6", func := "loop.example/g00290/laws.FnExactContinueAt", spec := "fnExactContinueAt", apart := false }
def FnExactContinueAtSaid : Prop := fnExactContinueAtRow.holds Try.pinned (OpenSpec.ofChange fnExactContinueAtSpec)

/-- ITS FALSE NEIGHBOUR: 'it returns false'. Refute it at one input. -/
def fnExactContinueAtWrong : ChangeSpec := { name := "fnExactContinueAt", fn := fun _ => fun
  | [d1, d2] => { results := [.lit (.bool false)], args := [d1, d2] }
  | _ => none }
def FnExactContinueAtWrongFalsely : Prop := fnExactContinueAtRow.holds Try.pinned (OpenSpec.ofChange fnExactContinueAtWrong)

/-- 'laws.FnGates': WHATEVER THE INPUT: true; the input reads as it did. -/
def fnGatesSpec : ChangeSpec := { name := "fnGates", fn := fun _ => fun
  | [d] => { results := [.lit (.bool true)], args := [d] }
  | _ => none }
def fnGatesRow : OpenClaim := { program := "ytdbomppmpkjmhaa", sum := "68039c51df8f7afd90b1bebbee9208aaacf29d2d2c57d04e0c83ddb5db240ee6", func := "loop.example/g00290/laws.FnGates", spec := "fnGates", apart := false }
def FnGatesSaid : Prop := fnGatesRow.holds Try.pinned (OpenSpec.ofChange fnGatesSpec)

/-- ITS FALSE NEIGHBOUR: 'it returns false'. Refute it at one input. -/
def fnGatesWrong : ChangeSpec := { name := "fnGates", fn := fun _ => fun
  | [d] => { results := [.lit (.bool false)], args := [d] }
  | _ => none }
def FnGatesWrongFalsely : Prop := fnGatesRow.holds Try.pinned (OpenSpec.ofChange fnGatesWrong)

/-- 'laws.FnExactImageText': WHATEVER THE INPUT: true; the input reads as it did. -/
def fnExactImageTextSpec : ChangeSpec := { name := "fnExactImageText", fn := fun _ => fun
  | [d] => { results := [.lit (.bool true)], args := [d] }
  | _ => none }
def fnExactImageTextRow : OpenClaim := { program := "ytdbomppmpkjmhaa", sum := "68039c51df8f7afd90b1bebbee9208aaacf29d2d2c57d04e0c83ddb5db240ee6", func := "loop.example/g00290/laws.FnExactImageText", spec := "fnExactImageText", apart := false }
def FnExactImageTextSaid : Prop := fnExactImageTextRow.holds Try.pinned (OpenSpec.ofChange fnExactImageTextSpec)

/-- ITS FALSE NEIGHBOUR: 'it returns false'. Refute it at one input. -/
def fnExactImageTextWrong : ChangeSpec := { name := "fnExactImageText", fn := fun _ => fun
  | [d] => { results := [.lit (.bool false)], args := [d] }
  | _ => none }
def FnExactImageTextWrongFalsely : Prop := fnExactImageTextRow.holds Try.pinned (OpenSpec.ofChange fnExactImageTextWrong)

/-- 'laws.FnCoresTold': WHATEVER THE INPUT: true; the input reads as it did. -/
def fnCoresToldSpec : ChangeSpec := { name := "fnCoresTold", fn := fun _ => fun
  | [d] => { results := [.lit (.bool true)], args := [d] }
  | _ => none }
def fnCoresToldRow : OpenClaim := { program := "ytdbomppmpkjmhaa", sum := "68039c51df8f7afd90b1bebbee9208aaacf29d2d2c57d04e0c83ddb5db240ee6", func := "loop.example/g00290/laws.FnCoresTold", spec := "fnCoresTold", unfollowed := true, recurses := true, apart := false }
def FnCoresToldSaid : Prop := fnCoresToldRow.holds Try.pinned (OpenSpec.ofChange fnCoresToldSpec)

/-- ITS FALSE NEIGHBOUR: 'it returns false'. Refute it at one input. -/
def fnCoresToldWrong : ChangeSpec := { name := "fnCoresTold", fn := fun _ => fun
  | [d] => { results := [.lit (.bool false)], args := [d] }
  | _ => none }
def FnCoresToldWrongFalsely : Prop := fnCoresToldRow.holds Try.pinned (OpenSpec.ofChange fnCoresToldWrong)

/-- 'laws.FnExactAssemble': WHATEVER THE INPUT: true; the input reads as it did. -/
def fnExactAssembleSpec : ChangeSpec := { name := "fnExactAssemble", fn := fun _ => fun
  | [d] => { results := [.lit (.bool true)], args := [d] }
  | _ => none }
def fnExactAssembleRow : OpenClaim := { program := "ytdbomppmpkjmhaa", sum := "68039c51df8f7afd90b1bebbee9208aaacf29d2d2c57d04e0c83ddb5db240ee6", func := "loop.example/g00290/laws.FnExactAssemble", spec := "fnExactAssemble", unfollowed := true, recurses := true, apart := false }
def FnExactAssembleSaid : Prop := fnExactAssembleRow.holds Try.pinned (OpenSpec.ofChange fnExactAssembleSpec)

/-- ITS FALSE NEIGHBOUR: 'it returns false'. Refute it at one input. -/
def fnExactAssembleWrong : ChangeSpec := { name := "fnExactAssemble", fn := fun _ => fun
  | [d] => { results := [.lit (.bool false)], args := [d] }
  | _ => none }
def FnExactAssembleWrongFalsely : Prop := fnExactAssembleRow.holds Try.pinned (OpenSpec.ofChange fnExactAssembleWrong)

/-- 'laws.FnLabels': WHATEVER THE INPUT: true; the input reads as it did. -/
def fnLabelsSpec : ChangeSpec := { name := "fnLabels", fn := fun _ => fun
  | [d] => { results := [.lit (.bool true)], args := [d] }
  | _ => none }
def fnLabelsRow : OpenClaim := { program := "ytdbomppmpkjmhaa", sum := "68039c51df8f7afd90b1bebbee9208aaacf29d2d2c57d04e0c83ddb5db240ee6", func := "loop.example/g00290/laws.FnLabels", spec := "fnLabels", unfollowed := true, recurses := true, apart := false }
def FnLabelsSaid : Prop := fnLabelsRow.holds Try.pinned (OpenSpec.ofChange fnLabelsSpec)

/-- ITS FALSE NEIGHBOUR: 'it returns false'. Refute it at one input. -/
def fnLabelsWrong : ChangeSpec := { name := "fnLabels", fn := fun _ => fun
  | [d] => { results := [.lit (.bool false)], args := [d] }
  | _ => none }
def FnLabelsWrongFalsely : Prop := fnLabelsRow.holds Try.pinned (OpenSpec.ofChange fnLabelsWrong)

/-- 'laws.FnExactKernelOk': WHATEVER THE INPUT: true; the input reads as it did. -/
def fnExactKernelOkSpec : ChangeSpec := { name := "fnExactKernelOk", fn := fun _ => fun
  | [d] => { results := [.lit (.bool true)], args := [d] }
  | _ => none }
def fnExactKernelOkRow : OpenClaim := { program := "ytdbomppmpkjmhaa", sum := "68039c51df8f7afd90b1bebbee9208aaacf29d2d2c57d04e0c83ddb5db240ee6", func := "loop.example/g00290/laws.FnExactKernelOk", spec := "fnExactKernelOk", unfollowed := true, recurses := true, apart := false }
def FnExactKernelOkSaid : Prop := fnExactKernelOkRow.holds Try.pinned (OpenSpec.ofChange fnExactKernelOkSpec)

/-- ITS FALSE NEIGHBOUR: 'it returns false'. Refute it at one input. -/
def fnExactKernelOkWrong : ChangeSpec := { name := "fnExactKernelOk", fn := fun _ => fun
  | [d] => { results := [.lit (.bool false)], args := [d] }
  | _ => none }
def FnExactKernelOkWrongFalsely : Prop := fnExactKernelOkRow.holds Try.pinned (OpenSpec.ofChange fnExactKernelOkWrong)

/- THE SECOND FORM. 'bulk': how many values and letters a reading holds, each counted each time it is reached (what is shared counts as often as it is met; a slice's spare places count too). A statement '..UptoSaid' is the law's where the arguments, and the package variables that the reading takes, are together of bulk at most 1048576: NARROWER than '..Said'. Prove '..Said' where nothing that the law and all that it calls make is longer than what came in: it says more and counts as full. Else prove '..UptoSaid'. A law counts once. -/
mutual
def uptoBulk {H : Type} : DataW H → Nat
  | .lit (.string bytes) => bytes.length + 1
  | .lit _ => 1
  | .nil => 1
  | .ptr d => uptoBulk d + 1
  | .slice elems spare => uptoBulkAll elems + uptoBulkAll spare + 1
  | .agg parts => uptoBulkAll parts + 1
  | .iface _ d => uptoBulk d + 1
  | .map entries => uptoBulkEntries entries + 1
  | .held _ => 1
def uptoBulkAll {H : Type} : List (DataW H) → Nat
  | [] => 0
  | d :: r => uptoBulk d + uptoBulkAll r
def uptoBulkEntries {H : Type} : List (Lit × DataW H) → Nat
  | [] => 0
  | x :: r => uptoBulkEntry x + uptoBulkEntries r
def uptoBulkEntry {H : Type} : Lit × DataW H → Nat
  | (.string bytes, d) => bytes.length + uptoBulk d + 1
  | (_, d) => uptoBulk d + 1
 end
def uptoSmall : (H : Type) → List (DataW H) → Bool := fun _ ds => decide (uptoBulkAll ds ≤ 1048576)
def OpenSpec.upto (s : _root_.Go.ChangeSpec) : _root_.Go.OpenSpec := { _root_.Go.OpenSpec.ofChange s with cond := some uptoSmall }

/-- 'laws.FnExactLinesOk', WHERE WHAT IT READS IS OF BULK AT MOST 1048576: true; the input reads as it did. -/
def fnExactLinesOkUptoRow : OpenClaim := { program := "ytdbomppmpkjmhaa", sum := "68039c51df8f7afd90b1bebbee9208aaacf29d2d2c57d04e0c83ddb5db240ee6", func := "loop.example/g00290/laws.FnExactLinesOk", spec := "fnExactLinesOk", unfollowed := true, recurses := true, apart := false, narrowed := true }
def FnExactLinesOkUptoSaid : Prop := fnExactLinesOkUptoRow.holds Try.pinned (OpenSpec.upto fnExactLinesOkSpec)

/-- 'laws.FnExactArrive', WHERE WHAT IT READS IS OF BULK AT MOST 1048576: true; the input reads as it did. -/
def fnExactArriveUptoRow : OpenClaim := { program := "ytdbomppmpkjmhaa", sum := "68039c51df8f7afd90b1bebbee9208aaacf29d2d2c57d04e0c83ddb5db240ee6", func := "loop.example/g00290/laws.FnExactArrive", spec := "fnExactArrive", apart := false, narrowed := true }
def FnExactArriveUptoSaid : Prop := fnExactArriveUptoRow.holds Try.pinned (OpenSpec.upto fnExactArriveSpec)

/-- 'laws.FnExactLeave', WHERE WHAT IT READS IS OF BULK AT MOST 1048576: true; the input reads as it did. -/
def fnExactLeaveUptoRow : OpenClaim := { program := "ytdbomppmpkjmhaa", sum := "68039c51df8f7afd90b1bebbee9208aaacf29d2d2c57d04e0c83ddb5db240ee6", func := "loop.example/g00290/laws.FnExactLeave", spec := "fnExactLeave", apart := false, narrowed := true }
def FnExactLeaveUptoSaid : Prop := fnExactLeaveUptoRow.holds Try.pinned (OpenSpec.upto fnExactLeaveSpec)

/-- 'laws.FnExactDelayIn', WHERE WHAT IT READS IS OF BULK AT MOST 1048576: true; the input reads as it did. -/
def fnExactDelayInUptoRow : OpenClaim := { program := "ytdbomppmpkjmhaa", sum := "68039c51df8f7afd90b1bebbee9208aaacf29d2d2c57d04e0c83ddb5db240ee6", func := "loop.example/g00290/laws.FnExactDelayIn", spec := "fnExactDelayIn", apart := false, narrowed := true }
def FnExactDelayInUptoSaid : Prop := fnExactDelayInUptoRow.holds Try.pinned (OpenSpec.upto fnExactDelayInSpec)

/-- 'laws.FnExactContinueAt', WHERE WHAT IT READS IS OF BULK AT MOST 1048576: true; the input reads as it did. -/
def fnExactContinueAtUptoRow : OpenClaim := { program := "ytdbomppmpkjmhaa", sum := "68039c51df8f7afd90b1bebbee9208aaacf29d2d2c57d04e0c83ddb5db240ee6", func := "loop.example/g00290/laws.FnExactContinueAt", spec := "fnExactContinueAt", apart := false, narrowed := true }
def FnExactContinueAtUptoSaid : Prop := fnExactContinueAtUptoRow.holds Try.pinned (OpenSpec.upto fnExactContinueAtSpec)

/-- 'laws.FnGates', WHERE WHAT IT READS IS OF BULK AT MOST 1048576: true; the input reads as it did. -/
def fnGatesUptoRow : OpenClaim := { program := "ytdbomppmpkjmhaa", sum := "68039c51df8f7afd90b1bebbee9208aaacf29d2d2c57d04e0c83ddb5db240ee6", func := "loop.example/g00290/laws.FnGates", spec := "fnGates", apart := false, narrowed := true }
def FnGatesUptoSaid : Prop := fnGatesUptoRow.holds Try.pinned (OpenSpec.upto fnGatesSpec)

/-- 'laws.FnExactImageText', WHERE WHAT IT READS IS OF BULK AT MOST 1048576: true; the input reads as it did. -/
def fnExactImageTextUptoRow : OpenClaim := { program := "ytdbomppmpkjmhaa", sum := "68039c51df8f7afd90b1bebbee9208aaacf29d2d2c57d04e0c83ddb5db240ee6", func := "loop.example/g00290/laws.FnExactImageText", spec := "fnExactImageText", apart := false, narrowed := true }
def FnExactImageTextUptoSaid : Prop := fnExactImageTextUptoRow.holds Try.pinned (OpenSpec.upto fnExactImageTextSpec)

/-- 'laws.FnCoresTold', WHERE WHAT IT READS IS OF BULK AT MOST 1048576: true; the input reads as it did. -/
def fnCoresToldUptoRow : OpenClaim := { program := "ytdbomppmpkjmhaa", sum := "68039c51df8f7afd90b1bebbee9208aaacf29d2d2c57d04e0c83ddb5db240ee6", func := "loop.example/g00290/laws.FnCoresTold", spec := "fnCoresTold", unfollowed := true, recurses := true, apart := false, narrowed := true }
def FnCoresToldUptoSaid : Prop := fnCoresToldUptoRow.holds Try.pinned (OpenSpec.upto fnCoresToldSpec)

/-- 'laws.FnExactAssemble', WHERE WHAT IT READS IS OF BULK AT MOST 1048576: true; the input reads as it did. -/
def fnExactAssembleUptoRow : OpenClaim := { program := "ytdbomppmpkjmhaa", sum := "68039c51df8f7afd90b1bebbee9208aaacf29d2d2c57d04e0c83ddb5db240ee6", func := "loop.example/g00290/laws.FnExactAssemble", spec := "fnExactAssemble", unfollowed := true, recurses := true, apart := false, narrowed := true }
def FnExactAssembleUptoSaid : Prop := fnExactAssembleUptoRow.holds Try.pinned (OpenSpec.upto fnExactAssembleSpec)

/-- 'laws.FnLabels', WHERE WHAT IT READS IS OF BULK AT MOST 1048576: true; the input reads as it did. -/
def fnLabelsUptoRow : OpenClaim := { program := "ytdbomppmpkjmhaa", sum := "68039c51df8f7afd90b1bebbee9208aaacf29d2d2c57d04e0c83ddb5db240ee6", func := "loop.example/g00290/laws.FnLabels", spec := "fnLabels", unfollowed := true, recurses := true, apart := false, narrowed := true }
def FnLabelsUptoSaid : Prop := fnLabelsUptoRow.holds Try.pinned (OpenSpec.upto fnLabelsSpec)

/-- 'laws.FnExactKernelOk', WHERE WHAT IT READS IS OF BULK AT MOST 1048576: true; the input reads as it did. -/
def fnExactKernelOkUptoRow : OpenClaim := { program := "ytdbomppmpkjmhaa", sum := "68039c51df8f7afd90b1bebbee9208aaacf29d2d2c57d04e0c83ddb5db240ee6", func := "loop.example/g00290/laws.FnExactKernelOk", spec := "fnExactKernelOk", unfollowed := true, recurses := true, apart := false, narrowed := true }
def FnExactKernelOkUptoSaid : Prop := fnExactKernelOkUptoRow.holds Try.pinned (OpenSpec.upto fnExactKernelOkSpec)

end Rows
end Go.Proofs.Ytdbomppmpkjmhaa
