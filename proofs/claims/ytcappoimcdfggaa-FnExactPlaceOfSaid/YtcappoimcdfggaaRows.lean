/-
  No cell of these rows narrows 'for every input' (looked for: loops, veiled, ifaces, maps, wideKeys, modest, calm, conditions, laid).
  DERIVED. THE GIVEN ROWS OF THIS SEAT. 12 by the template 'for every input the law returns true; each argument reads behind the call as it read before'; 0 by the template 'total and deterministic' (their statements: YtcappoimcdfggaaTotals.lean).
  GIVEN WITH THE SEED: the statements are not yours to turn. If you find one false, say at which input.
  Laid BY PROGRAM, IN A SANDBOX (cutbox-rows.mjs): the forced cells as the released guide's own fill.sh prints them over the translation 647e251a4697cfb0… (all of the seat's roots in one cut). By AI agents, Wed Nov 11 2026. No macro, syntax, notation, axiom, sorry.
-/
import Derived.Test.YtcappoimcdfggaaChecked
import GoSem.Claim
import GoSem.ClaimJoined
import GoSem.ClaimMapViews
import Derived.JoinedTies
import Derived.KernelRfl
namespace Go.Proofs.Ytcappoimcdfggaa
/- THE CELL 'sum', in the pinned program and in every row, IS THE sha256 OF THE DUMP (.gsa) THAT YtcappoimcdfggaaProg.lean LOADS. Nothing in Lean hashes anything: it is a label: what it is worth is what the hold of that sum in a sandbox is worth. -/
noncomputable def Try.pinned : Pinned := { name := "ytcappoimcdfggaa", sum := "647e251a4697cfb0997cf6a1dd25946295cf0a1951f796f3536af05fe800d4e1", checked := Try.checked }
namespace Rows
def none {H : Type} : Left H := { results := [], args := [] }

/-- 'laws.FnExactInsOk': WHATEVER THE INPUT: true; the input reads as it did. -/
def fnExactInsOkSpec : ChangeSpec := { name := "fnExactInsOk", fn := fun _ => fun
  | [d] => { results := [.lit (.bool true)], args := [d] }
  | _ => none }
def fnExactInsOkRow : OpenClaim := { program := "ytcappoimcdfggaa", sum := "647e251a4697cfb0997cf6a1dd25946295cf0a1951f796f3536af05fe800d4e1", func := "loop.example/g00290/laws.FnExactInsOk", spec := "fnExactInsOk", apart := false }
def FnExactInsOkSaid : Prop := fnExactInsOkRow.holds Try.pinned (OpenSpec.ofChange fnExactInsOkSpec)

/-- ITS FALSE NEIGHBOUR: 'it returns false'. Refute it at one input. -/
def fnExactInsOkWrong : ChangeSpec := { name := "fnExactInsOk", fn := fun _ => fun
  | [d] => { results := [.lit (.bool false)], args := [d] }
  | _ => none }
def FnExactInsOkWrongFalsely : Prop := fnExactInsOkRow.holds Try.pinned (OpenSpec.ofChange fnExactInsOkWrong)

/-- 'laws.FnExactCoreNew': WHATEVER THE INPUT: true; the input reads as it did. -/
def fnExactCoreNewSpec : ChangeSpec := { name := "fnExactCoreNew", fn := fun _ => fun
  | [] => { results := [.lit (.bool true)], args := [] }
  | _ => none }
def fnExactCoreNewRow : OpenClaim := { program := "ytcappoimcdfggaa", sum := "647e251a4697cfb0997cf6a1dd25946295cf0a1951f796f3536af05fe800d4e1", func := "loop.example/g00290/laws.FnExactCoreNew", spec := "fnExactCoreNew", apart := false }
def FnExactCoreNewSaid : Prop := fnExactCoreNewRow.holds Try.pinned (OpenSpec.ofChange fnExactCoreNewSpec)

/-- ITS FALSE NEIGHBOUR: 'it returns false'. Refute it at one input. -/
def fnExactCoreNewWrong : ChangeSpec := { name := "fnExactCoreNew", fn := fun _ => fun
  | [] => { results := [.lit (.bool false)], args := [] }
  | _ => none }
def FnExactCoreNewWrongFalsely : Prop := fnExactCoreNewRow.holds Try.pinned (OpenSpec.ofChange fnExactCoreNewWrong)

/-- 'laws.FnExactEncode': WHATEVER THE INPUT: true; the input reads as it did. -/
def fnExactEncodeSpec : ChangeSpec := { name := "fnExactEncode", fn := fun _ => fun
  | [d] => { results := [.lit (.bool true)], args := [d] }
  | _ => none }
def fnExactEncodeRow : OpenClaim := { program := "ytcappoimcdfggaa", sum := "647e251a4697cfb0997cf6a1dd25946295cf0a1951f796f3536af05fe800d4e1", func := "loop.example/g00290/laws.FnExactEncode", spec := "fnExactEncode", apart := false }
def FnExactEncodeSaid : Prop := fnExactEncodeRow.holds Try.pinned (OpenSpec.ofChange fnExactEncodeSpec)

/-- ITS FALSE NEIGHBOUR: 'it returns false'. Refute it at one input. -/
def fnExactEncodeWrong : ChangeSpec := { name := "fnExactEncode", fn := fun _ => fun
  | [d] => { results := [.lit (.bool false)], args := [d] }
  | _ => none }
def FnExactEncodeWrongFalsely : Prop := fnExactEncodeRow.holds Try.pinned (OpenSpec.ofChange fnExactEncodeWrong)

/-- 'laws.FnExactDecode': WHATEVER THE INPUT: true; the input reads as it did. -/
def fnExactDecodeSpec : ChangeSpec := { name := "fnExactDecode", fn := fun _ => fun
  | [d] => { results := [.lit (.bool true)], args := [d] }
  | _ => none }
def fnExactDecodeRow : OpenClaim := { program := "ytcappoimcdfggaa", sum := "647e251a4697cfb0997cf6a1dd25946295cf0a1951f796f3536af05fe800d4e1", func := "loop.example/g00290/laws.FnExactDecode", spec := "fnExactDecode", apart := false }
def FnExactDecodeSaid : Prop := fnExactDecodeRow.holds Try.pinned (OpenSpec.ofChange fnExactDecodeSpec)

/-- ITS FALSE NEIGHBOUR: 'it returns false'. Refute it at one input. -/
def fnExactDecodeWrong : ChangeSpec := { name := "fnExactDecode", fn := fun _ => fun
  | [d] => { results := [.lit (.bool false)], args := [d] }
  | _ => none }
def FnExactDecodeWrongFalsely : Prop := fnExactDecodeRow.holds Try.pinned (OpenSpec.ofChange fnExactDecodeWrong)

/-- 'laws.FnExactCoreOk': WHATEVER THE INPUT: true; the input reads as it did. -/
def fnExactCoreOkSpec : ChangeSpec := { name := "fnExactCoreOk", fn := fun _ => fun
  | [d] => { results := [.lit (.bool true)], args := [d] }
  | _ => none }
def fnExactCoreOkRow : OpenClaim := { program := "ytcappoimcdfggaa", sum := "647e251a4697cfb0997cf6a1dd25946295cf0a1951f796f3536af05fe800d4e1", func := "loop.example/g00290/laws.FnExactCoreOk", spec := "fnExactCoreOk", unfollowed := true, recurses := true, apart := false }
def FnExactCoreOkSaid : Prop := fnExactCoreOkRow.holds Try.pinned (OpenSpec.ofChange fnExactCoreOkSpec)

/-- ITS FALSE NEIGHBOUR: 'it returns false'. Refute it at one input. -/
def fnExactCoreOkWrong : ChangeSpec := { name := "fnExactCoreOk", fn := fun _ => fun
  | [d] => { results := [.lit (.bool false)], args := [d] }
  | _ => none }
def FnExactCoreOkWrongFalsely : Prop := fnExactCoreOkRow.holds Try.pinned (OpenSpec.ofChange fnExactCoreOkWrong)

/-- 'laws.FnExactPrintsOf': WHATEVER THE INPUT: true; the input reads as it did. -/
def fnExactPrintsOfSpec : ChangeSpec := { name := "fnExactPrintsOf", fn := fun _ => fun
  | [d] => { results := [.lit (.bool true)], args := [d] }
  | _ => none }
def fnExactPrintsOfRow : OpenClaim := { program := "ytcappoimcdfggaa", sum := "647e251a4697cfb0997cf6a1dd25946295cf0a1951f796f3536af05fe800d4e1", func := "loop.example/g00290/laws.FnExactPrintsOf", spec := "fnExactPrintsOf", apart := false }
def FnExactPrintsOfSaid : Prop := fnExactPrintsOfRow.holds Try.pinned (OpenSpec.ofChange fnExactPrintsOfSpec)

/-- ITS FALSE NEIGHBOUR: 'it returns false'. Refute it at one input. -/
def fnExactPrintsOfWrong : ChangeSpec := { name := "fnExactPrintsOf", fn := fun _ => fun
  | [d] => { results := [.lit (.bool false)], args := [d] }
  | _ => none }
def FnExactPrintsOfWrongFalsely : Prop := fnExactPrintsOfRow.holds Try.pinned (OpenSpec.ofChange fnExactPrintsOfWrong)

/-- 'laws.FnExactCountOf': WHATEVER THE INPUT: true; the input reads as it did. -/
def fnExactCountOfSpec : ChangeSpec := { name := "fnExactCountOf", fn := fun _ => fun
  | [d] => { results := [.lit (.bool true)], args := [d] }
  | _ => none }
def fnExactCountOfRow : OpenClaim := { program := "ytcappoimcdfggaa", sum := "647e251a4697cfb0997cf6a1dd25946295cf0a1951f796f3536af05fe800d4e1", func := "loop.example/g00290/laws.FnExactCountOf", spec := "fnExactCountOf", apart := false }
def FnExactCountOfSaid : Prop := fnExactCountOfRow.holds Try.pinned (OpenSpec.ofChange fnExactCountOfSpec)

/-- ITS FALSE NEIGHBOUR: 'it returns false'. Refute it at one input. -/
def fnExactCountOfWrong : ChangeSpec := { name := "fnExactCountOf", fn := fun _ => fun
  | [d] => { results := [.lit (.bool false)], args := [d] }
  | _ => none }
def FnExactCountOfWrongFalsely : Prop := fnExactCountOfRow.holds Try.pinned (OpenSpec.ofChange fnExactCountOfWrong)

/-- 'laws.FnExactTouchOf': WHATEVER THE INPUT: true; the input reads as it did. -/
def fnExactTouchOfSpec : ChangeSpec := { name := "fnExactTouchOf", fn := fun _ => fun
  | [d1, d2] => { results := [.lit (.bool true)], args := [d1, d2] }
  | _ => none }
def fnExactTouchOfRow : OpenClaim := { program := "ytcappoimcdfggaa", sum := "647e251a4697cfb0997cf6a1dd25946295cf0a1951f796f3536af05fe800d4e1", func := "loop.example/g00290/laws.FnExactTouchOf", spec := "fnExactTouchOf", apart := false }
def FnExactTouchOfSaid : Prop := fnExactTouchOfRow.holds Try.pinned (OpenSpec.ofChange fnExactTouchOfSpec)

/-- ITS FALSE NEIGHBOUR: 'it returns false'. Refute it at one input. -/
def fnExactTouchOfWrong : ChangeSpec := { name := "fnExactTouchOf", fn := fun _ => fun
  | [d1, d2] => { results := [.lit (.bool false)], args := [d1, d2] }
  | _ => none }
def FnExactTouchOfWrongFalsely : Prop := fnExactTouchOfRow.holds Try.pinned (OpenSpec.ofChange fnExactTouchOfWrong)

/-- 'laws.FnExactPlaceIn': WHATEVER THE INPUT: true; the input reads as it did. -/
def fnExactPlaceInSpec : ChangeSpec := { name := "fnExactPlaceIn", fn := fun _ => fun
  | [d1, d2] => { results := [.lit (.bool true)], args := [d1, d2] }
  | _ => none }
def fnExactPlaceInRow : OpenClaim := { program := "ytcappoimcdfggaa", sum := "647e251a4697cfb0997cf6a1dd25946295cf0a1951f796f3536af05fe800d4e1", func := "loop.example/g00290/laws.FnExactPlaceIn", spec := "fnExactPlaceIn", apart := false }
def FnExactPlaceInSaid : Prop := fnExactPlaceInRow.holds Try.pinned (OpenSpec.ofChange fnExactPlaceInSpec)

/-- ITS FALSE NEIGHBOUR: 'it returns false'. Refute it at one input. -/
def fnExactPlaceInWrong : ChangeSpec := { name := "fnExactPlaceIn", fn := fun _ => fun
  | [d1, d2] => { results := [.lit (.bool false)], args := [d1, d2] }
  | _ => none }
def FnExactPlaceInWrongFalsely : Prop := fnExactPlaceInRow.holds Try.pinned (OpenSpec.ofChange fnExactPlaceInWrong)

/-- 'laws.FnExactGateOk': WHATEVER THE INPUT: true; the input reads as it did. -/
def fnExactGateOkSpec : ChangeSpec := { name := "fnExactGateOk", fn := fun _ => fun
  | [d] => { results := [.lit (.bool true)], args := [d] }
  | _ => none }
def fnExactGateOkRow : OpenClaim := { program := "ytcappoimcdfggaa", sum := "647e251a4697cfb0997cf6a1dd25946295cf0a1951f796f3536af05fe800d4e1", func := "loop.example/g00290/laws.FnExactGateOk", spec := "fnExactGateOk", apart := false }
def FnExactGateOkSaid : Prop := fnExactGateOkRow.holds Try.pinned (OpenSpec.ofChange fnExactGateOkSpec)

/-- ITS FALSE NEIGHBOUR: 'it returns false'. Refute it at one input. -/
def fnExactGateOkWrong : ChangeSpec := { name := "fnExactGateOk", fn := fun _ => fun
  | [d] => { results := [.lit (.bool false)], args := [d] }
  | _ => none }
def FnExactGateOkWrongFalsely : Prop := fnExactGateOkRow.holds Try.pinned (OpenSpec.ofChange fnExactGateOkWrong)

/-- 'laws.FnExactPlaceOf': WHATEVER THE INPUT: true; the input reads as it did. -/
def fnExactPlaceOfSpec : ChangeSpec := { name := "fnExactPlaceOf", fn := fun _ => fun
  | [d1, d2] => { results := [.lit (.bool true)], args := [d1, d2] }
  | _ => none }
def fnExactPlaceOfRow : OpenClaim := { program := "ytcappoimcdfggaa", sum := "647e251a4697cfb0997cf6a1dd25946295cf0a1951f796f3536af05fe800d4e1", func := "loop.example/g00290/laws.FnExactPlaceOf", spec := "fnExactPlaceOf", unfollowed := true, recurses := true, apart := false }
def FnExactPlaceOfSaid : Prop := fnExactPlaceOfRow.holds Try.pinned (OpenSpec.ofChange fnExactPlaceOfSpec)

/-- ITS FALSE NEIGHBOUR: 'it returns false'. Refute it at one input. -/
def fnExactPlaceOfWrong : ChangeSpec := { name := "fnExactPlaceOf", fn := fun _ => fun
  | [d1, d2] => { results := [.lit (.bool false)], args := [d1, d2] }
  | _ => none }
def FnExactPlaceOfWrongFalsely : Prop := fnExactPlaceOfRow.holds Try.pinned (OpenSpec.ofChange fnExactPlaceOfWrong)

/-- 'laws.FnExactImageOk': WHATEVER THE INPUT: true; the input reads as it did. -/
def fnExactImageOkSpec : ChangeSpec := { name := "fnExactImageOk", fn := fun _ => fun
  | [d] => { results := [.lit (.bool true)], args := [d] }
  | _ => none }
def fnExactImageOkRow : OpenClaim := { program := "ytcappoimcdfggaa", sum := "647e251a4697cfb0997cf6a1dd25946295cf0a1951f796f3536af05fe800d4e1", func := "loop.example/g00290/laws.FnExactImageOk", spec := "fnExactImageOk", apart := false }
def FnExactImageOkSaid : Prop := fnExactImageOkRow.holds Try.pinned (OpenSpec.ofChange fnExactImageOkSpec)

/-- ITS FALSE NEIGHBOUR: 'it returns false'. Refute it at one input. -/
def fnExactImageOkWrong : ChangeSpec := { name := "fnExactImageOk", fn := fun _ => fun
  | [d] => { results := [.lit (.bool false)], args := [d] }
  | _ => none }
def FnExactImageOkWrongFalsely : Prop := fnExactImageOkRow.holds Try.pinned (OpenSpec.ofChange fnExactImageOkWrong)

/- THE SECOND FORM. 'bulk': how many values and letters a reading holds, each counted each time it is reached (what is shared counts as often as it is met; a slice's spare places count too). A statement '..UptoSaid' is the law's where the arguments, and the package variables that the reading takes, are together of bulk at most 1048576: NARROWER than '..Said'. Prove '..Said' where nothing that the law and all that it calls make is longer than what came in: it says more and counts as full. Else prove '..UptoSaid'. A law counts once. -/
mutual
def uptoBulk {H : Type} : DataW H → Nat
  | .lit (.string bytes) => bytes.length + 1
  | .lit _ => 1
  | .nil => 1
  | .ptr d => uptoBulk d + 1
  | .slice elems spare => uptoBulkAll elems + uptoBulkAll spare + 1
  | .agg parts => uptoBulkAll parts + 1
  | .iface _ d => uptoBulk d + 1
  | .map entries => uptoBulkEntries entries + 1
  | .held _ => 1
def uptoBulkAll {H : Type} : List (DataW H) → Nat
  | [] => 0
  | d :: r => uptoBulk d + uptoBulkAll r
def uptoBulkEntries {H : Type} : List (Lit × DataW H) → Nat
  | [] => 0
  | x :: r => uptoBulkEntry x + uptoBulkEntries r
def uptoBulkEntry {H : Type} : Lit × DataW H → Nat
  | (.string bytes, d) => bytes.length + uptoBulk d + 1
  | (_, d) => uptoBulk d + 1
 end
def uptoSmall : (H : Type) → List (DataW H) → Bool := fun _ ds => decide (uptoBulkAll ds ≤ 1048576)
def OpenSpec.upto (s : _root_.Go.ChangeSpec) : _root_.Go.OpenSpec := { _root_.Go.OpenSpec.ofChange s with cond := some uptoSmall }

/-- 'laws.FnExactInsOk', WHERE WHAT IT READS IS OF BULK AT MOST 1048576: true; the input reads as it did. -/
def fnExactInsOkUptoRow : OpenClaim := { program := "ytcappoimcdfggaa", sum := "647e251a4697cfb0997cf6a1dd25946295cf0a1951f796f3536af05fe800d4e1", func := "loop.example/g00290/laws.FnExactInsOk", spec := "fnExactInsOk", apart := false, narrowed := true }
def FnExactInsOkUptoSaid : Prop := fnExactInsOkUptoRow.holds Try.pinned (OpenSpec.upto fnExactInsOkSpec)

/-- 'laws.FnExactCoreNew', WHERE WHAT IT READS IS OF BULK AT MOST 1048576: true; the input reads as it did. -/
def fnExactCoreNewUptoRow : OpenClaim := { program := "ytcappoimcdfggaa", sum := "647e251a4697cfb0997cf6a1dd25946295cf0a1951f796f3536af05fe800d4e1", func := "loop.example/g00290/laws.FnExactCoreNew", spec := "fnExactCoreNew", apart := false, narrowed := true }
def FnExactCoreNewUptoSaid : Prop := fnExactCoreNewUptoRow.holds Try.pinned (OpenSpec.upto fnExactCoreNewSpec)

/-- 'laws.FnExactEncode', WHERE WHAT IT READS IS OF BULK AT MOST 1048576: true; the input reads as it did. -/
def fnExactEncodeUptoRow : OpenClaim := { program := "ytcappoimcdfggaa", sum := "647e251a4697cfb0997cf6a1dd25946295cf0a1951f796f3536af05fe800d4e1", func := "loop.example/g00290/laws.FnExactEncode", spec := "fnExactEncode", apart := false, narrowed := true }
def FnExactEncodeUptoSaid : Prop := fnExactEncodeUptoRow.holds Try.pinned (OpenSpec.upto fnExactEncodeSpec)

/-- 'laws.FnExactDecode', WHERE WHAT IT READS IS OF BULK AT MOST 1048576: true; the input reads as it did. -/
def fnExactDecodeUptoRow : OpenClaim := { program := "ytcappoimcdfggaa", sum := "647e251a4697cfb0997cf6a1dd25946295cf0a1951f796f3536af05fe800d4e1", func := "loop.example/g00290/laws.FnExactDecode", spec := "fnExactDecode", apart := false, narrowed := true }
def FnExactDecodeUptoSaid : Prop := fnExactDecodeUptoRow.holds Try.pinned (OpenSpec.upto fnExactDecodeSpec)

/-- 'laws.FnExactCoreOk', WHERE WHAT IT READS IS OF BULK AT MOST 1048576: true; the input reads as it did. -/
def fnExactCoreOkUptoRow : OpenClaim := { program := "ytcappoimcdfggaa", sum := "647e251a4697cfb0997cf6a1dd25946295cf0a1951f796f3536af05fe800d4e1", func := "loop.example/g00290/laws.FnExactCoreOk", spec := "fnExactCoreOk", unfollowed := true, recurses := true, apart := false, narrowed := true }
def FnExactCoreOkUptoSaid : Prop := fnExactCoreOkUptoRow.holds Try.pinned (OpenSpec.upto fnExactCoreOkSpec)

/-- 'laws.FnExactPrintsOf', WHERE WHAT IT READS IS OF BULK AT MOST 1048576: true; the input reads as it did. -/
def fnExactPrintsOfUptoRow : OpenClaim := { program := "ytcappoimcdfggaa", sum := "647e251a4697cfb0997cf6a1dd25946295cf0a1951f796f3536af05fe800d4e1", func := "loop.example/g00290/laws.FnExactPrintsOf", spec := "fnExactPrintsOf", apart := false, narrowed := true }
def FnExactPrintsOfUptoSaid : Prop := fnExactPrintsOfUptoRow.holds Try.pinned (OpenSpec.upto fnExactPrintsOfSpec)

/-- 'laws.FnExactCountOf', WHERE WHAT IT READS IS OF BULK AT MOST 1048576: true; the input reads as it did. -/
def fnExactCountOfUptoRow : OpenClaim := { program := "ytcappoimcdfggaa", sum := "647e251a4697cfb0997cf6a1dd25946295cf0a1951f796f3536af05fe800d4e1", func := "loop.example/g00290/laws.FnExactCountOf", spec := "fnExactCountOf", apart := false, narrowed := true }
def FnExactCountOfUptoSaid : Prop := fnExactCountOfUptoRow.holds Try.pinned (OpenSpec.upto fnExactCountOfSpec)

/-- 'laws.FnExactTouchOf', WHERE WHAT IT READS IS OF BULK AT MOST 1048576: true; the input reads as it did. -/
def fnExactTouchOfUptoRow : OpenClaim := { program := "ytcappoimcdfggaa", sum := "647e251a4697cfb0997cf6a1dd25946295cf0a1951f796f3536af05fe800d4e1", func := "loop.example/g00290/laws.FnExactTouchOf", spec := "fnExactTouchOf", apart := false, narrowed := true }
def FnExactTouchOfUptoSaid : Prop := fnExactTouchOfUptoRow.holds Try.pinned (OpenSpec.upto fnExactTouchOfSpec)

/-- 'laws.FnExactPlaceIn', WHERE WHAT IT READS IS OF BULK AT MOST 1048576: true; the input reads as it did. -/
def fnExactPlaceInUptoRow : OpenClaim := { program := "ytcappoimcdfggaa", sum := "647e251a4697cfb0997cf6a1dd25946295cf0a1951f796f3536af05fe800d4e1", func := "loop.example/g00290/laws.FnExactPlaceIn", spec := "fnExactPlaceIn", apart := false, narrowed := true }
def FnExactPlaceInUptoSaid : Prop := fnExactPlaceInUptoRow.holds Try.pinned (OpenSpec.upto fnExactPlaceInSpec)

/-- 'laws.FnExactGateOk', WHERE WHAT IT READS IS OF BULK AT MOST 1048576: true; the input reads as it did. -/
def fnExactGateOkUptoRow : OpenClaim := { program := "ytcappoimcdfggaa", sum := "647e251a4697cfb0997cf6a1dd25946295cf0a1951f796f3536af05fe800d4e1", func := "loop.example/g00290/laws.FnExactGateOk", spec := "fnExactGateOk", apart := false, narrowed := true }
def FnExactGateOkUptoSaid : Prop := fnExactGateOkUptoRow.holds Try.pinned (OpenSpec.upto fnExactGateOkSpec)

/-- 'laws.FnExactPlaceOf', WHERE WHAT IT READS IS OF BULK AT MOST 1048576: true; the input reads as it did. -/
def fnExactPlaceOfUptoRow : OpenClaim := { program := "ytcappoimcdfggaa", sum := "647e251a4697cfb0997cf6a1dd25946295cf0a1951f796f3536af05fe800d4e1", func := "loop.example/g00290/laws.FnExactPlaceOf", spec := "fnExactPlaceOf", unfollowed := true, recurses := true, apart := false, narrowed := true }
def FnExactPlaceOfUptoSaid : Prop := fnExactPlaceOfUptoRow.holds Try.pinned (OpenSpec.upto fnExactPlaceOfSpec)

/-- 'laws.FnExactImageOk', WHERE WHAT IT READS IS OF BULK AT MOST 1048576: true; the input reads as it did. -/
def fnExactImageOkUptoRow : OpenClaim := { program := "ytcappoimcdfggaa", sum := "647e251a4697cfb0997cf6a1dd25946295cf0a1951f796f3536af05fe800d4e1", func := "loop.example/g00290/laws.FnExactImageOk", spec := "fnExactImageOk", apart := false, narrowed := true }
def FnExactImageOkUptoSaid : Prop := fnExactImageOkUptoRow.holds Try.pinned (OpenSpec.upto fnExactImageOkSpec)

end Rows
end Go.Proofs.Ytcappoimcdfggaa
