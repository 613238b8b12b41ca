/-
  No cell of these rows narrows 'for every input' (looked for: loops, veiled, ifaces, maps, wideKeys, modest, calm, conditions, laid).
  DERIVED. THE GIVEN ROWS OF THIS SEAT. 11 by the template 'for every input the law returns true; each argument reads behind the call as it read before'; 0 by the template 'total and deterministic' (their statements: YtfecgljlnfoheaaTotals.lean).
  GIVEN WITH THE SEED: the statements are not yours to turn. If you find one false, say at which input.
  Laid BY PROGRAM, IN A SANDBOX (cutbox-rows.mjs): the forced cells as the released guide's own fill.sh prints them over the translation 76b5358545278e67… (all of the seat's roots in one cut). By AI agents, Wed Nov 11 2026. No macro, syntax, notation, axiom, sorry.
-/
import Derived.Test.YtfecgljlnfoheaaChecked
import GoSem.Claim
import GoSem.ClaimJoined
import GoSem.ClaimMapViews
import Derived.JoinedTies
import Derived.KernelRfl
namespace Go.Proofs.Ytfecgljlnfoheaa
/- THE CELL 'sum', in the pinned program and in every row, IS THE sha256 OF THE DUMP (.gsa) THAT YtfecgljlnfoheaaProg.lean LOADS. Nothing in Lean hashes anything: it is a label: what it is worth is what the hold of that sum in a sandbox is worth. -/
noncomputable def Try.pinned : Pinned := { name := "ytfecgljlnfoheaa", sum := "76b5358545278e677398d59eb99eb2c3f362d117a990810c51715751a5608941", checked := Try.checked }
namespace Rows
def none {H : Type} : Left H := { results := [], args := [] }

/-- 'laws.FnCores': WHATEVER THE INPUT: true; the input reads as it did. -/
def fnCoresSpec : ChangeSpec := { name := "fnCores", fn := fun _ => fun
  | [d] => { results := [.lit (.bool true)], args := [d] }
  | _ => none }
def fnCoresRow : OpenClaim := { program := "ytfecgljlnfoheaa", sum := "76b5358545278e677398d59eb99eb2c3f362d117a990810c51715751a5608941", func := "loop.example/g00290/laws.FnCores", spec := "fnCores", unfollowed := true, recurses := true, apart := false }
def FnCoresSaid : Prop := fnCoresRow.holds Try.pinned (OpenSpec.ofChange fnCoresSpec)

/-- ITS FALSE NEIGHBOUR: 'it returns false'. Refute it at one input. -/
def fnCoresWrong : ChangeSpec := { name := "fnCores", fn := fun _ => fun
  | [d] => { results := [.lit (.bool false)], args := [d] }
  | _ => none }
def FnCoresWrongFalsely : Prop := fnCoresRow.holds Try.pinned (OpenSpec.ofChange fnCoresWrong)

/-- 'laws.FnExactArgAt': WHATEVER THE INPUT: true; the input reads as it did. -/
def fnExactArgAtSpec : ChangeSpec := { name := "fnExactArgAt", fn := fun _ => fun
  | [d1, d2] => { results := [.lit (.bool true)], args := [d1, d2] }
  | _ => none }
def fnExactArgAtRow : OpenClaim := { program := "ytfecgljlnfoheaa", sum := "76b5358545278e677398d59eb99eb2c3f362d117a990810c51715751a5608941", func := "loop.example/g00290/laws.FnExactArgAt", spec := "fnExactArgAt", apart := false }
def FnExactArgAtSaid : Prop := fnExactArgAtRow.holds Try.pinned (OpenSpec.ofChange fnExactArgAtSpec)

/-- ITS FALSE NEIGHBOUR: 'it returns false'. Refute it at one input. -/
def fnExactArgAtWrong : ChangeSpec := { name := "fnExactArgAt", fn := fun _ => fun
  | [d1, d2] => { results := [.lit (.bool false)], args := [d1, d2] }
  | _ => none }
def FnExactArgAtWrongFalsely : Prop := fnExactArgAtRow.holds Try.pinned (OpenSpec.ofChange fnExactArgAtWrong)

/-- 'laws.FnExactResultAt': WHATEVER THE INPUT: true; the input reads as it did. -/
def fnExactResultAtSpec : ChangeSpec := { name := "fnExactResultAt", fn := fun _ => fun
  | [d1, d2] => { results := [.lit (.bool true)], args := [d1, d2] }
  | _ => none }
def fnExactResultAtRow : OpenClaim := { program := "ytfecgljlnfoheaa", sum := "76b5358545278e677398d59eb99eb2c3f362d117a990810c51715751a5608941", func := "loop.example/g00290/laws.FnExactResultAt", spec := "fnExactResultAt", apart := false }
def FnExactResultAtSaid : Prop := fnExactResultAtRow.holds Try.pinned (OpenSpec.ofChange fnExactResultAtSpec)

/-- ITS FALSE NEIGHBOUR: 'it returns false'. Refute it at one input. -/
def fnExactResultAtWrong : ChangeSpec := { name := "fnExactResultAt", fn := fun _ => fun
  | [d1, d2] => { results := [.lit (.bool false)], args := [d1, d2] }
  | _ => none }
def FnExactResultAtWrongFalsely : Prop := fnExactResultAtRow.holds Try.pinned (OpenSpec.ofChange fnExactResultAtWrong)

/-- 'laws.FnExactOwnPlaces': WHATEVER THE INPUT: true; the input reads as it did. -/
def fnExactOwnPlacesSpec : ChangeSpec := { name := "fnExactOwnPlaces", fn := fun _ => fun
  | [d1, d2] => { results := [.lit (.bool true)], args := [d1, d2] }
  | _ => none }
def fnExactOwnPlacesRow : OpenClaim := { program := "ytfecgljlnfoheaa", sum := "76b5358545278e677398d59eb99eb2c3f362d117a990810c51715751a5608941", func := "loop.example/g00290/laws.FnExactOwnPlaces", spec := "fnExactOwnPlaces", apart := false }
def FnExactOwnPlacesSaid : Prop := fnExactOwnPlacesRow.holds Try.pinned (OpenSpec.ofChange fnExactOwnPlacesSpec)

/-- ITS FALSE NEIGHBOUR: 'it returns false'. Refute it at one input. -/
def fnExactOwnPlacesWrong : ChangeSpec := { name := "fnExactOwnPlaces", fn := fun _ => fun
  | [d1, d2] => { results := [.lit (.bool false)], args := [d1, d2] }
  | _ => none }
def FnExactOwnPlacesWrongFalsely : Prop := fnExactOwnPlacesRow.holds Try.pinned (OpenSpec.ofChange fnExactOwnPlacesWrong)

/-- 'laws.FnExactEntryPlaces': WHATEVER THE INPUT: true; the input reads as it did. -/
def fnExactEntryPlacesSpec : ChangeSpec := { name := "fnExactEntryPlaces", fn := fun _ => fun
  | [d1, d2, d3, d4] => { results := [.lit (.bool true)], args := [d1, d2, d3, d4] }
  | _ => none }
def fnExactEntryPlacesRow : OpenClaim := { program := "ytfecgljlnfoheaa", sum := "76b5358545278e677398d59eb99eb2c3f362d117a990810c51715751a5608941", func := "loop.example/g00290/laws.FnExactEntryPlaces", spec := "fnExactEntryPlaces", apart := false }
def FnExactEntryPlacesSaid : Prop := fnExactEntryPlacesRow.holds Try.pinned (OpenSpec.ofChange fnExactEntryPlacesSpec)

/-- ITS FALSE NEIGHBOUR: 'it returns false'. Refute it at one input. -/
def fnExactEntryPlacesWrong : ChangeSpec := { name := "fnExactEntryPlaces", fn := fun _ => fun
  | [d1, d2, d3, d4] => { results := [.lit (.bool false)], args := [d1, d2, d3, d4] }
  | _ => none }
def FnExactEntryPlacesWrongFalsely : Prop := fnExactEntryPlacesRow.holds Try.pinned (OpenSpec.ofChange fnExactEntryPlacesWrong)

/-- 'laws.FnExactRegsOf': WHATEVER THE INPUT: true; the input reads as it did. -/
def fnExactRegsOfSpec : ChangeSpec := { name := "fnExactRegsOf", fn := fun _ => fun
  | [d1, d2] => { results := [.lit (.bool true)], args := [d1, d2] }
  | _ => none }
def fnExactRegsOfRow : OpenClaim := { program := "ytfecgljlnfoheaa", sum := "76b5358545278e677398d59eb99eb2c3f362d117a990810c51715751a5608941", func := "loop.example/g00290/laws.FnExactRegsOf", spec := "fnExactRegsOf", unfollowed := true, recurses := true, apart := false }
def FnExactRegsOfSaid : Prop := fnExactRegsOfRow.holds Try.pinned (OpenSpec.ofChange fnExactRegsOfSpec)

/-- ITS FALSE NEIGHBOUR: 'it returns false'. Refute it at one input. -/
def fnExactRegsOfWrong : ChangeSpec := { name := "fnExactRegsOf", fn := fun _ => fun
  | [d1, d2] => { results := [.lit (.bool false)], args := [d1, d2] }
  | _ => none }
def FnExactRegsOfWrongFalsely : Prop := fnExactRegsOfRow.holds Try.pinned (OpenSpec.ofChange fnExactRegsOfWrong)

/-- 'laws.FnExactKernelNew': WHATEVER THE INPUT: true; the input reads as it did. -/
def fnExactKernelNewSpec : ChangeSpec := { name := "fnExactKernelNew", fn := fun _ => fun
  | [d1, d2] => { results := [.lit (.bool true)], args := [d1, d2] }
  | _ => none }
def fnExactKernelNewRow : OpenClaim := { program := "ytfecgljlnfoheaa", sum := "76b5358545278e677398d59eb99eb2c3f362d117a990810c51715751a5608941", func := "loop.example/g00290/laws.FnExactKernelNew", spec := "fnExactKernelNew", apart := false }
def FnExactKernelNewSaid : Prop := fnExactKernelNewRow.holds Try.pinned (OpenSpec.ofChange fnExactKernelNewSpec)

/-- ITS FALSE NEIGHBOUR: 'it returns false'. Refute it at one input. -/
def fnExactKernelNewWrong : ChangeSpec := { name := "fnExactKernelNew", fn := fun _ => fun
  | [d1, d2] => { results := [.lit (.bool false)], args := [d1, d2] }
  | _ => none }
def FnExactKernelNewWrongFalsely : Prop := fnExactKernelNewRow.holds Try.pinned (OpenSpec.ofChange fnExactKernelNewWrong)

/-- 'laws.FnExactVerdictOf': WHATEVER THE INPUT: true; the input reads as it did. -/
def fnExactVerdictOfSpec : ChangeSpec := { name := "fnExactVerdictOf", fn := fun _ => fun
  | [d] => { results := [.lit (.bool true)], args := [d] }
  | _ => none }
def fnExactVerdictOfRow : OpenClaim := { program := "ytfecgljlnfoheaa", sum := "76b5358545278e677398d59eb99eb2c3f362d117a990810c51715751a5608941", func := "loop.example/g00290/laws.FnExactVerdictOf", spec := "fnExactVerdictOf", unfollowed := true, recurses := true, apart := false }
def FnExactVerdictOfSaid : Prop := fnExactVerdictOfRow.holds Try.pinned (OpenSpec.ofChange fnExactVerdictOfSpec)

/-- ITS FALSE NEIGHBOUR: 'it returns false'. Refute it at one input. -/
def fnExactVerdictOfWrong : ChangeSpec := { name := "fnExactVerdictOf", fn := fun _ => fun
  | [d] => { results := [.lit (.bool false)], args := [d] }
  | _ => none }
def FnExactVerdictOfWrongFalsely : Prop := fnExactVerdictOfRow.holds Try.pinned (OpenSpec.ofChange fnExactVerdictOfWrong)

/-- 'laws.FnExactAble': WHATEVER THE INPUT: true; the input reads as it did. -/
def fnExactAbleSpec : ChangeSpec := { name := "fnExactAble", fn := fun _ => fun
  | [d] => { results := [.lit (.bool true)], args := [d] }
  | _ => none }
def fnExactAbleRow : OpenClaim := { program := "ytfecgljlnfoheaa", sum := "76b5358545278e677398d59eb99eb2c3f362d117a990810c51715751a5608941", func := "loop.example/g00290/laws.FnExactAble", spec := "fnExactAble", apart := false }
def FnExactAbleSaid : Prop := fnExactAbleRow.holds Try.pinned (OpenSpec.ofChange fnExactAbleSpec)

/-- ITS FALSE NEIGHBOUR: 'it returns false'. Refute it at one input. -/
def fnExactAbleWrong : ChangeSpec := { name := "fnExactAble", fn := fun _ => fun
  | [d] => { results := [.lit (.bool false)], args := [d] }
  | _ => none }
def FnExactAbleWrongFalsely : Prop := fnExactAbleRow.holds Try.pinned (OpenSpec.ofChange fnExactAbleWrong)

/-- 'laws.FnLoops': WHATEVER THE INPUT: true; the input reads as it did. -/
def fnLoopsSpec : ChangeSpec := { name := "fnLoops", fn := fun _ => fun
  | [d] => { results := [.lit (.bool true)], args := [d] }
  | _ => none }
def fnLoopsRow : OpenClaim := { program := "ytfecgljlnfoheaa", sum := "76b5358545278e677398d59eb99eb2c3f362d117a990810c51715751a5608941", func := "loop.example/g00290/laws.FnLoops", spec := "fnLoops", unfollowed := true, recurses := true, apart := false }
def FnLoopsSaid : Prop := fnLoopsRow.holds Try.pinned (OpenSpec.ofChange fnLoopsSpec)

/-- ITS FALSE NEIGHBOUR: 'it returns false'. Refute it at one input. -/
def fnLoopsWrong : ChangeSpec := { name := "fnLoops", fn := fun _ => fun
  | [d] => { results := [.lit (.bool false)], args := [d] }
  | _ => none }
def FnLoopsWrongFalsely : Prop := fnLoopsRow.holds Try.pinned (OpenSpec.ofChange fnLoopsWrong)

/-- 'laws.FnExactGenValue': WHATEVER THE INPUT: true; the input reads as it did. -/
def fnExactGenValueSpec : ChangeSpec := { name := "fnExactGenValue", fn := fun _ => fun
  | [d1, d2, d3, d4] => { results := [.lit (.bool true)], args := [d1, d2, d3, d4] }
  | _ => none }
def fnExactGenValueRow : OpenClaim := { program := "ytfecgljlnfoheaa", sum := "76b5358545278e677398d59eb99eb2c3f362d117a990810c51715751a5608941", func := "loop.example/g00290/laws.FnExactGenValue", spec := "fnExactGenValue", unfollowed := true, recurses := true, apart := false }
def FnExactGenValueSaid : Prop := fnExactGenValueRow.holds Try.pinned (OpenSpec.ofChange fnExactGenValueSpec)

/-- ITS FALSE NEIGHBOUR: 'it returns false'. Refute it at one input. -/
def fnExactGenValueWrong : ChangeSpec := { name := "fnExactGenValue", fn := fun _ => fun
  | [d1, d2, d3, d4] => { results := [.lit (.bool false)], args := [d1, d2, d3, d4] }
  | _ => none }
def FnExactGenValueWrongFalsely : Prop := fnExactGenValueRow.holds Try.pinned (OpenSpec.ofChange fnExactGenValueWrong)

/- THE SECOND FORM. 'bulk': how many values and letters a reading holds, each counted each time it is reached (what is shared counts as often as it is met; a slice's spare places count too). A statement '..UptoSaid' is the law's where the arguments, and the package variables that the reading takes, are together of bulk at most 1048576: NARROWER than '..Said'. Prove '..Said' where nothing that the law and all that it calls make is longer than what came in: it says more and counts as full. Else prove '..UptoSaid'. A law counts once. -/
mutual
def uptoBulk {H : Type} : DataW H → Nat
  | .lit (.string bytes) => bytes.length + 1
  | .lit _ => 1
  | .nil => 1
  | .ptr d => uptoBulk d + 1
  | .slice elems spare => uptoBulkAll elems + uptoBulkAll spare + 1
  | .agg parts => uptoBulkAll parts + 1
  | .iface _ d => uptoBulk d + 1
  | .map entries => uptoBulkEntries entries + 1
  | .held _ => 1
def uptoBulkAll {H : Type} : List (DataW H) → Nat
  | [] => 0
  | d :: r => uptoBulk d + uptoBulkAll r
def uptoBulkEntries {H : Type} : List (Lit × DataW H) → Nat
  | [] => 0
  | x :: r => uptoBulkEntry x + uptoBulkEntries r
def uptoBulkEntry {H : Type} : Lit × DataW H → Nat
  | (.string bytes, d) => bytes.length + uptoBulk d + 1
  | (_, d) => uptoBulk d + 1
 end
def uptoSmall : (H : Type) → List (DataW H) → Bool := fun _ ds => decide (uptoBulkAll ds ≤ 1048576)
def OpenSpec.upto (s : _root_.Go.ChangeSpec) : _root_.Go.OpenSpec := { _root_.Go.OpenSpec.ofChange s with cond := some uptoSmall }

/-- 'laws.FnCores', WHERE WHAT IT READS IS OF BULK AT MOST 1048576: true; the input reads as it did. -/
def fnCoresUptoRow : OpenClaim := { program := "ytfecgljlnfoheaa", sum := "76b5358545278e677398d59eb99eb2c3f362d117a990810c51715751a5608941", func := "loop.example/g00290/laws.FnCores", spec := "fnCores", unfollowed := true, recurses := true, apart := false, narrowed := true }
def FnCoresUptoSaid : Prop := fnCoresUptoRow.holds Try.pinned (OpenSpec.upto fnCoresSpec)

/-- 'laws.FnExactArgAt', WHERE WHAT IT READS IS OF BULK AT MOST 1048576: true; the input reads as it did. -/
def fnExactArgAtUptoRow : OpenClaim := { program := "ytfecgljlnfoheaa", sum := "76b5358545278e677398d59eb99eb2c3f362d117a990810c51715751a5608941", func := "loop.example/g00290/laws.FnExactArgAt", spec := "fnExactArgAt", apart := false, narrowed := true }
def FnExactArgAtUptoSaid : Prop := fnExactArgAtUptoRow.holds Try.pinned (OpenSpec.upto fnExactArgAtSpec)

/-- 'laws.FnExactResultAt', WHERE WHAT IT READS IS OF BULK AT MOST 1048576: true; the input reads as it did. -/
def fnExactResultAtUptoRow : OpenClaim := { program := "ytfecgljlnfoheaa", sum := "76b5358545278e677398d59eb99eb2c3f362d117a990810c51715751a5608941", func := "loop.example/g00290/laws.FnExactResultAt", spec := "fnExactResultAt", apart := false, narrowed := true }
def FnExactResultAtUptoSaid : Prop := fnExactResultAtUptoRow.holds Try.pinned (OpenSpec.upto fnExactResultAtSpec)

/-- 'laws.FnExactOwnPlaces', WHERE WHAT IT READS IS OF BULK AT MOST 1048576: true; the input reads as it did. -/
def fnExactOwnPlacesUptoRow : OpenClaim := { program := "ytfecgljlnfoheaa", sum := "76b5358545278e677398d59eb99eb2c3f362d117a990810c51715751a5608941", func := "loop.example/g00290/laws.FnExactOwnPlaces", spec := "fnExactOwnPlaces", apart := false, narrowed := true }
def FnExactOwnPlacesUptoSaid : Prop := fnExactOwnPlacesUptoRow.holds Try.pinned (OpenSpec.upto fnExactOwnPlacesSpec)

/-- 'laws.FnExactEntryPlaces', WHERE WHAT IT READS IS OF BULK AT MOST 1048576: true; the input reads as it did. -/
def fnExactEntryPlacesUptoRow : OpenClaim := { program := "ytfecgljlnfoheaa", sum := "76b5358545278e677398d59eb99eb2c3f362d117a990810c51715751a5608941", func := "loop.example/g00290/laws.FnExactEntryPlaces", spec := "fnExactEntryPlaces", apart := false, narrowed := true }
def FnExactEntryPlacesUptoSaid : Prop := fnExactEntryPlacesUptoRow.holds Try.pinned (OpenSpec.upto fnExactEntryPlacesSpec)

/-- 'laws.FnExactRegsOf', WHERE WHAT IT READS IS OF BULK AT MOST 1048576: true; the input reads as it did. -/
def fnExactRegsOfUptoRow : OpenClaim := { program := "ytfecgljlnfoheaa", sum := "76b5358545278e677398d59eb99eb2c3f362d117a990810c51715751a5608941", func := "loop.example/g00290/laws.FnExactRegsOf", spec := "fnExactRegsOf", unfollowed := true, recurses := true, apart := false, narrowed := true }
def FnExactRegsOfUptoSaid : Prop := fnExactRegsOfUptoRow.holds Try.pinned (OpenSpec.upto fnExactRegsOfSpec)

/-- 'laws.FnExactKernelNew', WHERE WHAT IT READS IS OF BULK AT MOST 1048576: true; the input reads as it did. -/
def fnExactKernelNewUptoRow : OpenClaim := { program := "ytfecgljlnfoheaa", sum := "76b5358545278e677398d59eb99eb2c3f362d117a990810c51715751a5608941", func := "loop.example/g00290/laws.FnExactKernelNew", spec := "fnExactKernelNew", apart := false, narrowed := true }
def FnExactKernelNewUptoSaid : Prop := fnExactKernelNewUptoRow.holds Try.pinned (OpenSpec.upto fnExactKernelNewSpec)

/-- 'laws.FnExactVerdictOf', WHERE WHAT IT READS IS OF BULK AT MOST 1048576: true; the input reads as it did. -/
def fnExactVerdictOfUptoRow : OpenClaim := { program := "ytfecgljlnfoheaa", sum := "76b5358545278e677398d59eb99eb2c3f362d117a990810c51715751a5608941", func := "loop.example/g00290/laws.FnExactVerdictOf", spec := "fnExactVerdictOf", unfollowed := true, recurses := true, apart := false, narrowed := true }
def FnExactVerdictOfUptoSaid : Prop := fnExactVerdictOfUptoRow.holds Try.pinned (OpenSpec.upto fnExactVerdictOfSpec)

/-- 'laws.FnExactAble', WHERE WHAT IT READS IS OF BULK AT MOST 1048576: true; the input reads as it did. -/
def fnExactAbleUptoRow : OpenClaim := { program := "ytfecgljlnfoheaa", sum := "76b5358545278e677398d59eb99eb2c3f362d117a990810c51715751a5608941", func := "loop.example/g00290/laws.FnExactAble", spec := "fnExactAble", apart := false, narrowed := true }
def FnExactAbleUptoSaid : Prop := fnExactAbleUptoRow.holds Try.pinned (OpenSpec.upto fnExactAbleSpec)

/-- 'laws.FnLoops', WHERE WHAT IT READS IS OF BULK AT MOST 1048576: true; the input reads as it did. -/
def fnLoopsUptoRow : OpenClaim := { program := "ytfecgljlnfoheaa", sum := "76b5358545278e677398d59eb99eb2c3f362d117a990810c51715751a5608941", func := "loop.example/g00290/laws.FnLoops", spec := "fnLoops", unfollowed := true, recurses := true, apart := false, narrowed := true }
def FnLoopsUptoSaid : Prop := fnLoopsUptoRow.holds Try.pinned (OpenSpec.upto fnLoopsSpec)

/-- 'laws.FnExactGenValue', WHERE WHAT IT READS IS OF BULK AT MOST 1048576: true; the input reads as it did. -/
def fnExactGenValueUptoRow : OpenClaim := { program := "ytfecgljlnfoheaa", sum := "76b5358545278e677398d59eb99eb2c3f362d117a990810c51715751a5608941", func := "loop.example/g00290/laws.FnExactGenValue", spec := "fnExactGenValue", unfollowed := true, recurses := true, apart := false, narrowed := true }
def FnExactGenValueUptoSaid : Prop := fnExactGenValueUptoRow.holds Try.pinned (OpenSpec.upto fnExactGenValueSpec)

end Rows
end Go.Proofs.Ytfecgljlnfoheaa
