/-
  No cell of these rows narrows 'for every input' (looked for: loops, veiled, ifaces, maps, wideKeys, modest, calm, conditions, laid).
  DERIVED. THE GIVEN ROWS OF THIS SEAT. 4 by the template 'for every input the law returns true; each argument reads behind the call as it read before'; 0 by the template 'total and deterministic' (their statements: YtdhmlhlpdejefaaTotals.lean).
  GIVEN WITH THE SEED: the statements are not yours to turn. If you find one false, say at which input.
  Laid BY PROGRAM, IN A SANDBOX (cutbox-rows.mjs): the forced cells as the released guide's own fill.sh prints them over the translation 66c6189bc27d4283… (all of the seat's roots in one cut). By AI agents, Wed Nov 11 2026. No macro, syntax, notation, axiom, sorry.
-/
import Derived.Test.YtdhmlhlpdejefaaChecked
import GoSem.Claim
import GoSem.ClaimJoined
import GoSem.ClaimMapViews
import Derived.JoinedTies
import Derived.KernelRfl
namespace Go.Proofs.Ytdhmlhlpdejefaa
/- THE CELL 'sum', in the pinned program and in every row, IS THE sha256 OF THE DUMP (.gsa) THAT YtdhmlhlpdejefaaProg.lean LOADS. Nothing in Lean hashes anything: it is a label: what it is worth is what the hold of that sum in a sandbox is worth. -/
noncomputable def Try.pinned : Pinned := { name := "ytdhmlhlpdejefaa", sum := "66c6189bc27d428370e066756bf48a0d80c1e7b60b2fa566b0fcc9a4102a7e55", checked := Try.checked }
namespace Rows
def none {H : Type} : Left H := { results := [], args := [] }

/-- 'laws.FnCores': WHATEVER THE INPUT: true; the input reads as it did. -/
def fnCoresSpec : ChangeSpec := { name := "fnCores", fn := fun _ => fun
  | [d] => { results := [.lit (.bool true)], args := [d] }
  | _ => none }
def fnCoresRow : OpenClaim := { program := "ytdhmlhlpdejefaa", sum := "66c6189bc27d428370e066756bf48a0d80c1e7b60b2fa566b0fcc9a4102a7e55", func := "loop.example/g00290/laws.FnCores", spec := "fnCores", unfollowed := true, recurses := true, apart := false }
def FnCoresSaid : Prop := fnCoresRow.holds Try.pinned (OpenSpec.ofChange fnCoresSpec)

/-- ITS FALSE NEIGHBOUR: 'it returns false'. Refute it at one input. -/
def fnCoresWrong : ChangeSpec := { name := "fnCores", fn := fun _ => fun
  | [d] => { results := [.lit (.bool false)], args := [d] }
  | _ => none }
def FnCoresWrongFalsely : Prop := fnCoresRow.holds Try.pinned (OpenSpec.ofChange fnCoresWrong)

/-- 'laws.FnExactRegsOf': WHATEVER THE INPUT: true; the input reads as it did. -/
def fnExactRegsOfSpec : ChangeSpec := { name := "fnExactRegsOf", fn := fun _ => fun
  | [d1, d2] => { results := [.lit (.bool true)], args := [d1, d2] }
  | _ => none }
def fnExactRegsOfRow : OpenClaim := { program := "ytdhmlhlpdejefaa", sum := "66c6189bc27d428370e066756bf48a0d80c1e7b60b2fa566b0fcc9a4102a7e55", func := "loop.example/g00290/laws.FnExactRegsOf", spec := "fnExactRegsOf", unfollowed := true, recurses := true, apart := false }
def FnExactRegsOfSaid : Prop := fnExactRegsOfRow.holds Try.pinned (OpenSpec.ofChange fnExactRegsOfSpec)

/-- ITS FALSE NEIGHBOUR: 'it returns false'. Refute it at one input. -/
def fnExactRegsOfWrong : ChangeSpec := { name := "fnExactRegsOf", fn := fun _ => fun
  | [d1, d2] => { results := [.lit (.bool false)], args := [d1, d2] }
  | _ => none }
def FnExactRegsOfWrongFalsely : Prop := fnExactRegsOfRow.holds Try.pinned (OpenSpec.ofChange fnExactRegsOfWrong)

/-- 'laws.FnExactGenValue': WHATEVER THE INPUT: true; the input reads as it did. -/
def fnExactGenValueSpec : ChangeSpec := { name := "fnExactGenValue", fn := fun _ => fun
  | [d1, d2, d3, d4] => { results := [.lit (.bool true)], args := [d1, d2, d3, d4] }
  | _ => none }
def fnExactGenValueRow : OpenClaim := { program := "ytdhmlhlpdejefaa", sum := "66c6189bc27d428370e066756bf48a0d80c1e7b60b2fa566b0fcc9a4102a7e55", func := "loop.example/g00290/laws.FnExactGenValue", spec := "fnExactGenValue", unfollowed := true, recurses := true, apart := false }
def FnExactGenValueSaid : Prop := fnExactGenValueRow.holds Try.pinned (OpenSpec.ofChange fnExactGenValueSpec)

/-- ITS FALSE NEIGHBOUR: 'it returns false'. Refute it at one input. -/
def fnExactGenValueWrong : ChangeSpec := { name := "fnExactGenValue", fn := fun _ => fun
  | [d1, d2, d3, d4] => { results := [.lit (.bool false)], args := [d1, d2, d3, d4] }
  | _ => none }
def FnExactGenValueWrongFalsely : Prop := fnExactGenValueRow.holds Try.pinned (OpenSpec.ofChange fnExactGenValueWrong)

/-- 'laws.FnExactReadImage': WHATEVER THE INPUT: true; the input reads as it did. -/
def fnExactReadImageSpec : ChangeSpec := { name := "fnExactReadImage", fn := fun _ => fun
  | [d] => { results := [.lit (.bool true)], args := [d] }
  | _ => none }
def fnExactReadImageRow : OpenClaim := { program := "ytdhmlhlpdejefaa", sum := "66c6189bc27d428370e066756bf48a0d80c1e7b60b2fa566b0fcc9a4102a7e55", func := "loop.example/g00290/laws.FnExactReadImage", spec := "fnExactReadImage", apart := false }
def FnExactReadImageSaid : Prop := fnExactReadImageRow.holds Try.pinned (OpenSpec.ofChange fnExactReadImageSpec)

/-- ITS FALSE NEIGHBOUR: 'it returns false'. Refute it at one input. -/
def fnExactReadImageWrong : ChangeSpec := { name := "fnExactReadImage", fn := fun _ => fun
  | [d] => { results := [.lit (.bool false)], args := [d] }
  | _ => none }
def FnExactReadImageWrongFalsely : Prop := fnExactReadImageRow.holds Try.pinned (OpenSpec.ofChange fnExactReadImageWrong)

/- THE SECOND FORM. 'bulk': how many values and letters a reading holds, each counted each time it is reached (what is shared counts as often as it is met; a slice's spare places count too). A statement '..UptoSaid' is the law's where the arguments, and the package variables that the reading takes, are together of bulk at most 1048576: NARROWER than '..Said'. Prove '..Said' where nothing that the law and all that it calls make is longer than what came in: it says more and counts as full. Else prove '..UptoSaid'. A law counts once. -/
mutual
def uptoBulk {H : Type} : DataW H → Nat
  | .lit (.string bytes) => bytes.length + 1
  | .lit _ => 1
  | .nil => 1
  | .ptr d => uptoBulk d + 1
  | .slice elems spare => uptoBulkAll elems + uptoBulkAll spare + 1
  | .agg parts => uptoBulkAll parts + 1
  | .iface _ d => uptoBulk d + 1
  | .map entries => uptoBulkEntries entries + 1
  | .held _ => 1
def uptoBulkAll {H : Type} : List (DataW H) → Nat
  | [] => 0
  | d :: r => uptoBulk d + uptoBulkAll r
def uptoBulkEntries {H : Type} : List (Lit × DataW H) → Nat
  | [] => 0
  | x :: r => uptoBulkEntry x + uptoBulkEntries r
def uptoBulkEntry {H : Type} : Lit × DataW H → Nat
  | (.string bytes, d) => bytes.length + uptoBulk d + 1
  | (_, d) => uptoBulk d + 1
 end
def uptoSmall : (H : Type) → List (DataW H) → Bool := fun _ ds => decide (uptoBulkAll ds ≤ 1048576)
def OpenSpec.upto (s : _root_.Go.ChangeSpec) : _root_.Go.OpenSpec := { _root_.Go.OpenSpec.ofChange s with cond := some uptoSmall }

/-- 'laws.FnCores', WHERE WHAT IT READS IS OF BULK AT MOST 1048576: true; the input reads as it did. -/
def fnCoresUptoRow : OpenClaim := { program := "ytdhmlhlpdejefaa", sum := "66c6189bc27d428370e066756bf48a0d80c1e7b60b2fa566b0fcc9a4102a7e55", func := "loop.example/g00290/laws.FnCores", spec := "fnCores", unfollowed := true, recurses := true, apart := false, narrowed := true }
def FnCoresUptoSaid : Prop := fnCoresUptoRow.holds Try.pinned (OpenSpec.upto fnCoresSpec)

/-- 'laws.FnExactRegsOf', WHERE WHAT IT READS IS OF BULK AT MOST 1048576: true; the input reads as it did. -/
def fnExactRegsOfUptoRow : OpenClaim := { program := "ytdhmlhlpdejefaa", sum := "66c6189bc27d428370e066756bf48a0d80c1e7b60b2fa566b0fcc9a4102a7e55", func := "loop.example/g00290/laws.FnExactRegsOf", spec := "fnExactRegsOf", unfollowed := true, recurses := true, apart := false, narrowed := true }
def FnExactRegsOfUptoSaid : Prop := fnExactRegsOfUptoRow.holds Try.pinned (OpenSpec.upto fnExactRegsOfSpec)

/-- 'laws.FnExactGenValue', WHERE WHAT IT READS IS OF BULK AT MOST 1048576: true; the input reads as it did. -/
def fnExactGenValueUptoRow : OpenClaim := { program := "ytdhmlhlpdejefaa", sum := "66c6189bc27d428370e066756bf48a0d80c1e7b60b2fa566b0fcc9a4102a7e55", func := "loop.example/g00290/laws.FnExactGenValue", spec := "fnExactGenValue", unfollowed := true, recurses := true, apart := false, narrowed := true }
def FnExactGenValueUptoSaid : Prop := fnExactGenValueUptoRow.holds Try.pinned (OpenSpec.upto fnExactGenValueSpec)

/-- 'laws.FnExactReadImage', WHERE WHAT IT READS IS OF BULK AT MOST 1048576: true; the input reads as it did. -/
def fnExactReadImageUptoRow : OpenClaim := { program := "ytdhmlhlpdejefaa", sum := "66c6189bc27d428370e066756bf48a0d80c1e7b60b2fa566b0fcc9a4102a7e55", func := "loop.example/g00290/laws.FnExactReadImage", spec := "fnExactReadImage", apart := false, narrowed := true }
def FnExactReadImageUptoSaid : Prop := fnExactReadImageUptoRow.holds Try.pinned (OpenSpec.upto fnExactReadImageSpec)

end Rows
end Go.Proofs.Ytdhmlhlpdejefaa
