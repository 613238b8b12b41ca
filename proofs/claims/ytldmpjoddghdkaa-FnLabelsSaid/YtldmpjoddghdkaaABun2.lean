import Derived.Test.YtldmpjoddghdkaaAFam
namespace Go.Proofs.Ytldmpjoddghdkaa.AI
set_option linter.all false
set_option autoImplicit false
set_option linter.defProp false
def FB := (And.intro (And.intro (And.intro (And.intro @set_cI @set_cS) (And.intro @set_cB (And.intro @splice_eq @seg_mkL))) (And.intro (And.intro @mkL_length (And.intro @seg_nil @seg_one)) (And.intro @seg_tail (And.intro @seg_tailM @pos_succ)))) (And.intro (And.intro (And.intro @Nat.add_sub_cancel @seg_full) (And.intro @seg_map (And.intro @take_map_len @take_len))) (And.intro (And.intro @flat_cI (And.intro @flat_cS @flat_cB)) (And.intro @solid_cI (And.intro @solid_cS @solid_cB)))))
end Go.Proofs.Ytldmpjoddghdkaa.AI
