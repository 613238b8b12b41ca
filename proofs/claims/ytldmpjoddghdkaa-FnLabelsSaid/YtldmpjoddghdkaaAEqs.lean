import Derived.Test.YtldmpjoddghdkaaAGo2
namespace Go.Proofs.Ytldmpjoddghdkaa.AI
set_option linter.all false
open Go.RowKit
set_option autoImplicit false
set_option linter.unusedVariables false
set_option linter.unusedSimpArgs false
section
variable {tm : List (Nat × AV)} {hp : Hp} {k : IntKind} {a b : Int} {s t : ByteArray}
theorem lk_cons {i n : Nat} {v : AV} : lk ((i, v) :: tm) n = if i = n then v else lk tm n := rfl
theorem sub1_cons {i n : Nat} {v x : AV} : sub1 ((i, v) :: tm) n x = if i = n then (i, x) :: tm else (i, v) :: sub1 tm n x := rfl
theorem ev_t {n : Nat} : ev tm (.t n) = lk tm n := rfl
theorem ev_c {v : AV} : ev tm (.c v) = v := rfl
theorem ev_fn {f : Nat} : ev tm (.fn f) = .fn f [] := rfl
theorem put_some {d : Nat} {v : AV} : put tm (some d) v = (d, v) :: tm := rfl
theorem put_none {v : AV} : put tm none v = tm := rfl
theorem bin_add : bin .add (.int k a) (.int k b) = some (.int k (k.wrap (a + b))) := by simp [bin, binI]
theorem bin_sub : bin .sub (.int k a) (.int k b) = some (.int k (k.wrap (a - b))) := by simp [bin, binI]
theorem bin_mul : bin .mul (.int k a) (.int k b) = some (.int k (k.wrap (a * b))) := by simp [bin, binI]
theorem bin_quo : bin .quo (.int k a) (.int k b) = if b = 0 then none else some (.int k (k.wrap (a.tdiv b))) := by simp [bin, binI]
theorem bin_rem : bin .rem (.int k a) (.int k b) = if b = 0 then none else some (.int k (a.tmod b)) := by simp [bin, binI]
theorem bin_eql : bin .eql (.int k a) (.int k b) = some (.bool (decide (a = b))) := by simp [bin, binI]
theorem bin_neq : bin .neq (.int k a) (.int k b) = some (.bool (!decide (a = b))) := by simp [bin, binI]
theorem bin_lss : bin .lss (.int k a) (.int k b) = some (.bool (decide (a < b))) := by simp [bin, binI]
theorem bin_leq : bin .leq (.int k a) (.int k b) = some (.bool (decide (a ≤ b))) := by simp [bin, binI]
theorem bin_gtr : bin .gtr (.int k a) (.int k b) = some (.bool (decide (b < a))) := by simp [bin, binI]
theorem bin_geq : bin .geq (.int k a) (.int k b) = some (.bool (decide (b ≤ a))) := by simp [bin, binI]
theorem bins_add : bin .add (.str s) (.str t) = if s.size + t.size ≤ 4611686018427387904 then some (.str (s ++ t)) else none := by simp [bin, binS]
theorem bins_eql : bin .eql (.str s) (.str t) = some (.bool (decide (s = t))) := by simp [bin, binS]
theorem bins_neq : bin .neq (.str s) (.str t) = some (.bool (!decide (s = t))) := by simp [bin, binS]
theorem bib_eql {x y : Bool} : bib .eql (.bool x) (.bool y) = some (.bool (decide (x = y))) := rfl
theorem bib_neq {x y : Bool} : bib .neq (.bool x) (.bool y) = some (.bool (!decide (x = y))) := by simp [bib]
theorem un_neg : un .neg (.int k a) = some (.int k (k.wrap (0 - a))) := rfl
theorem un_not {x : Bool} : un .not (.bool x) = some (.bool (!x)) := rfl
def rt : Hp → Nat → Option Blk
  | [], _ => none
  | b :: _, 0 => b
  | _ :: l, n + 1 => rt l n
theorem root_rt : ∀ (hp : Hp) (r : Nat), root? hp r = rt hp r
  | [], _ => by simp [root?, rt]
  | b :: l, 0 => by simp [root?, rt]
  | b :: l, n + 1 => by have := root_rt l n; simp [root?, rt] at *; exact this
theorem rt_zero {b : Option Blk} : rt (b :: hp) 0 = b := rfl
theorem rt_succ {b : Option Blk} {n : Nat} : rt (b :: hp) (n + 1) = rt hp n := rfl
def gbV (b : Option Blk) (r : BRef) : Option (Bool × Nat × List (List AV)) :=
  match b with
  | none => none
  | some b =>
    match r.path with
    | none => some (b.box, b.k, b.es)
    | some (i, j) =>
      if b.box = false ∧ r.gen = b.gen then
        match cellAt b.es i j with
        | .tree k es => some (false, k, es)
        | _ => none
      else none
theorem getB_eq {r : BRef} : getB (root? hp) r = gbV (rt hp r.root) r := by unfold getB gbV; rw [root_rt]; cases rt hp r.root <;> rfl
theorem gbV_own {i g g' k : Nat} {x : Bool} {es : List (List AV)} : gbV (some ⟨x, g, k, es⟩) ⟨i, none, g'⟩ = some (x, k, es) := rfl
def cellT (v : AV) : Option (Bool × Nat × List (List AV)) := match v with | .tree k es => some (false, k, es) | _ => none
theorem gbV_hung {i j n g g' k : Nat} {es : List (List AV)} : gbV (some ⟨false, g, k, es⟩) ⟨n, some (i, j), g'⟩ = if g' = g then cellT (cellAt es i j) else none := by
  simp only [gbV, true_and]
  split
  · unfold cellT
    cases cellAt es i j <;> rfl
  · rfl
theorem gbV_none {r : BRef} : gbV none r = none := rfl
def ldR (n : Nat) (agg : Bool) (r : BRef) (k idx off : Nat) (hp : Hp) (x : Option (Bool × Nat × List (List AV))) : Option AV :=
  match x with
  | some (bx, k', es) => if k' = k ∧ idx < es.length ∧ off + n ≤ k then mkv agg (if bx then seg1 (es.getD idx []) off n else outOf { r with gen := genAt hp r.root } idx off (seg1 (es.getD idx []) off n)) else none
  | none => none
theorem ldV_ptr {n : Nat} {agg : Bool} {r : BRef} {k idx off : Nat} : ldV n agg (.ptr r k idx off) hp = ldR n agg r k idx off hp (gbV (rt hp r.root) r) := by
  simp only [ldV, ← getB_eq, ldR]
  rcases getB (root? hp) r with _ | ⟨_, _, _⟩ <;> rfl
theorem ldR_box {n : Nat} {agg : Bool} {r : BRef} {k off : Nat} {e : List AV} : ldR n agg r k 0 off hp (some (true, k, [e])) = if off + n ≤ k then mkv agg (seg1 e off n) else none := by
  simp [ldR]
theorem ldR_row {n : Nat} {agg : Bool} {r : BRef} {k idx off : Nat} {es : List (List AV)} : ldR n agg r k idx off hp (some (false, k, es)) = if idx < es.length ∧ off + n ≤ k then mkv agg (outOf { r with gen := genAt hp r.root } idx off (seg1 (es.getD idx []) off n)) else none := by
  simp [ldR]
theorem ldV_rp {n : Nat} {agg : Bool} {cells : List AV} {off : Nat} : ldV n agg (.rp cells off) hp = if off + n ≤ cells.length then mkv agg (seg1 cells off n) else none := rfl
theorem mkv_agg {cs : List AV} : mkv true cs = some (.agg cs) := rfl
theorem mkv_one {c : AV} : mkv false [c] = some c := rfl
theorem seg1_eq {cs : List AV} {off n : Nat} : seg1 cs off n = (cs.drop off).take n := rfl
def rtSet : Hp → Nat → Option Blk → Hp
  | [], _, _ => []
  | _ :: l, 0, x => x :: l
  | b :: l, n + 1, x => b :: rtSet l n x
theorem set_rt : ∀ (hp : Hp) (n : Nat) (x : Option Blk), hp.set n x = rtSet hp n x
  | [], _, _ => rfl
  | _ :: _, 0, _ => rfl
  | b :: l, n + 1, x => by simp [rtSet, set_rt l n x]
theorem rtSet_zero {b x : Option Blk} : rtSet (b :: hp) 0 x = x :: hp := rfl
theorem rtSet_succ {b x : Option Blk} {n : Nat} : rtSet (b :: hp) (n + 1) x = b :: rtSet hp n x := rfl
def sbV (b : Option Blk) (r : BRef) (bump : Nat) (f : List (List AV) → List (List AV)) (hp : Hp) : Hp :=
  match b with
  | none => hp
  | some b => rtSet hp r.root (some { b with gen := b.gen + bump, es := setP b.es r.path f })
theorem setB_eq {r : BRef} {bump : Nat} {f : List (List AV) → List (List AV)} : setB hp r bump f = sbV (rt hp r.root) r bump f hp := by
  unfold setB sbV; rw [root_rt]
  rcases rt hp r.root with _ | b
  · rfl
  · exact set_rt _ _ _
theorem sbV_own {i g g' k bump : Nat} {x : Bool} {es : List (List AV)} {f : List (List AV) → List (List AV)} : sbV (some ⟨x, g, k, es⟩) ⟨i, none, g'⟩ bump f hp = rtSet hp i (some ⟨x, g + bump, k, f es⟩) := rfl
def stR (n : Nat) (r : BRef) (k idx off : Nat) (cs : List AV) (hp : Hp) (x : Option (Bool × Nat × List (List AV))) : Option (AV × Hp) :=
  match x with
  | some (true, k', es) =>
    if k' = k ∧ idx < es.length ∧ off + n ≤ k ∧ (nnL cs hp).1.length = n ∧ ones (nnL cs hp).1 = true then
      some (.tup [], setB (nnL cs hp).2 r 0 fun es => es.set idx (splice (es.getD idx []) off (nnL cs hp).1)) else none
  | some (false, k', es) =>
    match into r hp cs with
    | some (cs', hp', b) =>
      if k' = k ∧ idx < es.length ∧ off + n ≤ k ∧ cs.length = n then
        some (.tup [], setB hp' r b fun es => es.set idx (splice (es.getD idx []) off cs')) else none
    | none => none
  | none => none
def stC (n : Nat) (r : BRef) (k idx off : Nat) (cs : Option (List AV)) (hp : Hp) : Option (AV × Hp) := match cs with | some cs => stR n r k idx off cs hp (gbV (rt hp r.root) r) | none => none
theorem stV_ptr {n : Nat} {r : BRef} {k idx off : Nat} {v : AV} : stV n (.ptr r k idx off) v hp = stC n r k idx off v.cl hp := by
  simp only [stV, ← getB_eq, stC, stR]
  cases v.cl with
  | none => rfl
  | some cs =>
    simp only []
    generalize getB (root? hp) r = z
    rcases z with _ | ⟨b, _, _⟩
    · rfl
    · cases b <;> rfl
theorem stC_some {n : Nat} {r : BRef} {k idx off : Nat} {cs : List AV} : stC n r k idx off (some cs) hp = stR n r k idx off cs hp (gbV (rt hp r.root) r) := rfl
def stB (n : Nat) (r : BRef) (k off : Nat) (x : List AV × Hp) : Option (AV × Hp) :=
  if off + n ≤ k ∧ x.1.length = n ∧ ones x.1 = true then some (.tup [], sbV (rt x.2 r.root) r 0 (fun es => es.set 0 (splice (es.getD 0 []) off x.1)) x.2) else none
theorem stR_box {n : Nat} {r : BRef} {k off : Nat} {cs : List AV} {e : List AV} : stR n r k 0 off cs hp (some (true, k, [e])) = stB n r k off (nnL cs hp) := by
  simp only [stR, true_and, List.length_singleton, Nat.zero_lt_one, stB, setB_eq]
theorem stB_mk {n g i : Nat} {k off : Nat} {cs : List AV} : stB n ⟨i, none, g⟩ k off (cs, hp) = if off + n ≤ k ∧ cs.length = n ∧ ones cs = true then some (.tup [], sbV (rt hp i) ⟨i, none, g⟩ 0 (fun es => es.set 0 (splice (es.getD 0 []) off cs)) hp) else none := rfl
def stW (n : Nat) (r : BRef) (k idx off : Nat) (m : Nat) (len : Nat) (x : Option (List AV × Hp × Nat)) : Option (AV × Hp) :=
  match x with
  | some (cs', hp', b) => if idx < len ∧ off + n ≤ k ∧ m = n then some (.tup [], sbV (rt hp' r.root) r b (fun es => es.set idx (splice (es.getD idx []) off cs')) hp') else none
  | none => none
theorem stR_row {n : Nat} {r : BRef} {k idx off : Nat} {cs : List AV} {es : List (List AV)} : stR n r k idx off cs hp (some (false, k, es)) = stW n r k idx off cs.length es.length (into r hp cs) := by
  simp only [stR, true_and, stW, setB_eq]
theorem stW_some {n : Nat} {r : BRef} {k idx off m len b : Nat} {cs' : List AV} {hp' : Hp} : stW n r k idx off m len (some (cs', hp', b)) = if idx < len ∧ off + n ≤ k ∧ m = n then some (.tup [], sbV (rt hp' r.root) r b (fun es => es.set idx (splice (es.getD idx []) off cs')) hp') else none := rfl
theorem nn_tree {j : Nat} {es : List (List AV)} : nn (.tree j es) hp = (.tree j es, hp) := rfl
theorem nn_int : nn (.int k a) hp = (.int k a, hp) := rfl
theorem nn_bool {x : Bool} : nn (.bool x) hp = (.bool x, hp) := rfl
theorem nn_str : nn (.str s) hp = (.str s, hp) := rfl
theorem nn_sl {r : BRef} {i o l : Nat} : nn (.sl r i o l) hp = (.sl r i o l, hp) := rfl
theorem nn_ptr {r : BRef} {i o l : Nat} : nn (.ptr r i o l) hp = (.ptr r i o l, hp) := rfl
theorem nn_rp {cs : List AV} {o : Nat} : nn (.rp cs o) hp = (.rp cs o, hp) := rfl
theorem nn_fn {cs : List AV} {o : Nat} : nn (.fn o cs) hp = (.fn o cs, hp) := rfl
theorem nn_nil {i : Nat} : nn (.nil i) hp = (.sl ⟨hp.length, none, 0⟩ i 0 0, hp ++ [some ⟨false, 0, i, []⟩]) := rfl
theorem nn_agg {cs : List AV} : nn (.agg cs) hp = (.agg (nnL cs hp).1, (nnL cs hp).2) := rfl
theorem nn_tup {cs : List AV} : nn (.tup cs) hp = (.tup (nnL cs hp).1, (nnL cs hp).2) := rfl
theorem nnL_nil : nnL [] hp = ([], hp) := rfl
def nn2 (x : AV × Hp) (cs : List AV) : List AV × Hp := (x.1 :: (nnL cs x.2).1, (nnL cs x.2).2)
theorem nnL_cons {v : AV} {cs : List AV} : nnL (v :: cs) hp = nn2 (nn v hp) cs := rfl
def nn3 (v : AV) (x : List AV × Hp) : List AV × Hp := (v :: x.1, x.2)
theorem nn2_mk {v : AV} {cs : List AV} : nn2 (v, hp) cs = nn3 v (nnL cs hp) := rfl
theorem nn3_mk {v : AV} {cs : List AV} : nn3 v (cs, hp) = (v :: cs, hp) := rfl
def boxC (x : List AV × Hp) : Option (AV × Hp) := some (.ptr ⟨x.2.length, none, 0⟩ x.1.length 0 0, x.2 ++ [some ⟨true, 0, x.1.length, [x.1]⟩])
def boxO (c : Option (List AV)) (hp : Hp) : Option (AV × Hp) := match c with | some cs => boxC (nnL cs hp) | none => none
theorem boxV_eq {v : AV} : boxV v hp = boxO v.cl hp := rfl
theorem boxO_some {cs : List AV} : boxO (some cs) hp = boxC (nnL cs hp) := rfl
theorem boxC_mk {cs : List AV} : boxC (cs, hp) = some (.ptr ⟨hp.length, none, 0⟩ cs.length 0 0, hp ++ [some ⟨true, 0, cs.length, [cs]⟩]) := rfl
theorem cl_agg {cs : List AV} : (AV.agg cs).cl = some cs := rfl
theorem cl_int : (AV.int k a).cl = some [.int k a] := rfl
theorem cl_bool {x : Bool} : (AV.bool x).cl = some [.bool x] := rfl
theorem cl_str : (AV.str s).cl = some [.str s] := rfl
theorem cl_tree {j : Nat} {es : List (List AV)} : (AV.tree j es).cl = some [.tree j es] := rfl
theorem cl_sl {r : BRef} {i o l : Nat} : (AV.sl r i o l).cl = some [.sl r i o l] := rfl
theorem cl_ptr {r : BRef} {i o l : Nat} : (AV.ptr r i o l).cl = some [.ptr r i o l] := rfl
theorem cl_nil {i : Nat} : (AV.nil i).cl = some [.nil i] := rfl
theorem cl_fn {cs : List AV} {o : Nat} : (AV.fn o cs).cl = some [.fn o cs] := rfl
theorem cl_rp {cs : List AV} {o : Nat} : (AV.rp cs o).cl = some [.rp cs o] := rfl
variable {base g : Nat} {fd w : List Nat} {vs : List AV}
def gcS (keep : List Nat) (x : List AV × Hp) : St := ⟨zipT keep x.1, x.2⟩
def gcF (base : Nat) (vs : List AV) (hp : Hp) (fd : List Nat) : List AV × Hp := (renL hp base fd vs, (hp.take base).map (renB hp base fd) ++ fd.map fun r => gen0 (renB hp base fd (rt hp r)))
def gcX (base : Nat) (x : List AV × Hp) : List AV × Hp := gcF base x.1 x.2 (disc x.2 base 200 (rootsL x.1 ++ ((x.2.take base).map rootsB).flatten) [])
theorem gcV_eq : gcV base vs hp = gcX base (nnL vs hp) := by
  simp only [gcV, gcX, gcF, root_rt]
theorem gc_eq {keep : List Nat} : gc base keep ⟨tm, hp⟩ = gcS keep (gcX base (nnL (keep.map (lk tm)) hp)) := by
  simp only [gc, gcS, gcV_eq]
theorem gcS_mk {keep : List Nat} : gcS keep (vs, hp) = ⟨zipT keep vs, hp⟩ := rfl
theorem gcX_mk : gcX base (vs, hp) = gcF base vs hp (disc hp base 200 (rootsL vs ++ ((hp.take base).map rootsB).flatten) []) := rfl
theorem gcF_eq : gcF base vs hp fd = (renL hp base fd vs, (hp.take base).map (renB hp base fd) ++ fd.map fun r => gen0 (renB hp base fd (rt hp r))) := rfl
theorem zipT_cons {t : Nat} {ts : List Nat} {v : AV} : zipT (t :: ts) (v :: vs) = (t, v) :: zipT ts vs := rfl
theorem zipT_nil : zipT [] vs = [] := by cases vs <;> rfl
def discB (hp : Hp) (base n : Nat) (w fd : List Nat) (r : Nat) (b : Option Blk) : List Nat := match b with | some b => disc hp base n (rootsB (some b) ++ w) (fd ++ [r]) | none => disc hp base n w fd
theorem disc_nil {n : Nat} : disc hp base (n + 1) [] fd = fd := rfl
theorem disc_cons {n r : Nat} : disc hp base (n + 1) (r :: w) fd = if r < base then disc hp base n w fd else if has fd r = true then disc hp base n w fd else discB hp base n w fd r (rt hp r) := by
  simp only [disc, root_rt, discB]
  split
  · rfl
  · split
    · rfl
    · cases rt hp r <;> rfl
theorem discB_some {n r : Nat} {b : Blk} : discB hp base n w fd r (some b) = disc hp base n (rootsB (some b) ++ w) (fd ++ [r]) := rfl
theorem discB_none {n r : Nat} : discB hp base n w fd r none = disc hp base n w fd := rfl
theorem rootsB_box {j : Nat} {es : List (List AV)} : rootsB (some ⟨true, g, j, es⟩) = (es.map rootsL).flatten := rfl
theorem rootsB_row {j : Nat} {es : List (List AV)} : rootsB (some ⟨false, g, j, es⟩) = [] := rfl
theorem rootsB_none : rootsB none = [] := rfl
theorem roots_sl {r : BRef} {i o l : Nat} : roots (.sl r i o l) = [r.root] := rfl
theorem roots_ptr {r : BRef} {i o l : Nat} : roots (.ptr r i o l) = [r.root] := rfl
theorem roots_agg {cs : List AV} : roots (.agg cs) = rootsL cs := by simp only [roots]
theorem roots_tup {cs : List AV} : roots (.tup cs) = rootsL cs := by simp only [roots]
theorem roots_fn {o : Nat} {cs : List AV} : roots (.fn o cs) = rootsL cs := by simp only [roots]
theorem roots_int : roots (.int k a) = [] := rfl
theorem roots_bool {x : Bool} : roots (.bool x) = [] := rfl
theorem roots_str : roots (.str s) = [] := rfl
theorem roots_tree {j : Nat} {es : List (List AV)} : roots (.tree j es) = [] := rfl
theorem roots_rp {cs : List AV} {o : Nat} : roots (.rp cs o) = [] := rfl
theorem roots_pnil : roots .pnil = [] := rfl
theorem roots_inil : roots .inil = [] := rfl
theorem roots_fnil : roots .fnil = [] := rfl
theorem roots_dead : roots .dead = [] := rfl
theorem roots_gone : roots .gone = [] := rfl
theorem roots_nil {i : Nat} : roots (.nil i) = [] := rfl
theorem rootsL_nil : rootsL [] = [] := rfl
theorem rootsL_cons {v : AV} {cs : List AV} : rootsL (v :: cs) = roots v ++ rootsL cs := by simp only [rootsL]
theorem has_nil {n : Nat} : has [] n = false := rfl
theorem has_cons {x n : Nat} {xs : List Nat} : has (x :: xs) n = if x = n then true else has xs n := rfl
def posS (x : Option Nat) : Option Nat := match x with | some i => some (i + 1) | none => none
theorem pos_cons {x n : Nat} {xs : List Nat} : pos (x :: xs) n = if x = n then some 0 else posS (pos xs n) := by
  simp only [pos, posS]
  split
  · rfl
  · cases pos xs n <;> rfl
theorem posS_some {i : Nat} : posS (some i) = some (i + 1) := rfl
def renP (x : Option Nat) (base : Nat) (p : Option (Nat × Nat)) : Option BRef := match x with | some i => some ⟨base + i, p, 0⟩ | none => none
theorem renP_some {i : Nat} {p : Option (Nat × Nat)} : renP (some i) base p = some ⟨base + i, p, 0⟩ := rfl
def renQ (x : Option (Bool × Nat × List (List AV))) (base : Nat) (fd : List Nat) (r : BRef) : Option BRef := match x with | none => none | some _ => if r.root < base then some r else renP (pos fd r.root) base r.path
theorem renQ_some {x : Bool × Nat × List (List AV)} {r : BRef} : renQ (some x) base fd r = if r.root < base then some r else renP (pos fd r.root) base r.path := rfl
theorem renR_eq {r : BRef} : renR hp base fd r = renQ (gbV (rt hp r.root) r) base fd r := by
  simp only [renR, ← getB_eq, renQ]
  cases getB (root? hp) r with
  | none => rfl
  | some x =>
    simp only []
    split
    · rfl
    · unfold renP; cases pos fd r.root <;> rfl
def renSl (x : Option BRef) (i o l : Nat) : AV := match x with | some r => .sl r i o l | none => .gone
def renPt (x : Option BRef) (i o l : Nat) : AV := match x with | some r => .ptr r i o l | none => .gone
theorem ren_sl {r : BRef} {i o l : Nat} : ren hp base fd (.sl r i o l) = renSl (renQ (gbV (rt hp r.root) r) base fd r) i o l := by simp only [ren, ← renR_eq, renSl]; cases renR hp base fd r <;> rfl
theorem ren_ptr {r : BRef} {i o l : Nat} : ren hp base fd (.ptr r i o l) = renPt (renQ (gbV (rt hp r.root) r) base fd r) i o l := by simp only [ren, ← renR_eq, renPt]; cases renR hp base fd r <;> rfl
theorem renSl_some {r : BRef} {i o l : Nat} : renSl (some r) i o l = .sl r i o l := rfl
theorem renPt_some {r : BRef} {i o l : Nat} : renPt (some r) i o l = .ptr r i o l := rfl
theorem ren_agg {cs : List AV} : ren hp base fd (.agg cs) = .agg (renL hp base fd cs) := by simp only [ren]
theorem ren_tup {cs : List AV} : ren hp base fd (.tup cs) = .tup (renL hp base fd cs) := by simp only [ren]
theorem ren_fn {o : Nat} {cs : List AV} : ren hp base fd (.fn o cs) = .fn o (renL hp base fd cs) := by simp only [ren]
theorem ren_int : ren hp base fd (.int k a) = .int k a := by simp only [ren]
theorem ren_bool {x : Bool} : ren hp base fd (.bool x) = .bool x := by simp only [ren]
theorem ren_str : ren hp base fd (.str s) = .str s := by simp only [ren]
theorem ren_tree {j : Nat} {es : List (List AV)} : ren hp base fd (.tree j es) = .tree j es := by simp only [ren]
theorem ren_rp {cs : List AV} {o : Nat} : ren hp base fd (.rp cs o) = .rp cs o := by simp only [ren]
theorem ren_dead : ren hp base fd .dead = .dead := by simp only [ren]
theorem ren_gone : ren hp base fd .gone = .gone := by simp only [ren]
theorem ren_pnil : ren hp base fd .pnil = .pnil := by simp only [ren]
theorem ren_inil : ren hp base fd .inil = .inil := by simp only [ren]
theorem ren_fnil : ren hp base fd .fnil = .fnil := by simp only [ren]
theorem renL_nil : renL hp base fd [] = [] := by simp only [renL]
theorem renL_cons {v : AV} {cs : List AV} : renL hp base fd (v :: cs) = ren hp base fd v :: renL hp base fd cs := by simp only [renL]
theorem renB_box {j : Nat} {es : List (List AV)} : renB hp base fd (some ⟨true, g, j, es⟩) = some ⟨true, g, j, es.map (renL hp base fd)⟩ := rfl
theorem renB_row {j : Nat} {es : List (List AV)} : renB hp base fd (some ⟨false, g, j, es⟩) = some ⟨false, g, j, es⟩ := rfl
theorem renB_none : renB hp base fd none = none := rfl
theorem gen0_some {x : Bool} {j : Nat} {es : List (List AV)} : gen0 (some ⟨x, g, j, es⟩) = some ⟨x, 0, j, es⟩ := rfl
theorem gen0_none : gen0 none = none := rfl
def handS (b : Option Blk) (i j off len : Nat) (hp : Hp) : Option (AV × Hp) :=
  match b with
  | some b =>
    if b.box = false ∧ b.k = j ∧ off = 0 ∧ len = b.es.length ∧ solid b.es = true then some (.tree j b.es, rtSet hp i none)
    else if b.box = false ∧ b.k = j ∧ off + len ≤ b.es.length ∧ flat b.es = true then some (.tree j (seg b.es off len), rtSet hp i none) else none
  | none => none
theorem hand_sl {i j off len : Nat} : hand (.sl ⟨i, none, g⟩ j off len) hp = handS (rt hp i) i j off len hp := by
  simp only [hand, root_rt, handS, set_rt]
  cases rt hp i <;> rfl
theorem handS_some {i j off len : Nat} {es : List (List AV)} : handS (some ⟨false, g, j, es⟩) i j off len hp = if off = 0 ∧ len = es.length ∧ solid es = true then some (.tree j es, rtSet hp i none) else if off + len ≤ es.length ∧ flat es = true then some (.tree j (seg es off len), rtSet hp i none) else none := by
  simp only [handS, true_and]
theorem hand_nil {j : Nat} : hand (.nil j) hp = some (.tree j [], hp) := rfl
theorem hand_int : hand (.int k a) hp = some (.int k a, hp) := rfl
theorem hand_bool {x : Bool} : hand (.bool x) hp = some (.bool x, hp) := rfl
theorem hand_str : hand (.str s) hp = some (.str s, hp) := rfl
def handA (x : Option (List AV × Hp)) : Option (AV × Hp) := match x with | some x => some (.agg x.1, x.2) | none => none
def handT (x : Option (List AV × Hp)) : Option (AV × Hp) := match x with | some x => some (.tup x.1, x.2) | none => none
def hand2 (x : Option (AV × Hp)) (cs : List AV) : Option (List AV × Hp) := match x with | some x => (match handL cs x.2 with | some y => some (x.1 :: y.1, y.2) | none => none) | none => none
def hand3 (v : AV) (x : Option (List AV × Hp)) : Option (List AV × Hp) := match x with | some y => some (v :: y.1, y.2) | none => none
theorem hand_agg {cs : List AV} : hand (.agg cs) hp = handA (handL cs hp) := by simp only [hand, handA]; cases handL cs hp <;> rfl
theorem hand_tup {cs : List AV} : hand (.tup cs) hp = handT (handL cs hp) := by simp only [hand, handT]; cases handL cs hp <;> rfl
theorem handA_some {cs : List AV} : handA (some (cs, hp)) = some (.agg cs, hp) := rfl
theorem handT_some {cs : List AV} : handT (some (cs, hp)) = some (.tup cs, hp) := rfl
theorem handL_nil : handL [] hp = some ([], hp) := rfl
theorem handL_cons {v : AV} {cs : List AV} : handL (v :: cs) hp = hand2 (hand v hp) cs := by
  simp only [handL, hand2]
  rcases hand v hp with _ | ⟨v', hp'⟩
  · rfl
  · simp only []
    cases handL cs hp' <;> rfl
theorem hand2_some {v : AV} {cs : List AV} : hand2 (some (v, hp)) cs = hand3 v (handL cs hp) := by
  simp only [hand2, hand3]
theorem hand3_some {v : AV} {cs : List AV} : hand3 v (some (cs, hp)) = some (v :: cs, hp) := rfl
def handW (x : Option (AV × Hp)) : Option (AV × List (List AV)) := match x with | some (v, _) => some (v, []) | none => none
theorem handV_some {v : AV} : handV (some v) hp = handW (hand v hp) := by
  simp only [handV, handW]
  rcases hand v hp with _ | ⟨_, _⟩ <;> rfl
theorem handW_some {v : AV} : handW (some (v, hp)) = some (v, []) := rfl
theorem handW_none : handW none = none := rfl
theorem handW_ite {p : Prop} [Decidable p] {x y : Option (AV × Hp)} : handW (if p then x else y) = if p then handW x else handW y := by split <;> rfl
theorem res1_one {v : AV} : res1 (some [v]) = some v := rfl
theorem res1_nil : res1 (some []) = some (.tup []) := rfl
theorem res1_two {v u : AV} {us : List AV} : res1 (some (v :: u :: us)) = some (.tup (v :: u :: us)) := rfl
theorem resV_t {n : Nat} : resV ⟨tm, hp⟩ (.t n) = some (lk tm n) := rfl
theorem resV_cell {i n : Nat} {x : Bool} : resV ⟨tm, hp⟩ (.cell i n x) = ldV n x (lk tm i) hp := by
  have := @sc_ld (fun _ => none) tm hp n x (.t i)
  simp only [stepC, ev] at this
  simp only [resV, ev]
  rw [this]
  simp only [vh]
  cases ldV n x (lk tm i) hp <;> rfl
theorem into_nil {r : BRef} : into r hp [] = some ([], hp, 0) := by simp only [into]
def intoM (v : AV) (x : Option (List AV × Hp × Nat)) : Option (List AV × Hp × Nat) := match x with | some (cs, r) => some (v :: cs, r) | none => none
theorem intoM_some {v : AV} {cs : List AV} {x : Hp × Nat} : intoM v (some (cs, x)) = some (v :: cs, x) := rfl
theorem into_int {r : BRef} {cs : List AV} : into r hp (.int k a :: cs) = intoM (.int k a) (into r hp cs) := by simp only [into, intoM]; rcases into r hp cs with _ | ⟨_, _⟩ <;> rfl
theorem into_bool {r : BRef} {x : Bool} {cs : List AV} : into r hp (.bool x :: cs) = intoM (.bool x) (into r hp cs) := by simp only [into, intoM]; rcases into r hp cs with _ | ⟨_, _⟩ <;> rfl
theorem into_str {r : BRef} {cs : List AV} : into r hp (.str s :: cs) = intoM (.str s) (into r hp cs) := by simp only [into, intoM]; rcases into r hp cs with _ | ⟨_, _⟩ <;> rfl
def intoT (v : AV) (x : Option (List AV × Hp × Nat)) : Option (List AV × Hp × Nat) := match x with | some (cs, hp, n) => some (v :: cs, hp, n + 1) | none => none
theorem intoT_some {v : AV} {cs : List AV} {n : Nat} : intoT v (some (cs, hp, n)) = some (v :: cs, hp, n + 1) := rfl
theorem into_nill {i j : Nat} {cs : List AV} : into ⟨i, none, g⟩ hp (.nil j :: cs) = intoT (.tree j []) (into ⟨i, none, g⟩ hp cs) := by simp only [into, intoT]; rcases into ⟨i, none, g⟩ hp cs with _ | ⟨_, _, _⟩ <;> rfl
def intoB (b : Option Blk) (r : BRef) (q j off len : Nat) (cs : List AV) (hp : Hp) : Option (List AV × Hp × Nat) :=
  match b with
  | some b => if b.box = false ∧ b.k = j ∧ q ≠ r.root ∧ flat ((b.es.drop off).take len) = true then intoT (.tree j ((b.es.drop off).take len)) (into r (rtSet hp q none) cs) else none
  | none => none
theorem into_sl {i j q g' off len : Nat} {cs : List AV} : into ⟨i, none, g⟩ hp (.sl ⟨q, none, g'⟩ j off len :: cs) = intoB (rt hp q) ⟨i, none, g⟩ q j off len cs hp := by
  simp only [into, root_rt, intoB, set_rt]
  cases rt hp q with
  | none => rfl
  | some b =>
    simp only []
    split
    · simp only [intoT]
      rcases into ⟨i, none, g⟩ (rtSet hp q none) cs with _ | ⟨_, _, _⟩ <;> rfl
    · rfl
theorem intoB_some {i j q off len : Nat} {cs : List AV} {es : List (List AV)} {p : Option (Nat × Nat)} : intoB (some ⟨false, g, j, es⟩) ⟨i, p, g⟩ q j off len cs hp = if q ≠ i ∧ flat ((es.drop off).take len) = true then intoT (.tree j ((es.drop off).take len)) (into ⟨i, p, g⟩ (rtSet hp q none) cs) else none := by
  simp only [intoB, true_and]
def packS (x : Option (List (List AV))) (j len : Nat) : Option AV := match x with | some es => if solid es = true ∧ es.length = len then some (.tree j es) else none | none => none
theorem packS_some {es : List (List AV)} {j len : Nat} : packS (some es) j len = if solid es = true ∧ es.length = len then some (.tree j es) else none := rfl
def elS (x : Option (Bool × Nat × List (List AV))) (j j' off len : Nat) : Option (List (List AV)) := match x with | some (false, k'', es) => if j' = j ∧ k'' = j then some (seg es off len) else none | _ => none
theorem elems_sl {r : BRef} {j j' off len : Nat} : elems hp j (.sl r j' off len) = elS (gbV (rt hp r.root) r) j j' off len := by
  simp only [elems, ← getB_eq, elS]
  rcases getB (root? hp) r with _ | ⟨b, _, _⟩
  · rfl
  · cases b <;> rfl
theorem elS_some {es : List (List AV)} {j off len : Nat} : elS (some (false, j, es)) j j off len = some (seg es off len) := by simp [elS]
theorem elems_tree {j : Nat} {es : List (List AV)} : elems hp j (.tree j es) = some es := by simp [elems]
theorem elems_nil {j : Nat} : elems hp j (.nil j) = some [] := by simp [elems]
theorem packR_sl {n : Nat} {r : BRef} {j off len : Nat} : packR (n + 1) hp (.sl r j off len) = packS (elems hp j (.sl r j off len)) j len := by
  simp only [packR, packS]
  cases elems hp j (.sl r j off len) <;> rfl
theorem packR_nil {n j : Nat} : packR (n + 1) hp (.nil j) = some (.tree j []) := rfl
theorem packR_tree {n j : Nat} {es : List (List AV)} : packR (n + 1) hp (.tree j es) = some (.tree j es) := rfl
theorem packR_int {n : Nat} : packR (n + 1) hp (.int k a) = some (.int k a) := rfl
theorem packR_bool {n : Nat} {x : Bool} : packR (n + 1) hp (.bool x) = some (.bool x) := rfl
theorem packR_str {n : Nat} : packR (n + 1) hp (.str s) = some (.str s) := rfl
theorem packR_rp {n o : Nat} {cs : List AV} : packR (n + 1) hp (.rp cs o) = some (.rp cs o) := rfl
def packA (x : Option (List AV)) : Option AV := match x with | some cs => some (.agg cs) | none => none
def packF (f : Nat) (x : Option (List AV)) : Option AV := match x with | some cs => some (.fn f cs) | none => none
theorem packA_some {cs : List AV} : packA (some cs) = some (.agg cs) := rfl
theorem packF_some {f : Nat} {cs : List AV} : packF f (some cs) = some (.fn f cs) := rfl
theorem packR_agg {n : Nat} {cs : List AV} : packR (n + 1) hp (.agg cs) = packA (mapO (packR n hp) cs) := by simp only [packR, packA]; cases mapO (packR n hp) cs <;> rfl
theorem packR_fn {n f : Nat} {cs : List AV} : packR (n + 1) hp (.fn f cs) = packF f (mapO (packR n hp) cs) := by simp only [packR, packF]; cases mapO (packR n hp) cs <;> rfl
def packP (x : Option (Bool × Nat × List (List AV))) (n j idx off : Nat) (hp : Hp) : Option AV :=
  match x with
  | some (bx, k', es) =>
    if k' = j ∧ idx < es.length then
      match (if bx then mapO (packR n hp) (es.getD idx []) else if solid es = true then some (es.getD idx []) else none) with
      | some cs => if cs.all rdOk = true then some (.rp cs off) else none
      | none => none
    else none
  | none => none
theorem packR_ptr {n : Nat} {r : BRef} {j idx off : Nat} : packR (n + 1) hp (.ptr r j idx off) = packP (gbV (rt hp r.root) r) n j idx off hp := by
  simp only [packR, ← getB_eq, packP]
  rcases getB (root? hp) r with _ | ⟨b, _, _⟩ <;> rfl
def packQ (x : Option (List AV)) (off : Nat) : Option AV := match x with | some cs => if cs.all rdOk = true then some (.rp cs off) else none | none => none
theorem packQ_some {cs : List AV} {off : Nat} : packQ (some cs) off = if cs.all rdOk = true then some (.rp cs off) else none := rfl
theorem packP_box {n j off : Nat} {e : List AV} : packP (some (true, j, [e])) n j 0 off hp = packQ (mapO (packR n hp) e) off := by
  simp only [packP, true_and, List.length_singleton, Nat.zero_lt_one, if_true, List.getD_cons_zero, packQ]
theorem unown_tree {j : Nat} {es : List (List AV)} : unown (.tree j es) hp = (.sl ⟨hp.length, none, 0⟩ j 0 es.length, hp ++ [some ⟨false, 0, j, es⟩]) := rfl
theorem unown_int : unown (.int k a) hp = (.int k a, hp) := rfl
theorem unown_bool {x : Bool} : unown (.bool x) hp = (.bool x, hp) := rfl
theorem unown_str : unown (.str s) hp = (.str s, hp) := rfl
def unA (x : List AV × Hp) : AV × Hp := (.agg x.1, x.2)
def unT (x : List AV × Hp) : AV × Hp := (.tup x.1, x.2)
def un2 (x : AV × Hp) (cs : List AV) : List AV × Hp := (x.1 :: (unownL cs x.2).1, (unownL cs x.2).2)
def un3 (v : AV) (x : List AV × Hp) : List AV × Hp := (v :: x.1, x.2)
theorem unown_agg {cs : List AV} : unown (.agg cs) hp = unA (unownL cs hp) := by simp only [unown, unA]
theorem unown_tup {cs : List AV} : unown (.tup cs) hp = unT (unownL cs hp) := by simp only [unown, unT]
theorem unA_mk {cs : List AV} : unA (cs, hp) = (.agg cs, hp) := rfl
theorem unT_mk {cs : List AV} : unT (cs, hp) = (.tup cs, hp) := rfl
theorem unownL_nil : unownL [] hp = ([], hp) := rfl
theorem unownL_cons {v : AV} {cs : List AV} : unownL (v :: cs) hp = un2 (unown v hp) cs := by simp only [unownL, un2]
theorem un2_mk {v : AV} {cs : List AV} : un2 (v, hp) cs = un3 v (unownL cs hp) := rfl
theorem un3_mk {v : AV} {cs : List AV} : un3 v (cs, hp) = (v :: cs, hp) := rfl
theorem seg_all {es : List (List AV)} {n : Nat} (h : es.length = n) : seg es 0 n = es := by subst h; simp [seg]
theorem seg_mapD {α : Type} {f : α → List AV} {xs : List α} {o n : Nat} : seg (xs.map f) o n = ((xs.drop o).take n).map f := by simp [seg, List.map_take, List.map_drop]
end
end Go.Proofs.Ytldmpjoddghdkaa.AI
