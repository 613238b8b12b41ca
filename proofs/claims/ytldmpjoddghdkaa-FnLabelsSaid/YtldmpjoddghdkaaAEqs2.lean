import Derived.Test.YtldmpjoddghdkaaAEqs
namespace Go.Proofs.Ytldmpjoddghdkaa.AI
set_option linter.all false
open Go.RowKit
set_option autoImplicit false
set_option linter.unusedVariables false
set_option linter.unusedSimpArgs false
section
variable {ctx : Ctx} {tm : List (Nat × AV)} {hp : Hp} {k κ : IntKind} {a b n : Int} {s t : ByteArray} {j off len : Nat} {es : List (List AV)} {r : BRef}
theorem faV_ptr {o i : Nat} : faV o (.ptr r j i off) = some (.ptr r j i (off + o)) := rfl
theorem faV_rp {o : Nat} {cs : List AV} : faV o (.rp cs off) = some (.rp cs (off + o)) := rfl
theorem nckV_ptr {i : Nat} : nckV (.ptr r j i off) = some (.ptr r j i off) := rfl
theorem nckV_rp {cs : List AV} : nckV (.rp cs off) = some (.rp cs off) := rfl
theorem nckV_fn {cs : List AV} : nckV (.fn j cs) = some (.fn j cs) := rfl
theorem flV_agg {o m : Nat} {g : Bool} {cs : List AV} : flV o m g (.agg cs) = if o + m ≤ cs.length then mkv g (seg1 cs o m) else none := rfl
theorem lenV_str : lenV true (.str s) = some (.int .i64 s.size) := rfl
theorem lenV_nil : lenV false (.nil j) = some (.int .i64 0) := rfl
theorem lenV_tree : lenV false (.tree j es) = some (.int .i64 es.length) := rfl
theorem lenV_sl : lenV false (.sl r j off len) = some (.int .i64 len) := rfl
theorem exV_tup {vs : List AV} {i : Nat} : exV (.tup vs) i = vs[i]? := rfl
theorem iaV_tree : iaV j (.tree j es) (.int k n) hp = if 0 ≤ n ∧ n < (es.length : Int) then some (.rp (es.getD n.toNat []) 0) else none := by simp [iaV]
def iaS (x : Option (Bool × Nat × List (List AV))) (j : Nat) (r : BRef) (off len : Nat) (n : Int) : Option AV := match x with | some (false, k'', _) => if k'' = j ∧ 0 ≤ n ∧ n < (len : Int) then some (.ptr r j (off + n.toNat) 0) else none | _ => none
theorem iaV_sl : iaV j (.sl r j off len) (.int k n) hp = iaS (gbV (rt hp r.root) r) j r off len n := by
  simp only [iaV, ← getB_eq, iaS, true_and]
  rcases getB (root? hp) r with _ | ⟨b, _, _⟩
  · rfl
  · cases b <;> rfl
theorem iaS_some : iaS (some (false, j, es)) j r off len n = if 0 ≤ n ∧ n < (len : Int) then some (.ptr r j (off + n.toNat) 0) else none := by simp [iaS]
theorem ixV_str : ixV (.str s) (.int k n) = if 0 ≤ n ∧ n < s.size then some (.int .u8 (s.data.getD n.toNat 0).toNat) else none := rfl
theorem cviV_int : cviV κ (.int k n) = some (.int κ (κ.wrap n)) := rfl
theorem cvsV_str : cvsV (.str s) = some (.str s) := rfl
theorem ints2_nn : ints2 none none len = some (0, len) := rfl
theorem ints2_nh : ints2 none (some (.int k b)) len = if 0 ≤ b ∧ b ≤ (len : Int) then some (0, b.toNat) else none := by
  simp only [ints2, bound]
  by_cases h : 0 ≤ b ∧ b ≤ (len : Int) <;> simp only [h, if_true, if_false, and_self]
theorem ints2_ln : ints2 (some (.int k a)) none len = if 0 ≤ a ∧ a ≤ (len : Int) then some (a.toNat, len) else none := by
  simp only [ints2, bound]
  by_cases h : 0 ≤ a ∧ a ≤ (len : Int) <;> simp only [h, if_true, if_false, and_self]
theorem ints2_lh : ints2 (some (.int k a)) (some (.int κ b)) len = if 0 ≤ b ∧ b ≤ (len : Int) then (if 0 ≤ a ∧ a ≤ (b.toNat : Int) then some (a.toNat, b.toNat) else none) else none := by
  simp only [ints2, bound]
  by_cases h : 0 ≤ b ∧ b ≤ (len : Int) <;> simp only [h, if_true, if_false, and_self]
  by_cases h : 0 ≤ a ∧ a ≤ (b.toNat : Int) <;> simp only [h, if_true, if_false, and_self]
def slT (f : Nat × Nat → AV) (x : Option (Nat × Nat)) : Option AV := match x with | some p => some (f p) | none => none
theorem slT_some {f : Nat × Nat → AV} {p : Nat × Nat} : slT f (some p) = some (f p) := rfl
theorem slT_none {f : Nat × Nat → AV} : slT f none = none := rfl
theorem slT_ite {f : Nat × Nat → AV} {p : Prop} [Decidable p] {x y : Option (Nat × Nat)} : slT f (if p then x else y) = if p then slT f x else slT f y := by split <;> rfl
theorem map_slT {f : Nat × Nat → AV} {x : Option (Nat × Nat)} : x.map f = slT f x := by cases x <;> rfl
theorem slcV_str {lo hi : Option AV} : slcV true j (.str s) lo hi hp = slT (fun p => .str (s.extract p.1 p.2)) (ints2 lo hi s.size) := by simp only [slcV, map_slT]
theorem slcV_nil {lo hi : Option AV} {i : Nat} : slcV false j (.nil i) lo hi hp = slT (fun _ => .nil i) (ints2 lo hi 0) := by simp only [slcV, map_slT]
theorem slcV_tree {lo hi : Option AV} : slcV false j (.tree j es) lo hi hp = slT (fun p => .tree j (seg es p.1 (p.2 - p.1))) (ints2 lo hi es.length) := by simp only [slcV, map_slT, if_true]
def slS (x : Option (Bool × Nat × List (List AV))) (j : Nat) (r : BRef) (off : Nat) (y : Option (Nat × Nat)) : Option AV := match x with | some (false, k'', _) => if k'' = j then slT (fun p => .sl r j (off + p.1) (p.2 - p.1)) y else none | _ => none
theorem slcV_sl {lo hi : Option AV} : slcV false j (.sl r j off len) lo hi hp = slS (gbV (rt hp r.root) r) j r off (ints2 lo hi len) := by
  simp only [slcV, ← getB_eq, slS, true_and, map_slT]
  rcases getB (root? hp) r with _ | ⟨b, _, _⟩
  · rfl
  · cases b <;> rfl
theorem slS_some {y : Option (Nat × Nat)} : slS (some (false, j, es)) j r off y = slT (fun p => .sl r j (off + p.1) (p.2 - p.1)) y := by simp [slS]
theorem opt_none {α β : Type} {f : α → β} : (none : Option α).map f = none := rfl
theorem opt_some {α β : Type} {f : α → β} {x : α} : (some x).map f = some (f x) := rfl
theorem newV_eq {g : Nat} : newV j g es len hp = some (.sl ⟨hp.length, none, 0⟩ j 0 len, hp ++ [some ⟨false, g, j, es⟩]) := rfl
theorem mkV_int {zero : List AV} {bytes : Nat} : mkV j zero bytes (.int .i64 a) (.int .i64 b) hp = if 0 ≤ a ∧ a ≤ b ∧ (bytes : Int) * b ≤ 70368744177664 ∧ b ≤ 70368744177664 ∧ zero.all okZ = true then newV j 0 (List.replicate a.toNat zero) a.toNat hp else none := rfl
def appE (x : Option (List (List AV))) (hp : Hp) : Option (List (List AV) × Hp) := match x with | some es => if flat es = true then some (es, hp) else none | none => none
theorem appE_some : appE (some es) hp = if flat es = true then some (es, hp) else none := rfl
theorem appN_str {g : Bool} : appN g 1 (.str s) hp = some (byteE s, hp) := rfl
theorem appN_sl : appN true j (.sl r len off n.toNat) hp = appE (elems hp j (.sl r len off n.toNat)) hp := rfl
theorem appN_sl' {i o l : Nat} : appN true j (.sl r i o l) hp = appE (elems hp j (.sl r i o l)) hp := rfl
theorem appN_tree {i : Nat} : appN true j (.tree i es) hp = appE (elems hp j (.tree i es)) hp := rfl
theorem appN_nil {i : Nat} : appN true j (.nil i) hp = appE (elems hp j (.nil i)) hp := rfl
theorem appN_fnil : appN false j (.nil j) hp = some ([], hp) := by simp [appN]
def appF (x : Option (List (List AV))) (i : Nat) (hp : Hp) : Option (List (List AV) × Hp) := match x with | some es => if solid es = true then some (es, rtSet hp i none) else none | none => none
theorem appN_fsl {i g o l j' : Nat} : appN false j (.sl ⟨i, none, g⟩ j' o l) hp = appF (elems hp j (.sl ⟨i, none, g⟩ j' o l)) i hp := by
  simp only [appN, appF, Bool.false_eq_true, if_false, set_rt]
  cases elems hp j (.sl ⟨i, none, g⟩ j' o l) <;> rfl
theorem appF_some {i : Nat} : appF (some es) i hp = if solid es = true then some (es, rtSet hp i none) else none := rfl
theorem appV_some {bytes : Nat} {v : AV} : appV j bytes v (some (es, hp)) = appO j bytes v es hp := rfl
theorem appV_none {bytes : Nat} {v : AV} : appV j bytes v none = none := rfl
theorem appV_ite {bytes : Nat} {v : AV} {p : Prop} [Decidable p] {x y : Option (List (List AV) × Hp)} : appV j bytes v (if p then x else y) = if p then appV j bytes v x else appV j bytes v y := by split <;> rfl
theorem appO_nil {bytes : Nat} : appO j bytes (.nil j) es hp = if es.length * bytes ≤ 70368744177664 then newV j 0 es es.length hp else none := by simp [appO]
def appS (j bytes : Nat) (es : List (List AV)) (i : Nat) (hp : Hp) (x : Option (List (List AV))) : Option (AV × Hp) :=
  match x with
  | some old => if (old.length + es.length) * bytes ≤ 70368744177664 then newV j 0 (old ++ es) (old.length + es.length) (rtSet hp i none) else none
  | none => none
theorem appO_sl {bytes i g o l j' : Nat} : appO j bytes (.sl ⟨i, none, g⟩ j' o l) es hp = appS j bytes es i hp (elems hp j (.sl ⟨i, none, g⟩ j' o l)) := by
  simp only [appO, appS, kill, set_rt]
  cases elems hp j (.sl ⟨i, none, g⟩ j' o l) <;> rfl
theorem appS_some {bytes i : Nat} {old : List (List AV)} : appS j bytes es i hp (some old) = if (old.length + es.length) * bytes ≤ 70368744177664 then newV j 0 (old ++ es) (old.length + es.length) (rtSet hp i none) else none := rfl
def agO (x : Option (List AV)) : Option AV := match x with | some cs => some (.agg cs) | none => none
theorem agO_some {cs : List AV} : agO (some cs) = some (.agg cs) := rfl
theorem sc_build {z : List AV} {ps : List (Nat × Nat × X)} : stepC ctx (ev tm) hp (.build z ps) = vh (agO (fillP (ev tm) z ps)) hp := by
  simp only [stepC, step, vh, agO]; cases fillP (ev tm) z ps <;> rfl
def fillQ (e : X → AV) (cells : List AV) (off n : Nat) (ps : List (Nat × Nat × X)) (x : Option (List AV)) : Option (List AV) := match x with | some cs => if cs.length = n ∧ off + n ≤ cells.length then fillP e (splice cells off cs) ps else none | none => none
theorem fillP_nil {e : X → AV} {cells : List AV} : fillP e cells [] = some cells := rfl
theorem fillP_cons {e : X → AV} {cells : List AV} {o m : Nat} {x : X} {ps : List (Nat × Nat × X)} : fillP e cells ((o, m, x) :: ps) = fillQ e cells o m ps (e x).cl := by
  simp only [fillP, fillQ]; cases (e x).cl <;> rfl
theorem fillQ_some {e : X → AV} {cells : List AV} {o m : Nat} {ps : List (Nat × Nat × X)} {cs : List AV} : fillQ e cells o m ps (some cs) = if cs.length = m ∧ o + m ≤ cells.length then fillP e (splice cells o cs) ps else none := rfl
theorem splice_eq {l cs : List AV} {o : Nat} : splice l o cs = l.take o ++ cs ++ l.drop (o + cs.length) := rfl
def bslV (j len : Nat) (x : Option (List (List AV) × Hp × Nat)) : Option (AV × Hp) := match x with | some (es, hp', m) => newV j m es len hp' | none => none
theorem sc_bsl {xs : List X} : stepC ctx (ev tm) hp (.bsl j xs) = bslV j xs.length (fillE (ev tm) ⟨hp.length, none, 0⟩ j hp xs) := by
  simp only [stepC, step, bslV, newV, newB]
  cases fillE (ev tm) ⟨hp.length, none, 0⟩ j hp xs <;> rfl
theorem bslV_some {m : Nat} : bslV j len (some (es, hp, m)) = newV j m es len hp := rfl
def intoO (r : BRef) (hp : Hp) (x : Option (List AV)) : Option (List AV × Hp × Nat) := match x with | some cs => into r hp cs | none => none
theorem intoO_some {cs : List AV} : intoO r hp (some cs) = into r hp cs := rfl
def feD (cs : List AV) (m : Nat) (x : Option (List (List AV) × Hp × Nat)) : Option (List (List AV) × Hp × Nat) := match x with | some (es, hp'', l) => some (cs :: es, hp'', m + l) | none => none
def feC (e : X → AV) (r : BRef) (j : Nat) (xs : List X) (x : Option (List AV × Hp × Nat)) : Option (List (List AV) × Hp × Nat) :=
  match x with
  | some (cs, hp', m) => if cs.length = j then feD cs m (fillE e r j hp' xs) else none
  | none => none
theorem fillE_nil {e : X → AV} : fillE e r j hp [] = some ([], hp, 0) := rfl
theorem fillE_cons {e : X → AV} {x : X} {xs : List X} : fillE e r j hp (x :: xs) = feC e r j xs (intoO r hp (e x).cl) := by
  simp only [fillE, feC, intoO]
  cases (e x).cl with
  | none => rfl
  | some cs =>
    simp only [Option.bind_some]
    rcases into r hp cs with _ | ⟨cs', hp', m⟩
    · rfl
    · simp only [feD]
      split
      · rcases fillE e r j hp' xs with _ | ⟨_, _, _⟩ <;> rfl
      · rfl
theorem feC_some {e : X → AV} {xs : List X} {cs : List AV} {m : Nat} : feC e r j xs (some (cs, hp, m)) = if cs.length = j then feD cs m (fillE e r j hp xs) else none := rfl
theorem feD_some {cs : List AV} {m l : Nat} : feD cs m (some (es, hp, l)) = some (cs :: es, hp, m + l) := rfl
theorem sc_s2b {x : X} : stepC ctx (ev tm) hp (.s2b x) = match ev tm x with | .str s => if s.size ≤ 4611686018427387904 then newV 1 0 (byteE s) s.size hp else none | _ => none := by
  simp only [stepC, step, newV, newB]
  cases ev tm x <;> rfl
def b2sV (x : Option (List (List AV))) : Option AV := match x with | some es => (bytesOf es).map fun bs => .str ⟨bs.toArray⟩ | none => none
theorem sc_b2s {x : X} : stepC ctx (ev tm) hp (.b2s x) = vh (b2sV (elems hp 1 (ev tm x))) hp := by
  simp only [stepC, step, b2sV, vh]
  cases elems hp 1 (ev tm x) with
  | none => rfl
  | some es => simp only [Option.bind_some]; cases bytesOf es <;> rfl
theorem sc_mx {x : X} {xs : List X} : stepC ctx (ev tm) hp (.mx (x :: xs)) = match ev tm x with | .int k a => vh (mxI (fun a b => if b > a then b else a) k a (xs.map (ev tm))) hp | _ => none := by
  simp only [stepC, step, vh]; cases ev tm x <;> rfl
theorem sc_mn {x : X} {xs : List X} : stepC ctx (ev tm) hp (.mn (x :: xs)) = match ev tm x with | .int k a => vh (mxI (fun a b => if b < a then b else a) k a (xs.map (ev tm))) hp | _ => none := by
  simp only [stepC, step, vh]; cases ev tm x <;> rfl
theorem mxI_nil {f : Int → Int → Int} : mxI f k a [] = some (.int k a) := rfl
theorem mxI_cons {f : Int → Int → Int} {vs : List AV} : mxI f k a (.int κ b :: vs) = mxI f k (f a b) vs := rfl
theorem eqV_agg {neg : Bool} {fs : List (Nat × Nat)} {xs ys : List AV} : eqV neg fs (.agg xs) (.agg ys) = (eqf xs ys fs).map fun b => .bool (if neg then !b else b) := rfl
def gnV (b : Option Blk) : Nat := match b with | some b => b.gen | none => 0
theorem genAt_eq {i : Nat} : genAt hp i = gnV (rt hp i) := by simp only [genAt, root_rt, gnV]; cases rt hp i <;> rfl
theorem gnV_some {x : Bool} {g : Nat} : gnV (some ⟨x, g, j, es⟩) = g := rfl
theorem outOf_nil {i m : Nat} : outOf r i m [] = [] := rfl
theorem outOf_cons {i m : Nat} {c : AV} {cs : List AV} : outOf r i m (c :: cs) = outC r i m c :: outOf r i (m + 1) cs := rfl
theorem outC_int {i m : Nat} : outC r i m (.int k a) = .int k a := rfl
theorem outC_str {i m : Nat} : outC r i m (.str s) = .str s := rfl
theorem outC_bool {i m : Nat} {x : Bool} : outC r i m (.bool x) = .bool x := rfl
theorem outC_tree {q g i m : Nat} : outC ⟨q, none, g⟩ i m (.tree j es) = .sl ⟨q, some (i, m), g⟩ j 0 es.length := rfl
theorem scal_int : scal (.int k a) = true := rfl
theorem scal_bool {x : Bool} : scal (.bool x) = true := rfl
theorem scal_str : scal (.str s) = true := rfl
theorem scal_tree : scal (.tree j es) = false := rfl
theorem scals_nil : scals [] = true := rfl
theorem scals_cons {c : AV} {cs : List AV} : scals (c :: cs) = (scal c && scals cs) := rfl
theorem flat_nil : flat [] = true := rfl
theorem flat_cons {e : List AV} : flat (e :: es) = (scals e && flat es) := rfl
theorem solid_nil : solid [] = true := rfl
def solC (c : AV) : Bool := match c with | .tree _ _ => true | c => scal c
theorem solid_cons {e : List AV} : solid (e :: es) = (e.all solC && solid es) := rfl
theorem solC_int : solC (.int k a) = true := rfl
theorem solC_bool {x : Bool} : solC (.bool x) = true := rfl
theorem solC_str : solC (.str s) = true := rfl
theorem solC_tree : solC (.tree j es) = true := rfl
theorem one_int : one (.int k a) = true := rfl
theorem one_bool {x : Bool} : one (.bool x) = true := rfl
theorem one_str : one (.str s) = true := rfl
theorem one_tree : one (.tree j es) = true := rfl
theorem one_sl {i o l : Nat} : one (.sl r i o l) = true := rfl
theorem one_ptr {i o l : Nat} : one (.ptr r i o l) = true := rfl
theorem one_rp {cs : List AV} {o : Nat} : one (.rp cs o) = true := rfl
theorem one_fn {cs : List AV} {o : Nat} : one (.fn o cs) = true := rfl
theorem ones_nil : ones [] = true := rfl
theorem ones_cons {c : AV} {cs : List AV} : ones (c :: cs) = (one c && ones cs) := rfl
theorem rdOk_int : rdOk (.int k a) = true := rfl
theorem rdOk_bool {x : Bool} : rdOk (.bool x) = true := rfl
theorem rdOk_str : rdOk (.str s) = true := rfl
theorem rdOk_tree : rdOk (.tree j es) = true := rfl
theorem rdOk_rp {cs : List AV} {o : Nat} : rdOk (.rp cs o) = true := rfl
theorem okZ_int : okZ (.int k a) = true := rfl
theorem okZ_bool {x : Bool} : okZ (.bool x) = true := rfl
theorem okZ_str : okZ (.str s) = true := rfl
theorem okZ_tree : okZ (.tree j []) = true := rfl
theorem still_call {f : Nat} {xs : List X} : still (.call f xs) = false := rfl
theorem still_callv {x : X} {xs : List X} : still (.callv x xs) = false := rfl
theorem still_new {c : List AV} : still (.new c) = false := rfl
theorem still_box {x : X} : still (.box x) = false := rfl
theorem still_bsl {xs : List X} : still (.bsl j xs) = false := rfl
theorem still_st {m : Nat} {x v : X} : still (.st m x v) = false := rfl
theorem still_s2b {x : X} : still (.s2b x) = false := rfl
theorem still_mk {z : List AV} {m : Nat} {x v : X} : still (.mk j z m x v) = false := rfl
theorem still_app {g : Bool} {m : Nat} {x v : X} : still (.app g j m x v) = false := rfl
theorem still_ld {g : Bool} {m : Nat} {x : X} : still (.ld m g x) = true := rfl
theorem still_b2s {x : X} : still (.b2s x) = true := rfl
theorem still_slc {g : Bool} {x : X} {l h : Option X} : still (.slc g j x l h) = true := rfl
theorem still_ia {x v : X} : still (.ia j x v) = true := rfl
theorem kOf_cons {i m : Nat} {l : List Nat} {q : List (Nat × List Nat)} : kOf ((i, l) :: q) m = if i = m then l else kOf q m := rfl
theorem kOf_nil {m : Nat} : kOf [] m = [] := rfl
theorem sbV_hung {i u v g g' m : Nat} {x : Bool} {f : List (List AV) → List (List AV)} : sbV (some ⟨x, g, j, es⟩) ⟨i, some (u, v), g'⟩ m f hp = rtSet hp i (some ⟨x, g + m, j, setP es (some (u, v)) f⟩) := rfl
theorem cast_lit {n : Nat} : ((no_index (OfNat.ofNat n) : Nat) : Int) = (OfNat.ofNat n : Int) := rfl
theorem cellT_tree : cellT (.tree j es) = some (false, j, es) := rfl
end
end Go.Proofs.Ytldmpjoddghdkaa.AI
