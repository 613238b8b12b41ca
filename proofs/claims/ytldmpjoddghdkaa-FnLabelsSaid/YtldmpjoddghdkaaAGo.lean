import Derived.Test.YtldmpjoddghdkaaALoop
namespace Go.Proofs.Ytldmpjoddghdkaa.AI
set_option linter.all false
set_option autoImplicit false
set_option linter.unusedVariables false
set_option linter.unusedSimpArgs false
inductive Fr where
  | c (a : RC)
  | ops (l : List ROp)
  | opd (ps : List (Nat × Nat)) (l : List (Nat × ROp)) (ms : List Mark)
  | mark (id : Nat)
mutual
noncomputable def go (ctx : Ctx) (base : Nat) : List Fr → St → Option (Ex × St)
  | [], s => some (.nrm, s)
  | .c a :: K, s => match run ctx base a s with | some (.nrm, s') => go ctx base K s' | some (e, s') => unw ctx base K e s' | none => none
  | .ops l :: K, s => match runR ctx l s with | some s' => go ctx base K s' | none => none
  | .opd ps l ms :: K, s => match runRD ctx ps l s ms with | some (s', _) => go ctx base K s' | none => none
  | .mark _ :: K, s => go ctx base K s
noncomputable def unw (ctx : Ctx) (base : Nat) : List Fr → Ex → St → Option (Ex × St)
  | [], e, s => some (e, s)
  | .mark j :: K, e, s => match e with | .exit i => if i = j then go ctx base K s else unw ctx base K (.exit i) s | e => unw ctx base K e s
  | _ :: K, e, s => unw ctx base K e s
end
section
variable {ctx : Ctx} {base : Nat} {K : List Fr} {s : St} {tm : List (Nat × AV)} {hp : Hp} {os : List ROp} {d : Option Nat}
theorem go_run {a : RC} : run ctx base a s = go ctx base [.c a] s := by
  simp only [go]
  rcases run ctx base a s with _ | ⟨e, s'⟩
  · rfl
  · cases e <;> simp only [unw]
theorem go_nil : go ctx base [] s = some (.nrm, s) := by simp only [go]
theorem go_skip : go ctx base (.c .skip :: K) s = go ctx base K s := by simp only [go, run]
theorem go_mark {i : Nat} : go ctx base (.mark i :: K) s = go ctx base K s := by simp only [go]
theorem go_reg {l : List ROp} : go ctx base (.c (.reg l) :: K) s = go ctx base (.ops l :: K) s := by
  simp only [go, run]
  cases runR ctx l s <;> rfl
theorem go_regd {l : List (Nat × ROp)} {ps : List (Nat × Nat)} : go ctx base (.c (.regd l ps) :: K) s = go ctx base (.opd ps l [] :: K) s := by
  simp only [go, run]
  rcases runRD ctx ps l s [] with _ | ⟨s', ms⟩ <;> rfl
theorem go_seq {a b : RC} : go ctx base (.c (.seq a b) :: K) s = go ctx base (.c a :: .c b :: K) s := by
  simp only [go, run]
  rcases run ctx base a s with _ | ⟨e, s'⟩
  · rfl
  · cases e <;> simp only [unw]
theorem go_block {i : Nat} {a : RC} : go ctx base (.c (.block i a) :: K) s = go ctx base (.c a :: .mark i :: K) s := by
  simp only [go, run]
  rcases run ctx base a s with _ | ⟨e, s'⟩
  · rfl
  · cases e with
    | nrm => rfl
    | ret => simp only [unw]
    | exit j => simp only [unw]; by_cases h : j = i <;> simp [h, unw]
theorem go_exit {i : Nat} : go ctx base (.c (.exit i) :: K) s = unw ctx base K (.exit i) s := by simp only [go, run]
theorem go_ret : go ctx base (.c .ret :: K) s = unw ctx base K .ret s := by simp only [go, run]
theorem unw_nil {e : Ex} : unw ctx base [] e s = some (e, s) := by simp only [unw]
theorem unw_c {a : RC} {e : Ex} : unw ctx base (.c a :: K) e s = unw ctx base K e s := by simp only [unw]
theorem unw_ops {l : List ROp} {e : Ex} : unw ctx base (.ops l :: K) e s = unw ctx base K e s := by simp only [unw]
theorem unw_opd {ps : List (Nat × Nat)} {l : List (Nat × ROp)} {ms : List Mark} {e : Ex} : unw ctx base (.opd ps l ms :: K) e s = unw ctx base K e s := by simp only [unw]
theorem unw_ret {j : Nat} : unw ctx base (.mark j :: K) .ret s = unw ctx base K .ret s := by simp only [unw]
theorem unw_exit {i j : Nat} : unw ctx base (.mark j :: K) (.exit i) s = if i = j then go ctx base K s else unw ctx base K (.exit i) s := by simp only [unw]
def sub1 : List (Nat × AV) → Nat → AV → List (Nat × AV)
  | [], _, _ => []
  | (t, v) :: r, n, x => if t = n then (t, x) :: r else (t, v) :: sub1 r n x
theorem sub1_lk : ∀ {tm : List (Nat × AV)} {n : Nat} {x : AV}, lk tm n = x → x ≠ .dead → sub1 tm n x = tm
  | [], n, x, h, hd => by simp [lk] at h; exact absurd h.symm hd
  | (t, v) :: r, n, x, h, hd => by
    simp only [lk] at h
    simp only [sub1]
    split
    · rename_i e; rw [if_pos e] at h; rw [h]
    · rename_i e; rw [if_neg e] at h; rw [sub1_lk h hd]
noncomputable def goIf (ctx : Ctx) (base : Nat) (v : AV) (n : Nat) (a b : RC) (K : List Fr) (tm : List (Nat × AV)) (hp : Hp) : Option (Ex × St) :=
  match v with
  | .bool t => if t = true then go ctx base (.c a :: K) ⟨sub1 tm n (.bool true), hp⟩ else go ctx base (.c b :: K) ⟨sub1 tm n (.bool false), hp⟩
  | _ => none
theorem go_cond {n : Nat} {a b : RC} : go ctx base (.c (.cond (.t n) a b) :: K) ⟨tm, hp⟩ = goIf ctx base (lk tm n) n a b K tm hp := by
  simp only [go, run, ev, goIf]
  generalize hv : lk tm n = v
  cases v <;> simp only []
  rename_i t
  cases t
  · rw [sub1_lk hv (by simp)]; simp
  · rw [sub1_lk hv (by simp)]; simp
theorem goIf_bool {n : Nat} {a b : RC} {t : Bool} : goIf ctx base (.bool t) n a b K tm hp = if t = true then go ctx base (.c a :: K) ⟨sub1 tm n (.bool true), hp⟩ else go ctx base (.c b :: K) ⟨sub1 tm n (.bool false), hp⟩ := rfl
noncomputable def goC (ctx : Ctx) (base : Nat) (r : Option (AV × Hp)) (d : Option Nat) (os : List ROp) (K : List Fr) (tm : List (Nat × AV)) : Option (Ex × St) :=
  match r with
  | some (v, hp) => go ctx base (.ops os :: K) ⟨put tm d v, hp⟩
  | none => none
noncomputable def goV (ctx : Ctx) (base : Nat) (r : Option AV) (d : Option Nat) (os : List ROp) (K : List Fr) (tm : List (Nat × AV)) (hp : Hp) : Option (Ex × St) :=
  match r with
  | some v => go ctx base (.ops os :: K) ⟨put tm d v, hp⟩
  | none => none
theorem goC_some {v : AV} : goC ctx base (some (v, hp)) d os K tm = go ctx base (.ops os :: K) ⟨put tm d v, hp⟩ := rfl
theorem goC_none : goC ctx base none d os K tm = none := rfl
theorem goC_ite {p : Prop} [Decidable p] {a b : Option (AV × Hp)} : goC ctx base (if p then a else b) d os K tm = if p then goC ctx base a d os K tm else goC ctx base b d os K tm := by split <;> rfl
theorem goV_some {v : AV} : goV ctx base (some v) d os K tm hp = go ctx base (.ops os :: K) ⟨put tm d v, hp⟩ := rfl
theorem goV_none : goV ctx base none d os K tm hp = none := rfl
theorem goV_ite {p : Prop} [Decidable p] {a b : Option AV} : goV ctx base (if p then a else b) d os K tm hp = if p then goV ctx base a d os K tm hp else goV ctx base b d os K tm hp := by split <;> rfl
theorem goV_map {r : Option AV} : goC ctx base (r.map fun v => (v, hp)) d os K tm = goV ctx base r d os K tm hp := by cases r <;> rfl
theorem go_ops_nil : go ctx base (.ops [] :: K) s = go ctx base K s := by simp only [go, runR]
theorem go_op {op : RO} : go ctx base (.ops (⟨d, none, op⟩ :: os) :: K) ⟨tm, hp⟩ = goC ctx base (stepC ctx (ev tm) hp op) d os K tm := by
  simp only [go, runR, runO, goC]
  rcases stepC ctx (ev tm) hp op with _ | ⟨v, hp'⟩ <;> rfl
noncomputable def goG (ctx : Ctx) (base : Nat) (v : AV) (t : Nat) (w : Bool) (d : Option Nat) (op : RO) (os : List ROp) (K : List Fr) (tm : List (Nat × AV)) (hp : Hp) : Option (Ex × St) :=
  match v with
  | .bool b => if b = w then go ctx base (.ops (⟨d, none, op⟩ :: os) :: K) ⟨sub1 tm t (.bool w), hp⟩ else go ctx base (.ops os :: K) ⟨put (sub1 tm t (.bool (!w))) d (.tup []), hp⟩
  | .tup [] => go ctx base (.ops os :: K) ⟨put tm d (.tup []), hp⟩
  | _ => none
theorem go_guard {t : Nat} {w : Bool} {op : RO} : go ctx base (.ops (⟨d, some (t, w), op⟩ :: os) :: K) ⟨tm, hp⟩ = goG ctx base (lk tm t) t w d op os K tm hp := by
  generalize hv : lk tm t = v
  unfold goG
  split
  · rename_i b
    by_cases h : b = w
    · subst h
      rw [if_pos rfl, sub1_lk hv (by simp)]
      simp only [go, runR, runO, hv, if_true]
    · have hb : b = !w := by cases b <;> cases w <;> simp_all
      rw [if_neg h, ← hb, sub1_lk hv (by simp)]
      simp only [go, runR, runO, hv, if_neg h]
  · simp only [go, runR, runO, hv]
  · simp only [go, runR, runO, hv]
theorem goG_bool {t : Nat} {w b : Bool} {op : RO} : goG ctx base (.bool b) t w d op os K tm hp = if b = w then go ctx base (.ops (⟨d, none, op⟩ :: os) :: K) ⟨sub1 tm t (.bool w), hp⟩ else go ctx base (.ops os :: K) ⟨put (sub1 tm t (.bool (!w))) d (.tup []), hp⟩ := rfl
theorem goG_tup {t : Nat} {w : Bool} {op : RO} : goG ctx base (.tup []) t w d op os K tm hp = go ctx base (.ops os :: K) ⟨put tm d (.tup []), hp⟩ := rfl
def vh (r : Option AV) (hp : Hp) : Option (AV × Hp) := r.map fun v => (v, hp)
theorem goC_vh {r : Option AV} : goC ctx base (vh r hp) d os K tm = goV ctx base r d os K tm hp := by cases r <;> rfl
def pickV (c a b : AV) : Option AV := match c with | .bool t => some (if t then a else b) | _ => none
theorem pickV_bool {t : Bool} {a b : AV} : pickV (.bool t) a b = some (if t = true then a else b) := rfl
def ldV (n : Nat) (agg : Bool) (v : AV) (hp : Hp) : Option AV :=
  match v with
  | .ptr r k idx off =>
    match getB (root? hp) r with
    | some (bx, k', es) =>
      if k' = k ∧ idx < es.length ∧ off + n ≤ k then mkv agg (if bx then seg1 (es.getD idx []) off n else outOf { r with gen := genAt hp r.root } idx off (seg1 (es.getD idx []) off n)) else none
    | none => none
  | .rp cells off => if off + n ≤ cells.length then mkv agg (seg1 cells off n) else none
  | _ => none
def stV (n : Nat) (x v : AV) (hp : Hp) : Option (AV × Hp) :=
  match x, v.cl with
  | .ptr r k idx off, some cs =>
    match getB (root? hp) r with
    | some (true, k', es) =>
      if k' = k ∧ idx < es.length ∧ off + n ≤ k ∧ (nnL cs hp).1.length = n ∧ ones (nnL cs hp).1 = true then
        some (.tup [], setB (nnL cs hp).2 r 0 fun es => es.set idx (splice (es.getD idx []) off (nnL cs hp).1)) else none
    | some (false, k', es) =>
      match into r hp cs with
      | some (cs', hp', b) =>
        if k' = k ∧ idx < es.length ∧ off + n ≤ k ∧ cs.length = n then
          some (.tup [], setB hp' r b fun es => es.set idx (splice (es.getD idx []) off cs')) else none
      | none => none
    | none => none
  | _, _ => none
def boxV (v : AV) (hp : Hp) : Option (AV × Hp) :=
  match v.cl with
  | some cells => some (.ptr ⟨(nnL cells hp).2.length, none, 0⟩ (nnL cells hp).1.length 0 0, (nnL cells hp).2 ++ [some ⟨true, 0, (nnL cells hp).1.length, [(nnL cells hp).1]⟩])
  | none => none
def eqV (neg : Bool) (fs : List (Nat × Nat)) (x y : AV) : Option AV :=
  match x, y with
  | .agg xs, .agg ys => (eqf xs ys fs).map fun b => .bool (if neg then !b else b)
  | _, _ => none
theorem sc_mv {x : X} : stepC ctx (ev tm) hp (.mv x) = some (ev tm x, hp) := rfl
theorem sc_pick {c a b : X} : stepC ctx (ev tm) hp (.pick c a b) = vh (pickV (ev tm c) (ev tm a) (ev tm b)) hp := by
  simp only [stepC, step, pickV, vh]; cases ev tm c <;> rfl
theorem sc_new {cs : List AV} : stepC ctx (ev tm) hp (.new cs) = boxV (.agg cs) hp := rfl
theorem sc_box {x : X} : stepC ctx (ev tm) hp (.box x) = boxV (ev tm x) hp := by
  simp only [stepC, step, boxV]
  rfl
theorem sc_ld {n : Nat} {g : Bool} {x : X} : stepC ctx (ev tm) hp (.ld n g x) = vh (ldV n g (ev tm x) hp) hp := by
  simp only [stepC, step, ldV, vh]
  generalize ev tm x = v
  cases v <;> simp only [Option.map_none]
  · rename_i r k idx off
    rcases getB (root? hp) r with _ | ⟨bx, k', es⟩ <;> simp only [Option.map_none]
    split <;> rfl
  · split <;> rfl
theorem sc_st {n : Nat} {x v : X} : stepC ctx (ev tm) hp (.st n x v) = stV n (ev tm x) (ev tm v) hp := by
  simp only [stepC, step, stV]
  rfl
theorem sc_bin {op : BinOp} {x y : X} : stepC ctx (ev tm) hp (.bin op x y) = vh (bin op (ev tm x) (ev tm y)) hp := rfl
theorem sc_bib {op : BinOp} {x y : X} : stepC ctx (ev tm) hp (.bib op x y) = vh (bib op (ev tm x) (ev tm y)) hp := rfl
theorem sc_un {op : UnOp} {x : X} : stepC ctx (ev tm) hp (.un op x) = vh (un op (ev tm x)) hp := rfl
theorem sc_eqs {neg : Bool} {fs : List (Nat × Nat)} {x y : X} : stepC ctx (ev tm) hp (.eqs neg fs x y) = vh (eqV neg fs (ev tm x) (ev tm y)) hp := by
  simp only [stepC, step, eqV, vh]
  generalize ev tm x = v
  generalize ev tm y = u
  cases v <;> cases u <;> simp only [Option.map_none, Option.map_map] <;> rfl
def nckV (v : AV) : Option AV := match v with | .ptr r k i o => some (.ptr r k i o) | .rp c o => some (.rp c o) | .fn f cs => some (.fn f cs) | _ => none
theorem sc_nck {x : X} : stepC ctx (ev tm) hp (.nck x) = vh (nckV (ev tm x)) hp := by simp only [stepC, step, nckV, vh]; cases ev tm x <;> rfl
def faV (off : Nat) (v : AV) : Option AV := match v with | .ptr r k i o => some (.ptr r k i (o + off)) | .rp c o => some (.rp c (o + off)) | _ => none
theorem sc_fa {off : Nat} {x : X} : stepC ctx (ev tm) hp (.fa off x) = vh (faV off (ev tm x)) hp := by simp only [stepC, step, faV, vh]; cases ev tm x <;> rfl
def flV (off n : Nat) (agg : Bool) (v : AV) : Option AV := match v with | .agg cs => if off + n ≤ cs.length then mkv agg (seg1 cs off n) else none | _ => none
theorem sc_fl {off n : Nat} {agg : Bool} {x : X} : stepC ctx (ev tm) hp (.fl off n agg x) = vh (flV off n agg (ev tm x)) hp := by
  simp only [stepC, step, flV, vh]; cases ev tm x <;> simp only [Option.map_none]
  split <;> rfl
def iaV (k : Nat) (v i : AV) (hp : Hp) : Option AV :=
  match v, i with
  | .sl r k' off len, .int _ n =>
    match getB (root? hp) r with
    | some (false, k'', _) => if k' = k ∧ k'' = k ∧ 0 ≤ n ∧ n < (len : Int) then some (.ptr r k (off + n.toNat) 0) else none
    | _ => none
  | .tree k' es, .int _ n => if k' = k ∧ 0 ≤ n ∧ n < (es.length : Int) then some (.rp (es.getD n.toNat []) 0) else none
  | _, _ => none
theorem sc_ia {k : Nat} {x i : X} : stepC ctx (ev tm) hp (.ia k x i) = vh (iaV k (ev tm x) (ev tm i) hp) hp := by
  simp only [stepC, step, iaV, vh]
  generalize ev tm x = v
  generalize ev tm i = u
  cases v <;> cases u <;> simp only [Option.map_none]
  · split <;> rfl
  · rename_i r k' off len _ n
    rcases getB (root? hp) r with _ | ⟨bx, k'', es⟩ <;> try rfl
    cases bx <;> try rfl
    simp only []
    split <;> rfl
def ixV (v i : AV) : Option AV := match v, i with | .str s, .int _ n => if 0 ≤ n ∧ n < s.size then some (.int .u8 (s.data.getD n.toNat 0).toNat) else none | _, _ => none
theorem sc_ix {x i : X} : stepC ctx (ev tm) hp (.ix x i) = vh (ixV (ev tm x) (ev tm i)) hp := by
  simp only [stepC, step, ixV, vh]
  generalize ev tm x = v
  generalize ev tm i = u
  cases v <;> cases u <;> simp only [Option.map_none]
  split <;> rfl
def exV (v : AV) (i : Nat) : Option AV := match v with | .tup vs => vs[i]? | _ => none
theorem sc_ex {x : X} {i : Nat} : stepC ctx (ev tm) hp (.ex x i) = vh (exV (ev tm x) i) hp := by simp only [stepC, step, exV, vh]; cases ev tm x <;> rfl
def lenV (str : Bool) (v : AV) : Option AV :=
  match str, v with
  | true, .str s => some (I64 s.size)
  | false, .nil _ => some (I64 0)
  | false, .tree _ es => some (I64 es.length)
  | false, .sl _ _ _ len => some (I64 len)
  | _, _ => none
theorem sc_len {str : Bool} {x : X} : stepC ctx (ev tm) hp (.len str x) = vh (lenV str (ev tm x)) hp := by
  cases str <;> simp only [stepC, step, lenV, vh] <;> cases ev tm x <;> rfl
def slcV (str : Bool) (k : Nat) (v : AV) (lo hi : Option AV) (hp : Hp) : Option AV :=
  match str, v with
  | true, .str s => (ints2 lo hi s.size).map fun p => .str (s.extract p.1 p.2)
  | false, .nil k' => (ints2 lo hi 0).map fun _ => .nil k'
  | false, .tree k' es => if k' = k then (ints2 lo hi es.length).map fun p => .tree k (seg es p.1 (p.2 - p.1)) else none
  | false, .sl r k' off len =>
      match getB (root? hp) r with
      | some (false, k'', _) => if k' = k ∧ k'' = k then (ints2 lo hi len).map fun p => .sl r k (off + p.1) (p.2 - p.1) else none
      | _ => none
  | _, _ => none
theorem sc_slc {str : Bool} {k : Nat} {x : X} {lo hi : Option X} : stepC ctx (ev tm) hp (.slc str k x lo hi) = vh (slcV str k (ev tm x) (lo.map (ev tm)) (hi.map (ev tm)) hp) hp := by
  cases str <;> simp only [stepC, step, slcV, vh] <;> generalize ev tm x = v <;> cases v <;> simp only [Option.map_none, Option.map_map] <;> try rfl
  · split
    · simp only [Option.map_map]; rfl
    · rfl
  · rename_i r k' off len
    rcases getB (root? hp) r with _ | ⟨bx, k'', es⟩ <;> try rfl
    cases bx <;> try rfl
    simp only []
    split
    · simp only [Option.map_map]; rfl
    · rfl
def cviV (k : IntKind) (v : AV) : Option AV := match v with | .int _ n => some (.int k (k.wrap n)) | _ => none
theorem sc_cvi {k : IntKind} {x : X} : stepC ctx (ev tm) hp (.cvi k x) = vh (cviV k (ev tm x)) hp := by simp only [stepC, step, cviV, vh]; cases ev tm x <;> rfl
def cvsV (v : AV) : Option AV := match v with | .str s => some (.str s) | _ => none
theorem sc_cvs {x : X} : stepC ctx (ev tm) hp (.cvs x) = vh (cvsV (ev tm x)) hp := by simp only [stepC, step, cvsV, vh]; cases ev tm x <;> rfl
def newV (k : Nat) (g : Nat) (es : List (List AV)) (n : Nat) (hp : Hp) : Option (AV × Hp) := some (.sl ⟨hp.length, none, 0⟩ k 0 n, hp ++ [some ⟨false, g, k, es⟩])
def mkV (k : Nat) (zero : List AV) (bytes : Nat) (l c : AV) (hp : Hp) : Option (AV × Hp) :=
  match l, c with
  | .int .i64 l, .int .i64 c =>
    if 0 ≤ l ∧ l ≤ c ∧ bytes * c ≤ 70368744177664 ∧ c ≤ 70368744177664 ∧ zero.all okZ = true then newV k 0 (List.replicate l.toNat zero) l.toNat hp else none
  | _, _ => none
theorem sc_mk {k : Nat} {zero : List AV} {bytes : Nat} {l c : X} : stepC ctx (ev tm) hp (.mk k zero bytes l c) = mkV k zero bytes (ev tm l) (ev tm c) hp := by
  simp only [stepC, step, mkV, newV, newB]
  rfl
def appN (flt : Bool) (k : Nat) (v : AV) (hp : Hp) : Option (List (List AV) × Hp) :=
  match v with
  | .str s => if k = 1 then some (byteE s, hp) else none
  | v =>
    if flt then (match elems hp k v with | some es => if flat es = true then some (es, hp) else none | none => none) else
    match v with
    | .nil k' => if k' = k then some ([], hp) else none
    | .sl q k' off len =>
      match q.path, elems hp k (.sl q k' off len) with
      | none, some es => if solid es = true then some (es, hp.set q.root none) else none
      | _, _ => none
    | _ => none
def appO (k bytes : Nat) (v : AV) (es : List (List AV)) (hp' : Hp) : Option (AV × Hp) :=
  match v with
  | .nil k' => if k' = k ∧ es.length * bytes ≤ 70368744177664 then newV k 0 es es.length hp' else none
  | .sl q k' off len =>
    match elems hp' k (.sl q k' off len) with
    | some old => if (old.length + es.length) * bytes ≤ 70368744177664 then newV k 0 (old ++ es) (old.length + es.length) (kill hp' q) else none
    | none => none
  | _ => none
def appV (k bytes : Nat) (v : AV) (n : Option (List (List AV) × Hp)) : Option (AV × Hp) := match n with | some (es, hp') => appO k bytes v es hp' | none => none
theorem sc_app {flt : Bool} {k bytes : Nat} {x y : X} : stepC ctx (ev tm) hp (.app flt k bytes x y) = appV k bytes (ev tm x) (appN flt k (ev tm y) hp) := by
  have h : stepC ctx (ev tm) hp (.app flt k bytes x y) = match appN flt k (ev tm y) hp with | none => none | some (es, hp') => appO k bytes (ev tm x) es hp' := by
    simp only [stepC, step, appN, appO, newV, newB]
    rfl
  rw [h]
  unfold appV
  rcases appN flt k (ev tm y) hp with _ | ⟨es, hp'⟩ <;> rfl
theorem sc_call {f : Nat} {xs : List X} : stepC ctx (ev tm) hp (.call f xs) = match ctx f with | some c => callS c (xs.map (ev tm)) hp | none => none := rfl
end
end Go.Proofs.Ytldmpjoddghdkaa.AI
