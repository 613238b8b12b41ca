import Derived.Test.YtldmpjoddghdkaaADefs
namespace Go.Proofs.Ytldmpjoddghdkaa.AI
set_option linter.all false
set_option autoImplicit false
def mapO {α β : Type} (f : α → Option β) : List α → Option (List β)
  | [] => some []
  | x :: xs => match f x with | some y => (match mapO f xs with | some ys => some (y :: ys) | none => none) | none => none
def rdOk : AV → Bool
  | .bool _ => true
  | .int _ _ => true
  | .str _ => true
  | .pnil => true
  | .inil => true
  | .fnil => true
  | .tree _ _ => true
  | .rp _ _ => true
  | _ => false
mutual
def noRef : AV → Bool
  | .dead => false
  | .gone => false
  | .sl .. => false
  | .ptr .. => false
  | .agg cs => noRefL cs
  | .tup cs => noRefL cs
  | .fn _ cs => noRefL cs
  | _ => true
def noRefL : List AV → Bool
  | [] => true
  | v :: vs => noRef v && noRefL vs
end
def packR : Nat → Hp → AV → Option AV
  | 0, _, _ => none
  | n + 1, hp, v =>
    match v with
    | .dead => none
    | .gone => none
    | .nil k => some (.tree k [])
    | .sl r k off len => match elems hp k (.sl r k off len) with | some es => if solid es = true ∧ es.length = len then some (.tree k es) else none | none => none
    | .ptr r k idx off =>
      match getB (root? hp) r with
      | some (bx, k', es) =>
        if k' = k ∧ idx < es.length then
          match (if bx then mapO (packR n hp) (es.getD idx []) else if solid es = true then some (es.getD idx []) else none) with
          | some cs => if cs.all rdOk = true then some (.rp cs off) else none
          | none => none
        else none
      | none => none
    | .agg cs => (mapO (packR n hp) cs).map .agg
    | .tup cs => (mapO (packR n hp) cs).map .tup
    | .fn f cs => (mapO (packR n hp) cs).map (.fn f)
    | v => some v
mutual
def unown : AV → Hp → AV × Hp
  | .tree k es, hp => (.sl ⟨hp.length, none, 0⟩ k 0 es.length, hp ++ [some ⟨false, 0, k, es⟩])
  | .agg cs, hp => let x := unownL cs hp; (.agg x.1, x.2)
  | .tup cs, hp => let x := unownL cs hp; (.tup x.1, x.2)
  | v, hp => (v, hp)
def unownL : List AV → Hp → List AV × Hp
  | [], hp => ([], hp)
  | v :: vs, hp => let x := unown v hp; let y := unownL vs x.2; (x.1 :: y.1, y.2)
end
mutual
def hand : AV → Hp → Option (AV × Hp)
  | .sl r k off len, hp =>
    match r.path, root? hp r.root with
    | none, some b =>
      if b.box = false ∧ b.k = k ∧ off = 0 ∧ len = b.es.length ∧ solid b.es = true then some (.tree k b.es, hp.set r.root none)
      else if b.box = false ∧ b.k = k ∧ off + len ≤ b.es.length ∧ flat b.es = true then some (.tree k (seg b.es off len), hp.set r.root none) else none
    | _, _ => none
  | .nil k, hp => some (.tree k [], hp)
  | .agg cs, hp => match handL cs hp with | some x => some (.agg x.1, x.2) | none => none
  | .tup cs, hp => match handL cs hp with | some x => some (.tup x.1, x.2) | none => none
  | .bool b, hp => some (.bool b, hp)
  | .int k n, hp => some (.int k n, hp)
  | .str s, hp => some (.str s, hp)
  | _, _ => none
def handL : List AV → Hp → Option (List AV × Hp)
  | [], hp => some ([], hp)
  | v :: vs, hp =>
    match hand v hp with
    | some x => (match handL vs x.2 with | some y => some (x.1 :: y.1, y.2) | none => none)
    | none => none
end
structure ByV where
  mt : Option Nat
  ro : Bool
  sem : List AV → Option (AV × List (List AV))
inductive CK where
  | byv (F : ByV)
  | inl (g : List AV → Hp → Option (AV × Hp))
abbrev Ctx := Nat → Option CK
def callS (c : CK) (args : List AV) (hp : Hp) : Option (AV × Hp) :=
  match c with
  | .inl g => g args hp
  | .byv F =>
    match F.mt with
    | none =>
      match mapO (packR 5 hp) args with
      | none => none
      | some ps =>
        match F.sem ps with
        | none => none
        | some (v, _) => if F.ro then (if noRefL args then some (v, hp) else none) else some (unown v hp)
    | some _ =>
      match args with
      | .sl r k off len :: rest =>
        match getB (root? hp) r with
        | some (false, k', es) =>
          if k' = k ∧ off = 0 ∧ len = es.length ∧ scals rest = true ∧ (if r.path.isSome then flat es else solid es) = true then
            match F.sem (.tree k es :: rest) with
            | some (v, es') => if scal v = true ∧ (if r.path.isSome then flat es' else solid es') = true then some (v, setB hp r (if r.path.isSome then 0 else 1) fun _ => es') else none
            | none => none
          else none
        | _ => none
      | _ => none
mutual
def roots : AV → List Nat
  | .sl r _ _ _ => [r.root]
  | .ptr r _ _ _ => [r.root]
  | .agg cs => rootsL cs
  | .tup cs => rootsL cs
  | .fn _ cs => rootsL cs
  | _ => []
def rootsL : List AV → List Nat
  | [] => []
  | v :: vs => roots v ++ rootsL vs
end
def rootsB : Option Blk → List Nat
  | some ⟨true, _, _, es⟩ => (es.map rootsL).flatten
  | _ => []
def has : List Nat → Nat → Bool
  | [], _ => false
  | x :: xs, n => if x = n then true else has xs n
def disc (hp : Hp) (base : Nat) : Nat → List Nat → List Nat → List Nat
  | 0, _, fd => fd
  | _ + 1, [], fd => fd
  | n + 1, r :: w, fd =>
    if r < base then disc hp base n w fd
    else if has fd r then disc hp base n w fd
    else match root? hp r with
      | some b => disc hp base n (rootsB (some b) ++ w) (fd ++ [r])
      | none => disc hp base n w fd
def stepC (ctx : Ctx) (ev : X → AV) (hp : Hp) : RO → Option (AV × Hp)
  | .call f xs => match ctx f with | some c => callS c (xs.map ev) hp | none => none
  | .callv x xs =>
    match ev x with
    | .fn f caps => (match ctx f with | some c => callS c (xs.map ev ++ caps) hp | none => none)
    | _ => none
  | o => step ev hp o
def put (tm : List (Nat × AV)) (d : Option Nat) (v : AV) : List (Nat × AV) :=
  match d with
  | some d => (d, v) :: tm
  | none => tm
def runO (ctx : Ctx) (o : ROp) (s : St) : Option St :=
  match o.guard with
  | none => match stepC ctx (ev s.tm) s.hp o.op with | some (v, hp) => some ⟨put s.tm o.dst v, hp⟩ | none => none
  | some (t, want) =>
    match lk s.tm t with
    | .bool b => if b = want then (match stepC ctx (ev s.tm) s.hp o.op with | some (v, hp) => some ⟨put s.tm o.dst v, hp⟩ | none => none) else some ⟨put s.tm o.dst (.tup []), s.hp⟩
    | .tup [] => some ⟨put s.tm o.dst (.tup []), s.hp⟩
    | _ => none
def runR (ctx : Ctx) : List ROp → St → Option St
  | [], s => some s
  | o :: os, s => match runO ctx o s with | some s' => runR ctx os s' | none => none
def mask (F : List Nat) : Nat → Hp → Hp
  | _, [] => []
  | i, b :: bs => (if has F i then b else none) :: mask F (i + 1) bs
def merge (F : List Nat) : Nat → Hp → Hp → Hp
  | i, b :: bs, b' :: bs' => (if has F i then b' else b) :: merge F (i + 1) bs bs'
  | _, [], bs' => bs'
  | _, bs, [] => bs
def turns (ctx : Ctx) (e : X → AV) : RO → Bool
  | .new _ => false
  | .box _ => false
  | .s2b _ => false
  | .mk .. => false
  | .call f _ => match ctx f with | some (.byv F) => F.mt.isSome | _ => true
  | .app flt _ _ x _ => match e x with | .sl .. => true | _ => !flt
  | _ => true
def wrote (ctx : Ctx) (e : X → AV) (hp : Hp) (o : RO) (F : List Nat) : List Nat :=
  if turns ctx e o then
    match o with
    | .st _ x _ =>
      match e x with
      | .ptr r _ _ _ => (match getB (root? hp) r with | some (true, _, _) => [r.root] | _ => F)
      | _ => F
    | _ => F
  else []
structure Mark where
  f : List Nat
  t : Bool
  lo : Nat
  hi : Nat
  w : List Nat
def away (F G : List Nat) : Bool := F.all fun r => !has G r
def noneIn (F : List Nat) (lo hi : Nat) : Bool := F.all fun r => decide (r < lo ∨ hi ≤ r)
def apartM (m n : Mark) : Bool := away m.w n.f && away n.w m.f && away m.w n.w && noneIn m.f n.lo n.hi && noneIn n.f m.lo m.hi && noneIn m.w n.lo n.hi && noneIn n.w m.lo m.hi
def among (F : List Nat) (lo hi : Nat) (l : List Nat) : Bool := l.all fun r => has F r || decide (lo ≤ r ∧ r < hi)
def rootsH (F : List Nat) : Nat → Hp → List Nat
  | _, [] => []
  | i, b :: bs => (if has F i then rootsB b else []) ++ rootsH F (i + 1) bs
def rootsN (lo : Nat) (hp : Hp) : List Nat := ((hp.drop lo).map rootsB).flatten
def stepD (ctx : Ctx) (kind : Nat) (o : RO) (s : St) : Option (AV × Hp × Mark) :=
  let n := s.hp.length
  match kind with
  | 0 => match stepC ctx (ev s.tm) s.hp o with | some (v, _) => some (v, s.hp, ⟨[], false, n, n, []⟩) | none => none
  | 1 =>
    match stepC ctx (ev s.tm) s.hp o with
    | some (v, hp') => if still o = true then some (v, s.hp, ⟨[], false, n, n, []⟩) else if n ≤ hp'.length then some (v, hp', ⟨[], true, n, hp'.length, []⟩) else none
    | none => none
  | _ =>
    let F := disc s.hp 0 200 (rootsL ((opnds o).map (ev s.tm))) []
    if among F 0 0 (rootsL ((opnds o).map (ev s.tm))) && among F 0 0 (rootsH F 0 s.hp) && F.all (fun r => (root? s.hp r).isSome) then
      match stepC ctx (ev s.tm) (mask F 0 s.hp) o with
      | some (v, hp') =>
        if still o = true then (if among F 0 0 (roots v) then some (v, s.hp, ⟨F, false, n, n, []⟩) else none)
        else if n ≤ hp'.length ∧ among F n hp'.length (roots v) = true ∧ among F n hp'.length (rootsH F 0 hp') = true ∧ among F n hp'.length (rootsN n hp') = true then
          some (v, merge F 0 s.hp hp', ⟨F, turns ctx (ev s.tm) o, n, hp'.length, wrote ctx (ev s.tm) (mask F 0 s.hp) o F⟩) else none
      | none => none
    else none
def runOD (ctx : Ctx) (kind : Nat) (o : ROp) (s : St) : Option (St × Mark) :=
  let skip : Option (St × Mark) := some (⟨put s.tm o.dst (.tup []), s.hp⟩, ⟨[], false, s.hp.length, s.hp.length, []⟩)
  let go : Option (St × Mark) := match stepD ctx kind o.op s with | some (v, hp, m) => some (⟨put s.tm o.dst v, hp⟩, m) | none => none
  match o.guard with
  | none => go
  | some (t, want) =>
    match lk s.tm t with
    | .bool b => if b = want then go else skip
    | .tup [] => skip
    | _ => none
def pairOk (pairs : List (Nat × Nat)) (ms : List Mark) (j : Nat) (m : Mark) : Bool :=
  pairs.all fun p => if p.2 = j then (match ms[p.1]? with | some n => apartM n m | none => false) else true
def runRD (ctx : Ctx) (pairs : List (Nat × Nat)) : List (Nat × ROp) → St → List Mark → Option (St × List Mark)
  | [], s, ms => some (s, ms)
  | o :: os, s, ms =>
    match runOD ctx o.1 o.2 s with
    | some (s', m) => if pairOk pairs ms ms.length m then runRD ctx pairs os s' (ms ++ [m]) else none
    | none => none
def pos : List Nat → Nat → Option Nat
  | [], _ => none
  | x :: xs, n => if x = n then some 0 else (pos xs n).map (· + 1)
def renR (hp : Hp) (base : Nat) (fd : List Nat) (r : BRef) : Option BRef :=
  match getB (root? hp) r with
  | none => none
  | some _ => if r.root < base then some r else (pos fd r.root).map fun i => ⟨base + i, r.path, 0⟩
mutual
def ren (hp : Hp) (base : Nat) (fd : List Nat) : AV → AV
  | .sl r k o l => match renR hp base fd r with | some r' => .sl r' k o l | none => .gone
  | .ptr r k i o => match renR hp base fd r with | some r' => .ptr r' k i o | none => .gone
  | .agg cs => .agg (renL hp base fd cs)
  | .tup cs => .tup (renL hp base fd cs)
  | .fn f cs => .fn f (renL hp base fd cs)
  | v => v
def renL (hp : Hp) (base : Nat) (fd : List Nat) : List AV → List AV
  | [] => []
  | v :: vs => ren hp base fd v :: renL hp base fd vs
end
def renB (hp : Hp) (base : Nat) (fd : List Nat) : Option Blk → Option Blk
  | some ⟨true, g, k, es⟩ => some ⟨true, g, k, es.map (renL hp base fd)⟩
  | b => b
def gen0 : Option Blk → Option Blk
  | some ⟨b, _, k, es⟩ => some ⟨b, 0, k, es⟩
  | none => none
def gcV (base : Nat) (vs : List AV) (hp : Hp) : List AV × Hp :=
  let x := nnL vs hp
  let fd := disc x.2 base 200 (rootsL x.1 ++ ((x.2.take base).map rootsB).flatten) []
  (renL x.2 base fd x.1, (x.2.take base).map (renB x.2 base fd) ++ fd.map fun r => gen0 (renB x.2 base fd (root? x.2 r)))
def zipT : List Nat → List AV → List (Nat × AV)
  | t :: ts, v :: vs => (t, v) :: zipT ts vs
  | _, _ => []
def gc (base : Nat) (keep : List Nat) (s : St) : St :=
  let x := gcV base (keep.map (lk s.tm)) s.hp
  ⟨zipT keep x.1, x.2⟩
def iterN (f : St → Option (Ex × St)) : Nat → St → Option (Ex × St)
  | 0, _ => none
  | n + 1, s =>
    match f s with
    | some (.nrm, s') => iterN f n s'
    | r => r
open Classical in
noncomputable def iterW (f : St → Option (Ex × St)) (s : St) : Option (Ex × St) :=
  if h : ∃ n, (iterN f n s).isSome then iterN f h.choose s else none
def kOf : List (Nat × List Nat) → Nat → List Nat
  | [], _ => []
  | (i, l) :: r, n => if i = n then l else kOf r n
def exN : Ex → Nat
  | .exit i => i + 1
  | _ => 0
noncomputable def run (ctx : Ctx) (base : Nat) : RC → St → Option (Ex × St)
  | .skip, s => some (.nrm, s)
  | .reg ops, s => match runR ctx ops s with | some s' => some (.nrm, s') | none => none
  | .regd ops pairs, s => match runRD ctx pairs ops s [] with | some (s', _) => some (.nrm, s') | none => none
  | .seq a b, s =>
    match run ctx base a s with
    | some (.nrm, s') => run ctx base b s'
    | r => r
  | .cond c a b, s =>
    match ev s.tm c with
    | .bool t => if t = true then run ctx base a s else run ctx base b s
    | _ => none
  | .block id a, s =>
    match run ctx base a s with
    | some (.exit i, s') => if i = id then some (.nrm, s') else some (.exit i, s')
    | r => r
  | .loop keep keepx a, s =>
    match iterW (fun s => run ctx base a (gc base keep s)) s with
    | some (e, s') => some (e, gc base (kOf keepx (exN e)) s')
    | none => none
  | .exit id, s => some (.exit id, s)
  | .ret, s => some (.ret, s)
inductive RV where
  | t (n : Nat)
  | cell (n : Nat) (size : Nat) (agg : Bool)
def resV (s : St) : RV → Option AV
  | .t n => some (lk s.tm n)
  | .cell a n agg => (step (ev s.tm) s.hp (.ld n agg (.t a))).map (·.1)
structure RF where
  ntmps : Nat
  nargs : Nat
  res : List RV
  body : RC
def params : Nat → List AV → List (Nat × AV)
  | _, [] => []
  | i, v :: vs => (i, v) :: params (i + 1) vs
def result (F : RF) (s : St) : Option AV :=
  match mapO (resV s) F.res with
  | some [v] => some v
  | some vs => some (.tup vs)
  | none => none
noncomputable def runF (ctx : Ctx) (F : RF) (args : List AV) (hp : Hp) : Option (AV × Hp) :=
  match (if args.length = F.nargs then run ctx hp.length F.body ⟨params 0 args, hp⟩ else none) with
  | some (.nrm, s) | some (.ret, s) =>
    match result F s with
    | some v => (match gcV hp.length [v] s.hp with | ([v'], hp') => some (v', hp') | _ => none)
    | none => none
  | _ => none
noncomputable def semF (ctx : Ctx) (F : RF) (mt : Option Nat) (ro : Bool) (args : List AV) : Option (AV × List (List AV)) :=
  if args.length ≠ F.nargs then none else
  match mt with
  | none =>
    match run ctx 0 F.body ⟨params 0 args, []⟩ with
    | some (.nrm, s) | some (.ret, s) =>
      match result F s with
      | some v => if ro then (if noRef v = true then (packR 5 [] v).map fun v => (v, []) else none) else (hand v s.hp).map fun x => (x.1, [])
      | none => none
    | _ => none
  | some _ =>
    match args with
    | .tree k es :: rest =>
      match run ctx 1 F.body ⟨params 0 (.sl ⟨0, none, 0⟩ k 0 es.length :: rest), [some ⟨false, 0, k, es⟩]⟩ with
      | some (.nrm, s) | some (.ret, s) =>
        match result F s with
        | some v => (match root? s.hp 0 with | some b => some (v, b.es) | none => none)
        | none => none
      | _ => none
    | _ => none
end Go.Proofs.Ytldmpjoddghdkaa.AI
