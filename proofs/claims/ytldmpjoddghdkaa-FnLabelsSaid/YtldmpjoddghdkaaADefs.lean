import Derived.Orders
namespace Go.Proofs.Ytldmpjoddghdkaa.AI
set_option linter.all false
set_option autoImplicit false
structure BRef where
  root : Nat
  path : Option (Nat × Nat)
  gen : Nat
inductive AV where
  | dead
  | gone
  | pnil | inil | fnil
  | bool (b : Bool)
  | int (k : IntKind) (n : Int)
  | str (s : ByteArray)
  | nil (k : Nat)
  | tree (k : Nat) (es : List (List AV))
  | sl (r : BRef) (k off len : Nat)
  | ptr (r : BRef) (k idx off : Nat)
  | rp (cells : List AV) (off : Nat)
  | agg (cs : List AV)
  | tup (vs : List AV)
  | fn (f : Nat) (caps : List AV)
instance : Inhabited AV := ⟨.dead⟩
structure Blk where
  box : Bool
  gen : Nat
  k : Nat
  es : List (List AV)
abbrev Hp := List (Option Blk)
structure St where
  tm : List (Nat × AV)
  hp : Hp
def lk : List (Nat × AV) → Nat → AV
  | [], _ => .dead
  | (t, v) :: r, n => if t = n then v else lk r n
inductive X where
  | t (n : Nat)
  | c (v : AV)
  | fn (f : Nat)
def ev (tm : List (Nat × AV)) : X → AV
  | .t n => lk tm n
  | .c v => v
  | .fn f => .fn f []
inductive RO where
  | mv (x : X)
  | pick (c a b : X)
  | new (cells : List AV)
  | box (x : X)
  | build (zero : List AV) (parts : List (Nat × Nat × X))
  | bsl (k : Nat) (xs : List X)
  | ld (n : Nat) (agg : Bool) (x : X)
  | st (n : Nat) (x v : X)
  | nck (x : X)
  | bin (op : BinOp) (x y : X)
  | bib (op : BinOp) (x y : X)
  | eqs (neg : Bool) (flds : List (Nat × Nat)) (x y : X)
  | un (op : UnOp) (x : X)
  | cvi (k : IntKind) (x : X)
  | cvs (x : X)
  | s2b (x : X)
  | b2s (x : X)
  | mk (k : Nat) (zero : List AV) (bytes : Nat) (len cap : X)
  | slc (str : Bool) (k : Nat) (x : X) (lo hi : Option X)
  | fa (off : Nat) (x : X)
  | fl (off n : Nat) (agg : Bool) (x : X)
  | ia (k : Nat) (x i : X)
  | ix (x i : X)
  | ex (x : X) (i : Nat)
  | call (f : Nat) (xs : List X)
  | callv (x : X) (xs : List X)
  | app (flt : Bool) (k bytes : Nat) (x y : X)
  | len (str : Bool) (x : X)
  | mx (xs : List X)
  | mn (xs : List X)
  | mkf (f : Nat) (caps : List X)
structure ROp where
  dst : Option Nat
  guard : Option (Nat × Bool)
  op : RO
inductive RC where
  | skip
  | reg (ops : List ROp)
  | regd (ops : List (Nat × ROp)) (pairs : List (Nat × Nat))
  | seq (a b : RC)
  | cond (c : X) (a b : RC)
  | block (id : Nat) (a : RC)
  | loop (keep : List Nat) (keepx : List (Nat × List Nat)) (a : RC)
  | exit (id : Nat)
  | ret
inductive Ex where
  | nrm
  | exit (id : Nat)
  | ret
def scal : AV → Bool
  | .bool _ => true
  | .int _ _ => true
  | .str _ => true
  | _ => false
def scals : List AV → Bool
  | [] => true
  | c :: cs => scal c && scals cs
def solid : List (List AV) → Bool
  | [] => true
  | e :: es => e.all (fun c => match c with | .tree _ _ => true | c => scal c) && solid es
def flat : List (List AV) → Bool
  | [] => true
  | e :: es => scals e && flat es
def root? (hp : Hp) (r : Nat) : Option Blk := (hp[r]?).join
def cellAt (es : List (List AV)) (i j : Nat) : AV := (es.getD i []).getD j .dead
def setAt (es : List (List AV)) (i j : Nat) (c : AV) : List (List AV) := es.set i ((es.getD i []).set j c)
def getB (R : Nat → Option Blk) (r : BRef) : Option (Bool × Nat × List (List AV)) :=
  match R r.root with
  | none => none
  | some b =>
    match r.path with
    | none => some (b.box, b.k, b.es)
    | some (i, j) =>
      if b.box = false ∧ r.gen = b.gen then
        match cellAt b.es i j with
        | .tree k es => some (false, k, es)
        | _ => none
      else none
def setP (es : List (List AV)) (p : Option (Nat × Nat)) (f : List (List AV) → List (List AV)) : List (List AV) :=
  match p with
  | none => f es
  | some (i, j) => match cellAt es i j with | .tree k es' => setAt es i j (.tree k (f es')) | _ => es
def setB (hp : Hp) (r : BRef) (bump : Nat) (f : List (List AV) → List (List AV)) : Hp :=
  match root? hp r.root with
  | none => hp
  | some b => hp.set r.root (some { b with gen := b.gen + bump, es := setP b.es r.path f })
def outC (r : BRef) (i j : Nat) : AV → AV
  | .tree k es => match r.path with | none => .sl ⟨r.root, some (i, j), r.gen⟩ k 0 es.length | some _ => .dead
  | c => c
def outOf (r : BRef) (i : Nat) : Nat → List AV → List AV
  | _, [] => []
  | j, c :: cs => outC r i j c :: outOf r i (j + 1) cs
def into (r : BRef) (hp : Hp) : List AV → Option (List AV × Hp × Nat)
  | [] => some ([], hp, 0)
  | .sl q k off len :: cs =>
    match q.path, r.path, root? hp q.root with
    | none, none, some b =>
      let es := (b.es.drop off).take len
      if b.box = false ∧ b.k = k ∧ q.root ≠ r.root ∧ flat es = true then
        match into r (hp.set q.root none) cs with
        | some (cs', hp', n) => some (.tree k es :: cs', hp', n + 1)
        | none => none
      else none
    | _, _, _ => none
  | .nil k :: cs =>
    match r.path, into r hp cs with
    | none, some (cs', hp', n) => some (.tree k [] :: cs', hp', n + 1)
    | _, _ => none
  | .bool b :: cs => (into r hp cs).map fun x => (.bool b :: x.1, x.2)
  | .int k n :: cs => (into r hp cs).map fun x => (.int k n :: x.1, x.2)
  | .str s :: cs => (into r hp cs).map fun x => (.str s :: x.1, x.2)
  | _ :: _ => none
def AV.cl : AV → Option (List AV)
  | .agg cs => some cs
  | .dead => none
  | .tup _ => none
  | v => some [v]
def one : AV → Bool
  | .agg _ => false
  | .tup _ => false
  | .dead => false
  | _ => true
def ones : List AV → Bool
  | [] => true
  | c :: cs => one c && ones cs
def splice {α : Type} (l : List α) (off : Nat) (vs : List α) : List α := l.take off ++ vs ++ l.drop (off + vs.length)
def mkv (agg : Bool) (cs : List AV) : Option AV :=
  if agg then some (.agg cs) else match cs with | [c] => some c | _ => none
def genAt (hp : Hp) (r : Nat) : Nat := match root? hp r with | some b => b.gen | none => 0
def kill (hp : Hp) (r : BRef) : Hp :=
  match r.path with
  | none => hp.set r.root none
  | some (i, j) => setB hp { r with path := none } 0 fun es => setAt es i j .dead
def I64 (n : Int) : AV := .int .i64 n
def seg (es : List (List AV)) (off len : Nat) : List (List AV) := (es.drop off).take len
def seg1 (cs : List AV) (off n : Nat) : List AV := (cs.drop off).take n
def binI (op : BinOp) (k : IntKind) (a b : Int) : Option AV :=
  match op with
  | .add => some (.int k (k.wrap (a + b)))
  | .sub => some (.int k (k.wrap (a - b)))
  | .mul => some (.int k (k.wrap (a * b)))
  | .quo => if b = 0 then none else some (.int k (k.wrap (a.tdiv b)))
  | .rem => if b = 0 then none else some (.int k (a.tmod b))
  | .and => some (.int k (k.wrap (BitVec.ofInt k.bits a &&& BitVec.ofInt k.bits b).toNat))
  | .or => some (.int k (k.wrap (BitVec.ofInt k.bits a ||| BitVec.ofInt k.bits b).toNat))
  | .xor => some (.int k (k.wrap (BitVec.ofInt k.bits a ^^^ BitVec.ofInt k.bits b).toNat))
  | .andNot => some (.int k (k.wrap (BitVec.ofInt k.bits a &&& ~~~ BitVec.ofInt k.bits b).toNat))
  | .eql => some (.bool (decide (a = b)))
  | .neq => some (.bool (decide (a ≠ b)))
  | .lss => some (.bool (decide (a < b)))
  | .leq => some (.bool (decide (a ≤ b)))
  | .gtr => some (.bool (decide (a > b)))
  | .geq => some (.bool (decide (a ≥ b)))
  | _ => none
def binS (op : BinOp) (a b : ByteArray) : Option AV :=
  match op with
  | .add => if a.size + b.size ≤ 4611686018427387904 then some (.str (a ++ b)) else none
  | .eql => some (.bool (decide (a = b)))
  | .neq => some (.bool (decide (a ≠ b)))
  | _ => none
def bin (op : BinOp) (x y : AV) : Option AV :=
  match x, y with
  | .int k a, .int k' b =>
    match op with
    | .shl => if b < 0 then none else some (.int k (k.wrap (a * 2 ^ (min b.toNat k.bits))))
    | .shr => if b < 0 then none else some (.int k (a.fdiv (2 ^ (min b.toNat k.bits))))
    | op => if k = k' then binI op k a b else none
  | .str a, .str b => binS op a b
  | _, _ => none
def bib (op : BinOp) (x y : AV) : Option AV :=
  match x, y with
  | .bool a, .bool b => match op with | .eql => some (.bool (decide (a = b))) | .neq => some (.bool (decide (a ≠ b))) | _ => none
  | _, _ => none
def un (op : UnOp) (x : AV) : Option AV :=
  match op, x with
  | .neg, .int k n => some (.int k (k.wrap (0 - n)))
  | .not, .bool b => some (.bool (!b))
  | _, _ => none
def eqc : Nat → AV → AV → Option Bool
  | 1, .int k a, .int k' b => if k = k' then some (decide (a = b)) else none
  | 2, .str a, .str b => some (decide (a = b))
  | 0, .bool a, .bool b => some (decide (a = b))
  | _, _, _ => none
def eqf (xs ys : List AV) : List (Nat × Nat) → Option Bool
  | [] => some true
  | (o, k) :: fs =>
    match eqc k (xs.getD o .dead) (ys.getD o .dead) with
    | some true => eqf xs ys fs
    | some false => some false
    | none => none
def byteE (s : ByteArray) : List (List AV) := s.data.toList.map fun b => [AV.int .u8 b.toNat]
def bytesOf : List (List AV) → Option (List UInt8)
  | [] => some []
  | [.int .u8 n] :: es => (bytesOf es).map (UInt8.ofNat n.toNat :: ·)
  | _ => none
def elems (hp : Hp) (k : Nat) : AV → Option (List (List AV))
  | .nil k' => if k' = k then some [] else none
  | .tree k' es => if k' = k then some es else none
  | .sl r k' off len =>
    match getB (root? hp) r with
    | some (false, k'', es) => if k' = k ∧ k'' = k then some (seg es off len) else none
    | _ => none
  | _ => none
def bound (x : Option AV) (dflt lim : Nat) : Option Nat :=
  match x with
  | none => some dflt
  | some (.int _ n) => if 0 ≤ n ∧ n ≤ (lim : Int) then some n.toNat else none
  | some _ => none
def ints2 (lo hi : Option AV) (len : Nat) : Option (Nat × Nat) :=
  match bound hi len len with
  | none => none
  | some h => match bound lo 0 h with | some l => some (l, h) | none => none
def fillP (ev : X → AV) : List AV → List (Nat × Nat × X) → Option (List AV)
  | cells, [] => some cells
  | cells, (off, n, x) :: ps =>
    match (ev x).cl with
    | some cs => if cs.length = n ∧ off + n ≤ cells.length then fillP ev (splice cells off cs) ps else none
    | none => none
def fillE (ev : X → AV) (r : BRef) (k : Nat) (hp : Hp) : List X → Option (List (List AV) × Hp × Nat)
  | [] => some ([], hp, 0)
  | x :: xs =>
    match ((ev x).cl).bind (into r hp) with
    | some (cs, hp', n) =>
      if cs.length = k then
        match fillE ev r k hp' xs with
        | some (es, hp'', m) => some (cs :: es, hp'', n + m)
        | none => none
      else none
    | none => none
def mxI (f : Int → Int → Int) (k : IntKind) : Int → List AV → Option AV
  | a, [] => some (.int k a)
  | a, .int _ b :: vs => mxI f k (f a b) vs
  | _, _ => none
def newB (hp : Hp) (b : Blk) : BRef × Hp := (⟨hp.length, none, 0⟩, hp ++ [some b])
mutual
def nn : AV → Hp → AV × Hp
  | .nil k, hp => (.sl ⟨hp.length, none, 0⟩ k 0 0, hp ++ [some ⟨false, 0, k, []⟩])
  | .agg cs, hp => let x := nnL cs hp; (.agg x.1, x.2)
  | .tup cs, hp => let x := nnL cs hp; (.tup x.1, x.2)
  | v, hp => (v, hp)
def nnL : List AV → Hp → List AV × Hp
  | [], hp => ([], hp)
  | v :: vs, hp => let x := nn v hp; let y := nnL vs x.2; (x.1 :: y.1, y.2)
end
def okZ : AV → Bool
  | .tree _ [] => true
  | c => scal c
def step (ev : X → AV) (hp : Hp) : RO → Option (AV × Hp)
  | .mv x => some (ev x, hp)
  | .pick c a b => match ev c with | .bool t => some (if t then ev a else ev b, hp) | _ => none
  | .new cells => let y := nnL cells hp; some (.ptr ⟨y.2.length, none, 0⟩ y.1.length 0 0, y.2 ++ [some ⟨true, 0, y.1.length, [y.1]⟩])
  | .box x =>
    match (ev x).cl with
    | some cells => let y := nnL cells hp; some (.ptr ⟨y.2.length, none, 0⟩ y.1.length 0 0, y.2 ++ [some ⟨true, 0, y.1.length, [y.1]⟩])
    | none => none
  | .build zero ps => (fillP ev zero ps).map fun cs => (.agg cs, hp)
  | .bsl k xs =>
    match fillE ev ⟨hp.length, none, 0⟩ k hp xs with
    | some (es, hp', n) => let (r, hp'') := newB hp' ⟨false, n, k, es⟩; some (.sl r k 0 xs.length, hp'')
    | none => none
  | .ld n agg x =>
    match ev x with
    | .ptr r k idx off =>
      match getB (root? hp) r with
      | some (bx, k', es) =>
        if k' = k ∧ idx < es.length ∧ off + n ≤ k then
          let cs := seg1 (es.getD idx []) off n
          (mkv agg (if bx then cs else outOf { r with gen := genAt hp r.root } idx off cs)).map fun v => (v, hp)
        else none
      | none => none
    | .rp cells off => if off + n ≤ cells.length then (mkv agg (seg1 cells off n)).map fun v => (v, hp) else none
    | _ => none
  | .st n x v =>
    match ev x, (ev v).cl with
    | .ptr r k idx off, some cs =>
      match getB (root? hp) r with
      | some (true, k', es) =>
        let y := nnL cs hp
        if k' = k ∧ idx < es.length ∧ off + n ≤ k ∧ y.1.length = n ∧ ones y.1 = true then
          some (.tup [], setB y.2 r 0 fun es => es.set idx (splice (es.getD idx []) off y.1)) else none
      | some (false, k', es) =>
        match into r hp cs with
        | some (cs', hp', b) =>
          if k' = k ∧ idx < es.length ∧ off + n ≤ k ∧ cs.length = n then
            some (.tup [], setB hp' r b fun es => es.set idx (splice (es.getD idx []) off cs')) else none
        | none => none
      | none => none
    | _, _ => none
  | .nck x => match ev x with | .ptr r k i o => some (.ptr r k i o, hp) | .rp c o => some (.rp c o, hp) | .fn f cs => some (.fn f cs, hp) | _ => none
  | .bin op x y => (bin op (ev x) (ev y)).map fun v => (v, hp)
  | .bib op x y => (bib op (ev x) (ev y)).map fun v => (v, hp)
  | .eqs neg fs x y =>
    match ev x, ev y with
    | .agg xs, .agg ys => (eqf xs ys fs).map fun b => (.bool (if neg then !b else b), hp)
    | _, _ => none
  | .un op x => (un op (ev x)).map fun v => (v, hp)
  | .cvi k x => match ev x with | .int _ n => some (.int k (k.wrap n), hp) | _ => none
  | .cvs x => match ev x with | .str s => some (.str s, hp) | _ => none
  | .s2b x =>
    match ev x with
    | .str s => let (r, hp') := newB hp ⟨false, 0, 1, byteE s⟩; if s.size ≤ 4611686018427387904 then some (.sl r 1 0 s.size, hp') else none
    | _ => none
  | .b2s x => (elems hp 1 (ev x)).bind fun es => (bytesOf es).map fun bs => (.str ⟨bs.toArray⟩, hp)
  | .mk k zero bytes len cap =>
    match ev len, ev cap with
    | .int .i64 l, .int .i64 c =>
      if 0 ≤ l ∧ l ≤ c ∧ bytes * c ≤ 70368744177664 ∧ c ≤ 70368744177664 ∧ zero.all okZ = true then
        let (r, hp') := newB hp ⟨false, 0, k, List.replicate l.toNat zero⟩; some (.sl r k 0 l.toNat, hp')
      else none
    | _, _ => none
  | .slc true _ x lo hi =>
    match ev x with
    | .str s => (ints2 (lo.map ev) (hi.map ev) s.size).map fun p => (.str (s.extract p.1 p.2), hp)
    | _ => none
  | .slc false k x lo hi =>
    match ev x with
    | .nil k' => (ints2 (lo.map ev) (hi.map ev) 0).map fun _ => (.nil k', hp)
    | .tree k' es => if k' = k then (ints2 (lo.map ev) (hi.map ev) es.length).map fun p => (.tree k (seg es p.1 (p.2 - p.1)), hp) else none
    | .sl r k' off len =>
      match getB (root? hp) r with
      | some (false, k'', _) => if k' = k ∧ k'' = k then (ints2 (lo.map ev) (hi.map ev) len).map fun p => (.sl r k (off + p.1) (p.2 - p.1), hp) else none
      | _ => none
    | _ => none
  | .fa off x => match ev x with | .ptr r k i o => some (.ptr r k i (o + off), hp) | .rp c o => some (.rp c (o + off), hp) | _ => none
  | .fl off n agg x => match ev x with | .agg cs => if off + n ≤ cs.length then (mkv agg (seg1 cs off n)).map fun v => (v, hp) else none | _ => none
  | .ia k x i =>
    match ev x, ev i with
    | .sl r k' off len, .int _ n =>
      match getB (root? hp) r with
      | some (false, k'', _) => if k' = k ∧ k'' = k ∧ 0 ≤ n ∧ n < (len : Int) then some (.ptr r k (off + n.toNat) 0, hp) else none
      | _ => none
    | .tree k' es, .int _ n => if k' = k ∧ 0 ≤ n ∧ n < (es.length : Int) then some (.rp (es.getD n.toNat []) 0, hp) else none
    | _, _ => none
  | .ix x i =>
    match ev x, ev i with
    | .str s, .int _ n => if 0 ≤ n ∧ n < s.size then some (.int .u8 (s.data.getD n.toNat 0).toNat, hp) else none
    | _, _ => none
  | .ex x i => match ev x with | .tup vs => (vs[i]?).map fun v => (v, hp) | _ => none
  | .app flt k bytes x y =>
    let new : Option (List (List AV) × Hp) :=
      match ev y with
      | .str s => if k = 1 then some (byteE s, hp) else none
      | v =>
        if flt then (match elems hp k v with | some es => if flat es = true then some (es, hp) else none | none => none) else
        match v with
        | .nil k' => if k' = k then some ([], hp) else none
        | .sl q k' off len =>
          match q.path, elems hp k (.sl q k' off len) with
          | none, some es => if solid es = true then some (es, hp.set q.root none) else none
          | _, _ => none
        | _ => none
    match new with
    | none => none
    | some (es, hp') =>
      match ev x with
      | .nil k' =>
        if k' = k ∧ es.length * bytes ≤ 70368744177664 then
          let (r, hp'') := newB hp' ⟨false, 0, k, es⟩; some (.sl r k 0 es.length, hp'')
        else none
      | .sl q k' off len =>
        match elems hp' k (.sl q k' off len) with
        | some old =>
          if (old.length + es.length) * bytes ≤ 70368744177664 then
            let (r, hp'') := newB (kill hp' q) ⟨false, 0, k, old ++ es⟩; some (.sl r k 0 (old.length + es.length), hp'')
          else none
        | none => none
      | _ => none
  | .len true x => match ev x with | .str s => some (I64 s.size, hp) | _ => none
  | .len false x =>
    match ev x with
    | .nil _ => some (I64 0, hp)
    | .tree _ es => some (I64 es.length, hp)
    | .sl _ _ _ len => some (I64 len, hp)
    | _ => none
  | .mx (x :: xs) => match ev x with | .int k a => (mxI (fun a b => if b > a then b else a) k a (xs.map ev)).map fun v => (v, hp) | _ => none
  | .mn (x :: xs) => match ev x with | .int k a => (mxI (fun a b => if b < a then b else a) k a (xs.map ev)).map fun v => (v, hp) | _ => none
  | .mkf f caps => some (.fn f (caps.map ev), hp)
  | _ => none
def heapy : RO → Bool
  | .new _ => true
  | .box _ => true
  | .bsl .. => true
  | .ld .. => true
  | .st .. => true
  | .s2b _ => true
  | .b2s _ => true
  | .mk .. => true
  | .call .. => true
  | .callv .. => true
  | .app .. => true
  | .slc .. => true
  | .ia .. => true
  | _ => false
def still : RO → Bool
  | .new _ => false
  | .box _ => false
  | .bsl .. => false
  | .st .. => false
  | .s2b _ => false
  | .mk .. => false
  | .call .. => false
  | .callv .. => false
  | .app .. => false
  | _ => true
def opnds : RO → List X
  | .mv x => [x]
  | .pick c a b => [c, a, b]
  | .new _ => []
  | .box x => [x]
  | .build _ ps => ps.map (·.2.2)
  | .bsl _ xs => xs
  | .ld _ _ x => [x]
  | .st _ x v => [x, v]
  | .nck x => [x]
  | .bin _ x y => [x, y]
  | .bib _ x y => [x, y]
  | .eqs _ _ x y => [x, y]
  | .un _ x => [x]
  | .cvi _ x => [x]
  | .cvs x => [x]
  | .s2b x => [x]
  | .b2s x => [x]
  | .mk _ _ _ l c => [l, c]
  | .slc _ _ x lo hi => [x] ++ lo.toList ++ hi.toList
  | .fa _ x => [x]
  | .fl _ _ _ x => [x]
  | .ia _ x i => [x, i]
  | .ix x i => [x, i]
  | .ex x _ => [x]
  | .call _ xs => xs
  | .callv x xs => x :: xs
  | .app _ _ _ x y => [x, y]
  | .len _ x => [x]
  | .mx xs => xs
  | .mn xs => xs
  | .mkf _ xs => xs
end Go.Proofs.Ytldmpjoddghdkaa.AI
