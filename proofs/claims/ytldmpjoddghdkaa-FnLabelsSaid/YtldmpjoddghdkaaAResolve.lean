import Derived.Test.YtldmpjoddghdkaaARun
namespace Go.Proofs.Ytldmpjoddghdkaa.AI
set_option linter.all false
set_option autoImplicit false
def agg? (P : Program) (t : TypeId) : Option Bool :=
  match P.underlying t with
  | some (.struct _) => some true
  | some (.array _ _) => some true
  | some _ => some false
  | none => none
def size? (P : Program) (t : TypeId) : Option Nat := (P.info? t).map (·.size)
def bytes? (P : Program) (t : TypeId) : Option Nat := (P.info? t).map (·.bytes)
def ksOf (P : Program) : Nat → TypeId → Option (List (Option Nat))
  | 0, _ => none
  | n + 1, t =>
    match P.underlying t with
    | some (.struct fs) => fs.toList.foldlM (fun acc f => (ksOf P n f.type).map (acc ++ ·)) []
    | some (.slice e) => (size? P e).map fun k => [some k]
    | some (.array ..) => none
    | some _ => some [none]
    | none => none
def cellV : Option Nat → Value → Option AV
  | _, .bool b => some (.bool b)
  | _, .int k n => some (.int k n)
  | _, .string s => some (.str s)
  | _, .pointer none => some .pnil
  | _, .nilIface => some .inil
  | _, .nilFunc => some .fnil
  | some k, .slice none 0 0 => some (.nil k)
  | _, _ => none
def cellsV : List (Option Nat) → List Value → Option (List AV)
  | [], [] => some []
  | k :: ks, v :: vs => match cellV k v, cellsV ks vs with | some c, some cs => some (c :: cs) | _, _ => none
  | _, _ => none
def constV (P : Program) (t : TypeId) (v : Value) : Option AV :=
  match ksOf P 12 t with
  | none => none
  | some ks =>
    match v with
    | .agg cs => (cellsV ks cs.toList).map .agg
    | v => match ks with | [k] => cellV k v | _ => none
def rX (P : Program) (t : TypeId) : Operand → Option X
  | .tmp n => some (.t n)
  | .const v => (constV P t v).map .c
  | .func f => some (.fn f)
  | .global _ => none
def rX0 : Operand → Option X
  | .tmp n => some (.t n)
  | .const v => (cellV none v).map .c
  | .func f => some (.fn f)
  | .global _ => none
def zeroV (P : Program) (t : TypeId) : Option AV := ((P.info? t).bind (·.zero)).bind (constV P t)
def nil0 : AV → AV
  | .nil k => .tree k []
  | c => c
def zeroE (P : Program) (t : TypeId) : Option (List AV) := ((zeroV P t).bind (·.cl)).map fun cs => cs.map nil0
def rXs (P : Program) : List TypeId → List Operand → Option (List X)
  | [], [] => some []
  | t :: ts, x :: xs => match rX P t x, rXs P ts xs with | some y, some ys => some (y :: ys) | _, _ => none
  | _, _ => none
def rX0s : List Operand → Option (List X)
  | [] => some []
  | x :: xs => match rX0 x, rX0s xs with | some y, some ys => some (y :: ys) | _, _ => none
def partsOf (P : Program) (fs : Array Field) : List (Nat × Operand) → Option (List (Nat × Nat × X))
  | [] => some []
  | (i, x) :: ps =>
    match fs[i]? with
    | none => none
    | some f =>
      match size? P f.type, rX P f.type x, partsOf P fs ps with
      | some n, some y, some ys => some ((f.offset, n, y) :: ys)
      | _, _, _ => none
def elemsOf (P : Program) (e : TypeId) : Nat → List (Nat × Operand) → Option (List X)
  | _, [] => some []
  | n, (i, x) :: ps => if i = n then (match rX P e x, elemsOf P e (n + 1) ps with | some y, some ys => some (y :: ys) | _, _ => none) else none
def eqOffs (P : Program) : List Field → Option (List (Nat × Nat))
  | [] => some []
  | f :: fs =>
    if f.name = "_" then none else
    match P.underlying f.type with
    | some .bool => (eqOffs P fs).map ((f.offset, 0) :: ·)
    | some (.int _) => (eqOffs P fs).map ((f.offset, 1) :: ·)
    | some .string => (eqOffs P fs).map ((f.offset, 2) :: ·)
    | _ => none
def eqFs (P : Program) (t : TypeId) : Option (List (Nat × Nat)) :=
  match P.underlying t with
  | some (.struct fs) => if P.stoodInHeld t = false ∧ P.eqGuardType P.depth t = false then eqOffs P fs.toList else none
  | _ => none
def kindOf (P : Program) (t : TypeId) : Option IntKind := match P.underlying t with | some (.int k) => some k | _ => none
def rOpt (x : Option Operand) : Option (Option X) :=
  match x with
  | none => some none
  | some x => (rX0 x).map some
def resolveOp (P : Program) (o : Oper) : Option RO :=
  match o.op with
  | .move x => (rX P o.type x).map .mv
  | .assign x => (rX P o.type x).map .mv
  | .pick c a b => match rX0 c, rX P o.type a, rX P o.type b with | some c, some a, some b => some (.pick c a b) | _, _, _ => none
  | .alloc e => match (zeroV P e).bind (·.cl), size? P e with | some cs, some n => if cs.length = n ∧ n ≠ 0 then some (.new cs) else none | _, _ => none
  | .box e x => match rX P e x, size? P e with | some x, some n => if n ≠ 0 then some (.box x) else none | _, _ => none
  | .build t ps =>
    match P.underlying t with
    | some (.struct fs) => if fs.all (fun f => (size? P f.type).isSome) = true then (match (zeroV P t).bind (·.cl), partsOf P fs ps.toList with | some z, some qs => some (.build z qs) | _, _ => none) else none
    | _ => none
  | .buildSlice t n ps =>
    match P.underlying t with
    | some (.slice e) =>
      match size? P e, zeroE P e, elemsOf P e 0 ps.toList with
      | some k, some z, some qs => if k ≠ 0 ∧ z.length = k ∧ n * k ≤ 16777216 ∧ qs.length = n then some (.bsl k qs) else none
      | _, _, _ => none
    | _ => none
  | .load t x => match size? P t, agg? P t, rX0 x with | some n, some g, some x => if n ≠ 0 ∧ (g = false → n = 1) then some (.ld n g x) else none | _, _, _ => none
  | .store t x v => match size? P t, rX0 x, rX P t v with | some n, some x, some v => if n ≠ 0 then some (.st n x v) else none | _, _, _ => none
  | .nilCheck x => (rX0 x).map .nck
  | .binOp op t x y _ =>
    match P.underlying t with
    | some (.struct _) =>
      match op, eqFs P t, rX P t x, rX P t y with
      | .eql, some fs, some x, some y => some (.eqs false fs x y)
      | .neq, some fs, some x, some y => some (.eqs true fs x y)
      | _, _, _, _ => none
    | some (.int _) => match rX0 x, rX0 y with | some x, some y => some (.bin op x y) | _, _ => none
    | some .string => match rX0 x, rX0 y with | some x, some y => some (.bin op x y) | _, _ => none
    | some .bool => match rX0 x, rX0 y with | some x, some y => some (.bib op x y) | _, _ => none
    | _ => none
  | .unOp op _ x => (rX0 x).map (.un op)
  | .convert s d x =>
    match P.underlying s, P.underlying d with
    | some (.int _), some (.int k) => (rX0 x).map (.cvi k)
    | some .string, some .string => (rX0 x).map .cvs
    | some .string, some (.slice e) => if kindOf P e = some .u8 then (rX0 x).map .s2b else none
    | some (.slice e), some .string => if kindOf P e = some .u8 then (rX P s x).map .b2s else none
    | _, _ => none
  | .makeFunc (.func f) first caps => if first.size = 0 then (rX0s caps.toList).map (.mkf f) else none
  | .makeSlice t l c =>
    match P.underlying t with
    | some (.slice e) =>
      match size? P e, bytes? P e, zeroE P e, rX0 l, rX0 c with
      | some k, some b, some z, some l, some c => if k ≠ 0 ∧ z.length = k then some (.mk k z b l c) else none
      | _, _, _, _, _ => none
    | _ => none
  | .slice t x lo hi none =>
    match P.underlying t with
    | some .string => match rX0 x, rOpt lo, rOpt hi with | some x, some lo, some hi => some (.slc true 0 x lo hi) | _, _, _ => none
    | some (.slice e) => match size? P e, rX P t x, rOpt lo, rOpt hi with | some k, some x, some lo, some hi => if k ≠ 0 then some (.slc false k x lo hi) else none | _, _, _, _ => none
    | _ => none
  | .fieldAddr s x i =>
    match P.underlying s with
    | some (.struct fs) =>
      match fs[i]?, rX0 x with
      | some f, some x => if size? P f.type ≠ some 0 ∧ (size? P f.type).isSome then some (.fa f.offset x) else none
      | _, _ => none
    | _ => none
  | .field s x i =>
    match P.underlying s with
    | some (.struct fs) =>
      match fs[i]?, rX P s x with
      | some f, some x => match size? P f.type, agg? P f.type with | some n, some g => if n ≠ 0 ∧ (g = false → n = 1) then some (.fl f.offset n g x) else none | _, _ => none
      | _, _ => none
    | _ => none
  | .indexAddr t x i =>
    match P.underlying t with
    | some (.slice e) => match size? P e, rX P t x, rX0 i with | some k, some x, some i => if k ≠ 0 then some (.ia k x i) else none | _, _, _ => none
    | _ => none
  | .index t x i =>
    match P.underlying t with
    | some .string => match rX0 x, rX0 i with | some x, some i => some (.ix x i) | _, _ => none
    | _ => none
  | .extract x i => (rX0 x).map fun x => .ex x i
  | .call c =>
    match c.callee with
    | .value (.func f) => (rXs P c.argTypes.toList c.args.toList).map (.call f)
    | .value (.tmp t) => (rXs P c.argTypes.toList c.args.toList).map (.callv (.t t))
    | .builtin .append =>
      match c.argTypes.toList, c.args.toList with
      | [t, u], [x, y] =>
        match P.underlying t, P.underlying u with
        | some (.slice e), some (.slice e') =>
          match size? P e, size? P e', bytes? P e, ksOf P 12 e, rX P t x, rX P u y with
          | some k, some k', some b, some ks, some x, some y => if k ≠ 0 ∧ b ≠ 0 ∧ k' = k ∧ (zeroE P e).map (·.length) = some k then some (.app (ks.all (·.isNone)) k b x y) else none
          | _, _, _, _, _, _ => none
        | some (.slice e), some .string =>
          match size? P e, bytes? P e, rX P t x, rX P u y with
          | some 1, some b, some x, some y => if b ≠ 0 ∧ (zeroE P e).map (·.length) = some 1 then some (.app true 1 b x y) else none
          | _, _, _, _ => none
        | _, _ => none
      | _, _ => none
    | .builtin .len =>
      match c.argTypes.toList, c.args.toList with
      | [t], [x] =>
        match P.underlying t with
        | some .string => (rX P t x).map (.len true)
        | some (.slice _) => (rX P t x).map (.len false)
        | _ => none
      | _, _ => none
    | .builtin .max => (rX0s c.args.toList).map .mx
    | .builtin .min => (rX0s c.args.toList).map .mn
    | _ => none
  | _ => none
def dstOk (N : Nat) : Option Tmp → Bool
  | some d => decide (d < N)
  | none => true
def resolveO (P : Program) (N : Nat) (ops : Array Oper) (o : Oper) : Option ROp :=
  match resolveOp P o with
  | none => none
  | some r =>
    if dstOk N o.dst = true then
      match o.guard with
      | none => some ⟨o.dst, none, r⟩
      | some (j, want) =>
        match (ops[j]?).bind (·.dst) with
        | some d => if d < N then some ⟨o.dst, some (d, want), r⟩ else none
        | none => none
    else none
def resolveL (P : Program) (N : Nat) (ops : Array Oper) : List Oper → Option (List ROp)
  | [] => some []
  | o :: os => match resolveO P N ops o, resolveL P N ops os with | some r, some rs => some (r :: rs) | _, _ => none
def ins : List Nat → List Nat → List Nat
  | [], l => l
  | k :: ks, l => if has l k then ins ks l else ins ks (k :: l)
def aheads : List Oper → List (List Nat) → List (List Nat)
  | [], acc => acc
  | o :: os, acc => aheads os (acc ++ [o.after.toList.foldl (fun l e => if Region.binds .any e then ins (e.on :: acc.getD e.on []) l else l) []])
def tmpsOf (r : ROp) : List Nat := (opnds r.op).filterMap (fun | .t n => some n | _ => none) ++ (match r.guard with | some (d, _) => [d] | none => []) ++ r.dst.toList
def asideT (r q : ROp) : Bool :=
  (match r.dst with | some d => !has (tmpsOf q) d | none => true) && (match q.dst with | some d => !has (tmpsOf r) d | none => true)
def zeroOk : RO → Bool
  | .build z _ => (rootsL z).isEmpty
  | _ => true
def constsOk (r : ROp) : Bool := zeroOk r.op && (opnds r.op).all fun x => match x with | .c v => (roots v).isEmpty | _ => true
def vie (r q : ROp) : Bool := heapy r.op && heapy q.op && !(still r.op && still q.op)
def orderOk (rs : List ROp) (ah : List (List Nat)) (pairs : List (Nat × Nat)) : Bool :=
  (List.range rs.length).all fun j => (List.range j).all fun i =>
    has (ah.getD j []) i ||
    (match rs[i]?, rs[j]? with
     | some r, some q => asideT r q && (!vie r q || pairs.any fun p => p.1 == i && p.2 == j)
     | _, _ => false)
def pairsOf (rs : List ROp) (ah : List (List Nat)) : List (Nat × Nat) :=
  (List.range rs.length).flatMap fun j => (List.range j).filterMap fun i =>
    if has (ah.getD j []) i then none else
    match rs[i]?, rs[j]? with
    | some r, some q => if vie r q then some (i, j) else none
    | _, _ => none
def kindOf' (pairs : List (Nat × Nat)) (j : Nat) (r : ROp) : Nat :=
  if heapy r.op = false then 0 else if pairs.any (fun p => p.1 == j || p.2 == j) then 2 else 1
def kinds (pairs : List (Nat × Nat)) : Nat → List ROp → List (Nat × ROp)
  | _, [] => []
  | j, r :: rs => (kindOf' pairs j r, r) :: kinds pairs (j + 1) rs
def backOk (ops : Array Oper) : Bool :=
  (List.range ops.size).all fun j => match ops[j]? with | some o => o.after.toList.all fun e => !Region.binds .any e || decide (e.on < j) | none => false
abbrev Keeps := List (List Nat × List (Nat × List Nat))
def resolveC (P : Program) (N : Nat) : Code → Keeps → Option (RC × Keeps)
  | .skip, ks => some (.skip, ks)
  | .label _, ks => some (.skip, ks)
  | .region _ ops draw, ks =>
    match resolveL P N ops ops.toList with
    | none => none
    | some rs =>
      if draw = false then some (.reg rs, ks)
      else if backOk ops && orderOk rs (aheads ops.toList []) (pairsOf rs (aheads ops.toList [])) && P.follows .mixedOrders && rs.all constsOk then some (.regd (kinds (pairsOf rs (aheads ops.toList [])) 0 rs) (pairsOf rs (aheads ops.toList [])), ks) else none
  | .seq a b, ks =>
    match resolveC P N a ks with
    | some (a', ks') => (match resolveC P N b ks' with | some (b', ks'') => some (.seq a' b', ks'') | none => none)
    | none => none
  | .cond c a b, ks =>
    match rX0 c, resolveC P N a ks with
    | some c', some (a', ks') => (match resolveC P N b ks' with | some (b', ks'') => some (.cond c' a' b', ks'') | none => none)
    | _, _ => none
  | .block id a, ks => (resolveC P N a ks).map fun x => (.block id x.1, x.2)
  | .loop a, ks =>
    match ks with
    | [] => none
    | k :: ks => (resolveC P N a ks).map fun x => (.loop k.1 k.2 x.1, x.2)
  | .exit id, ks => some (.exit id, ks)
  | .ret, ks => some (.ret, ks)
  | _, _ => none
def resolveRV (P : Program) : ResultVar → Option RV
  | .tmp t => some (.t t)
  | .cell a t => match size? P t, agg? P t with | some n, some g => if n ≠ 0 ∧ (g = false → n = 1) then some (.cell a n g) else none | _, _ => none
def resolveF (P : Program) (fn : Func) (ks : Keeps) : Option RF :=
  match fn.body with
  | none => none
  | some c =>
    if (fn.name == "runtime.NumGoroutine") = false ∧ fn.params.size + fn.nfree ≤ fn.ntmps then
      match resolveC P fn.ntmps c ks, mapO (resolveRV P) fn.results.toList with
      | some (b, []), some rs => some ⟨fn.ntmps, fn.params.size + fn.nfree, rs, b⟩
      | _, _ => none
    else none
end Go.Proofs.Ytldmpjoddghdkaa.AI
