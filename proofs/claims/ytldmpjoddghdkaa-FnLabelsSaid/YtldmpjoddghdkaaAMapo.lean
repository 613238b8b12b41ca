import Derived.Test.YtldmpjoddghdkaaAEqs5
import Derived.MapKept
import Derived.Carry
namespace Go.Proofs.Ytldmpjoddghdkaa.AI
set_option linter.all false
open Go.RowKit
set_option autoImplicit false
set_option linter.unusedVariables false
set_option linter.unusedSimpArgs false
set_option linter.all false
def cM (p : ByteArray × Int) : List AV := [.str p.1, .int .i64 p.2]
def asM : List (List AV) → Option (List (ByteArray × Int))
  | [] => some []
  | [.str k, .int .i64 n] :: l => (asM l).map ((k, n) :: ·)
  | _ => none
theorem asM_map : ∀ l : List (ByteArray × Int), asM (l.map cM) = some l
  | [] => rfl
  | (k, n) :: l => by simp [asM, cM]; exact asM_map l
theorem asM_eq : ∀ (es : List (List AV)) (l : List (ByteArray × Int)), asM es = some l → es = l.map cM := by
  intro es
  induction es with
  | nil => intro l h; simp [asM] at h; subst h; rfl
  | cons e es ih =>
    intro l h
    unfold asM at h
    split at h
    · rename_i h0; simp at h0
    · rename_i k n l' h0
      simp only [List.cons.injEq] at h0
      obtain ⟨rfl, rfl⟩ := h0
      simp only [Option.map_eq_some_iff] at h
      obtain ⟨l1, h1, rfl⟩ := h
      simp [cM, ih l1 h1]
    · simp at h
def mput : List (ByteArray × Int) → ByteArray → Int → List (ByteArray × Int)
  | [], k, n => [(k, n)]
  | p :: l, k, n => if p.1 = k then (k, n) :: l else p :: mput l k n
def mget : List (ByteArray × Int) → ByteArray → Option Int
  | [], _ => none
  | p :: l, k => if p.1 = k then some p.2 else mget l k
def mkG (args : List AV) (hp : Hp) : Option (AV × Hp) := if args.all (fun v => match v with | .dead => true | _ => false) = true then some (.tree 2 [], hp) else none
def putG (args : List AV) (hp : Hp) : Option (AV × Hp) :=
  match args with
  | [.tree 2 es, .bool true, .str k, .int .i64 n] => (match asM es with | some l => some (.tree 2 ((mput l k n).map cM), hp) | none => none)
  | _ => none
def getG (args : List AV) (hp : Hp) : Option (AV × Hp) :=
  match args with
  | [.tree 2 es, .bool true, .str k] => (match asM es with | some l => (match mget l k with | some n => some (.int .i64 n, hp) | none => none) | none => none)
  | _ => none
theorem putG_eq {l : List (ByteArray × Int)} {k : ByteArray} {n : Int} {hp : Hp} : putG [.tree 2 (l.map cM), .bool true, .str k, .int .i64 n] hp = some (.tree 2 ((mput l k n).map cM), hp) := by
  simp only [putG, asM_map]
theorem getG_eq {l : List (ByteArray × Int)} {k : ByteArray} {n : Int} {hp : Hp} (h : mget l k = some n) : getG [.tree 2 (l.map cM), .bool true, .str k] hp = some (.int .i64 n, hp) := by
  simp only [getG, asM_map, h]
theorem mkG_dead {hp : Hp} {n : Nat} : mkG (List.replicate n .dead) hp = some (.tree 2 [], hp) := by
  simp [mkG]
def ctxM (ctx : Ctx) : Ctx := fun f => if f = 1000000 then some (.inl mkG) else if f = 1000001 then some (.inl putG) else if f = 1000002 then some (.inl getG) else ctx f
def strMap (P : Program) (t : TypeId) : Bool :=
  match P.underlying t with
  | some (.map k e) => (match P.underlying k with | some .string => true | _ => false) && (match P.underlying e with | some (.int .i64) => true | _ => false)
  | _ => false
def freeT (T : List Nat) : X → Bool
  | .t n => !has T n
  | _ => true
def realC : RO → Bool
  | .call f _ => decide (f < 1000000)
  | .callv .. => false
  | _ => true
def offT (T : List Nat) : Option Nat → Bool
  | some d => !has T d
  | none => true
def plainOk (T : List Nat) (r : ROp) : Bool := (opnds r.op).all (freeT T) && offT T r.dst && offT T (r.guard.map (·.1)) && realC r.op
def tokOf (T : List Nat) (G : Nat) (o : Oper) : Option Nat :=
  match o.op with
  | .move (.tmp m) => if has T m = true ∧ m ≠ G then some m else none
  | .assign (.tmp m) => if has T m = true ∧ m ≠ G then some m else none
  | _ => none
def resolveOM (P : Program) (N : Nat) (T : List Nat) (G : Nat) (ops : Array Oper) (o : Oper) : Option (List ROp) :=
  match o.op with
  | .makeMap t none =>
    match o.guard, o.dst with
    | none, some d => if strMap P t = true ∧ has T d = true ∧ d ≠ G ∧ d < N then some [⟨some G, none, .call 1000000 (T.map .t)⟩, ⟨some d, none, .mv (.c (.bool true))⟩] else none
    | _, _ => none
  | .mapUpdate t (.tmp m) k v =>
    match o.guard, o.dst, rX0 k, rX0 v with
    | none, none, some k', some v' => if strMap P t = true ∧ has T m = true ∧ m ≠ G ∧ freeT T k' = true ∧ freeT T v' = true then some [⟨some G, none, .call 1000001 [.t G, .t m, k', v']⟩] else none
    | _, _, _, _ => none
  | .lookup t (.tmp m) k false =>
    match o.guard, o.dst, rX0 k with
    | none, some d, some k' => if strMap P t = true ∧ has T m = true ∧ m ≠ G ∧ freeT T k' = true ∧ has T d = false ∧ d < N then some [⟨some d, none, .call 1000002 [.t G, .t m, k']⟩] else none
    | _, _, _ => none
  | _ =>
    match tokOf T G o with
    | some m => (match o.guard, o.dst with | none, some d => if has T d = true ∧ d ≠ G ∧ d < N then some [⟨some d, none, .mv (.t m)⟩] else none | _, _ => none)
    | none => (match resolveO P N ops o with | some r => if plainOk T r = true then some [r] else none | none => none)
def resolveLM (P : Program) (N : Nat) (T : List Nat) (G : Nat) (ops : Array Oper) : List Oper → Option (List (List ROp))
  | [] => some []
  | o :: os => match resolveOM P N T G ops o, resolveLM P N T G ops os with | some r, some rs => some (r :: rs) | _, _ => none
def resolveCM (P : Program) (N : Nat) (T : List Nat) (G : Nat) : Code → Keeps → Option (RC × Keeps)
  | .skip, ks => some (.skip, ks)
  | .label _, ks => some (.skip, ks)
  | .region _ ops draw, ks => if draw = false then (resolveLM P N T G ops ops.toList).map fun rs => (.reg rs.flatten, ks) else none
  | .seq a b, ks =>
    match resolveCM P N T G a ks with
    | some (a', ks') => (match resolveCM P N T G b ks' with | some (b', ks'') => some (.seq a' b', ks'') | none => none)
    | none => none
  | .cond c a b, ks =>
    match rX0 c, resolveCM P N T G a ks with
    | some c', some (a', ks') => if freeT T c' = true then (match resolveCM P N T G b ks' with | some (b', ks'') => some (.cond c' a' b', ks'') | none => none) else none
    | _, _ => none
  | .block id a, ks => (resolveCM P N T G a ks).map fun x => (.block id x.1, x.2)
  | .loop a, ks =>
    match ks with
    | [] => none
    | k :: ks => (resolveCM P N T G a ks).map fun x => (.loop k.1 k.2 x.1, x.2)
  | .exit id, ks => some (.exit id, ks)
  | .ret, ks => some (.ret, ks)
  | _, _ => none
def resFree (T : List Nat) : RV → Bool
  | .t n => !has T n
  | .cell a _ _ => !has T a
def resolveFM (P : Program) (fn : Func) (ks : Keeps) (T : List Nat) (G : Nat) : Option RF :=
  match fn.body with
  | none => none
  | some c =>
    if (fn.name == "runtime.NumGoroutine") = false ∧ fn.params.size + fn.nfree ≤ fn.ntmps ∧ T.all (fun t => decide (fn.params.size + fn.nfree ≤ t)) = true ∧ has T G = true then
      match resolveCM P fn.ntmps T G c ks, mapO (resolveRV P) fn.results.toList with
      | some (b, []), some rs => if rs.all (resFree T) = true then some ⟨fn.ntmps, fn.params.size + fn.nfree, rs, b⟩ else none
      | _, _ => none
    else none
def erT (T : List Nat) (tm : List (Nat × AV)) : List (Nat × AV) := tm.filter fun p => !has T p.1
def er (T : List Nat) (s : St) : St := ⟨erT T s.tm, s.hp⟩
theorem lk_er (T : List Nat) : ∀ (tm : List (Nat × AV)) (t : Nat), lk (erT T tm) t = if has T t = true then .dead else lk tm t
  | [], t => by simp [erT, lk]
  | (n, v) :: tm, t => by
    have ih := lk_er T tm t
    simp only [erT, List.filter_cons] at ih ⊢
    by_cases h : has T n = true
    · simp only [h, Bool.not_true, Bool.false_eq_true, if_false]
      rw [ih]
      by_cases ht : has T t = true
      · simp [ht]
      · simp only [ht]
        have : n ≠ t := fun e => ht (e ▸ h)
        simp [lk, this]
    · have h' : has T n = false := by simpa using h
      simp only [h', Bool.not_false, if_true, lk]
      by_cases e : n = t
      · subst e; simp [h']
      · simp only [e, if_false]; exact ih
theorem ev_er {T : List Nat} {tm : List (Nat × AV)} {x : X} (h : freeT T x = true) : ev (erT T tm) x = ev tm x := by
  cases x with
  | t n =>
    have : has T n = false := by simpa [freeT] using h
    simp only [ev, lk_er, this]; simp
  | c v => rfl
  | fn f => rfl
theorem put_er {T : List Nat} {tm : List (Nat × AV)} {d : Option Nat} {v : AV} (h : offT T d = true) : put (erT T tm) d v = erT T (put tm d v) := by
  cases d with
  | none => rfl
  | some d =>
    have : has T d = false := by simpa [offT] using h
    simp [put, erT, List.filter_cons, this]
theorem put_erT {T : List Nat} {tm : List (Nat × AV)} {d : Nat} {v : AV} (h : has T d = true) : erT T (put tm (some d) v) = erT T tm := by
  simp [put, erT, List.filter_cons, h]
theorem lk_put_off {T : List Nat} {tm : List (Nat × AV)} {d : Option Nat} {v : AV} (h : offT T d = true) {t : Nat} (ht : has T t = true) : lk (put tm d v) t = lk tm t := by
  cases d with
  | none => rfl
  | some d =>
    have hd : has T d = false := by simpa [offT] using h
    have : d ≠ t := fun e => by rw [e, ht] at hd; simp at hd
    simp [put, lk, this]
theorem lk_put {tm : List (Nat × AV)} {d t : Nat} {v : AV} : lk (put tm (some d) v) t = if d = t then v else lk tm t := rfl
theorem stepC_ctxM {ctx : Ctx} {e : X → AV} {hp : Hp} {o : RO} (h : realC o = true) : stepC (ctxM ctx) e hp o = stepC ctx e hp o := by
  cases o <;> try rfl
  · rename_i f xs
    simp only [realC, decide_eq_true_eq] at h
    have h1 : f ≠ 1000000 := by omega
    have h2 : f ≠ 1000001 := by omega
    have h3 : f ≠ 1000002 := by omega
    simp only [stepC, ctxM, h1, h2, h3, if_false]
  · simp [realC] at h
variable [Tabs]
theorem runO_er {ctx : Ctx} {T : List Nat} {r : ROp} {s s' : St} (hp : plainOk T r = true) (hs : runO (ctxM ctx) r s = some s') : runO ctx r (er T s) = some (er T s') ∧ ∀ t, has T t = true → lk s'.tm t = lk s.tm t := by
  simp only [plainOk, Bool.and_eq_true] at hp
  obtain ⟨⟨⟨h1, h2⟩, h3⟩, h4⟩ := hp
  have hst : stepC ctx (ev (er T s).tm) (er T s).hp r.op = stepC (ctxM ctx) (ev s.tm) s.hp r.op := by
    rw [stepC_ctxM h4]
    refine stepC_congr fun x hx => ?_
    exact ev_er (List.all_eq_true.1 h1 x hx)
  have go : ∀ v hp', s' = ⟨put s.tm r.dst v, hp'⟩ → some (⟨put (er T s).tm r.dst v, hp'⟩ : St) = some (er T s') ∧ ∀ t, has T t = true → lk s'.tm t = lk s.tm t := by
    intro v hp' e
    subst e
    refine ⟨?_, fun t ht => lk_put_off h2 ht⟩
    simp only [er, put_er h2]
  unfold runO at hs ⊢
  rw [hst]
  split at hs
  · rename_i hg
    split at hs
    · rename_i v hp' he
      simp only [Option.some.injEq] at hs
      exact go v hp' hs.symm
    · simp at hs
  · rename_i t want hg
    rw [hg] at h3
    simp only [Option.map_some, offT, Bool.not_eq_true'] at h3
    have hl : lk (er T s).tm t = lk s.tm t := by simp only [er, lk_er, h3]; simp
    simp only [hl]
    split at hs
    · rename_i b hb
      split at hs
      · rename_i hbw
        rw [if_pos hbw]
        split at hs
        · rename_i v hp' he
          simp only [Option.some.injEq] at hs
          exact go v hp' hs.symm
        · simp at hs
      · rename_i hbw
        rw [if_neg hbw]
        simp only [Option.some.injEq] at hs
        exact go _ _ hs.symm
    · simp only [Option.some.injEq] at hs
      exact go _ _ hs.symm
    · simp at hs
def MR : List MapEntry → List (ByteArray × Int) → Prop
  | [], [] => True
  | e :: es, p :: l => e.key = .string p.1 ∧ e.val = .int .i64 p.2 ∧ MR es l
  | _, _ => False
theorem MR_find (k : ByteArray) : ∀ (es : List MapEntry) (l : List (ByteArray × Int)) (i : Nat), MR es l →
    (Instr.findNow .string (.string k) es i = some none ∧ mget l k = none ∧ ∀ n, mput l k n = l ++ [(k, n)]) ∨
    (∃ j n e, Instr.findNow .string (.string k) es i = some (some (i + j, .int .i64 n)) ∧ mget l k = some n ∧ es[j]? = some e ∧ e.key = .string k ∧
      ∀ n' (f : MapEntry → MapEntry), (f e).key = .string k → (f e).val = .int .i64 n' → MR (es.modify j f) (mput l k n'))
  | [], [], i, _ => .inl ⟨rfl, rfl, fun _ => rfl⟩
  | [], _ :: _, _, h => by simp [MR] at h
  | _ :: _, [], _, h => by simp [MR] at h
  | e :: es, p :: l, i, h => by
    simp only [MR] at h
    obtain ⟨h1, h2, h3⟩ := h
    by_cases hk : p.1 = k
    · refine .inr ⟨0, p.2, e, ?_, by simp [mget, hk], rfl, by rw [h1, hk], fun n' f hf1 hf2 => ?_⟩
      · have : (k == k) = true := (MapKept.bytes_beq k k).2 rfl
        simp only [Instr.findNow, Instr.sameNow, h1, hk, this, h2, Nat.add_zero]
      · simp only [mput, hk, if_true, List.modify_zero_cons, MR]
        exact ⟨hf1, hf2, h3⟩
    · have hne : (k == p.1) = false := by
        cases hb : (k == p.1) with
        | false => rfl
        | true => exact absurd ((MapKept.bytes_beq k p.1).1 hb).symm hk
      have hstep : Instr.findNow .string (.string k) (e :: es) i = Instr.findNow .string (.string k) es (i + 1) := by
        simp only [Instr.findNow, Instr.sameNow, h1, hne]
      rcases MR_find k es l (i + 1) h3 with ⟨a1, a2, a3⟩ | ⟨j, n, e', a1, a2, a3, a4, a5⟩
      · refine .inl ⟨by rw [hstep, a1], by simp [mget, hk, a2], fun n => by simp [mput, hk, a3 n]⟩
      · refine .inr ⟨j + 1, n, e', by rw [hstep, a1]; simp; omega, by simp [mget, hk, a2], by simpa using a3, a4, fun n' f hf1 hf2 => ?_⟩
        simp only [mput, hk, if_false, List.modify_succ_cons, MR]
        exact ⟨h1, h2, a5 n' f hf1 hf2⟩
theorem MR_append : ∀ (es : List MapEntry) (l : List (ByteArray × Int)) (e : MapEntry) (p : ByteArray × Int), MR es l → e.key = .string p.1 → e.val = .int .i64 p.2 → MR (es ++ [e]) (l ++ [p])
  | [], [], e, p, _, h1, h2 => by simp [MR, h1, h2]
  | [], _ :: _, _, _, h, _, _ => by simp [MR] at h
  | _ :: _, [], _, _, h, _, _ => by simp [MR] at h
  | e' :: es, p' :: l, e, p, h, h1, h2 => by
    simp only [MR] at h
    simp only [List.cons_append, MR]
    exact ⟨h.1, h.2.1, MR_append es l e p h.2.2 h1 h2⟩
theorem strMap_inv {P : Program} {t : TypeId} (h : strMap P t = true) : ∃ k e, P.underlying t = some (.map k e) ∧ P.underlying k = some .string := by
  unfold strMap at h
  split at h
  · rename_i k e ht
    simp only [Bool.and_eq_true] at h
    refine ⟨k, e, ht, ?_⟩
    have := h.1
    split at this
    · rename_i hk; exact hk
    · simp at this
  · simp at h
theorem run_put {P : Program} {t : TypeId} {w : World} {b clock : Nat} {es : Array MapEntry} {l : List (ByteArray × Int)} (ht : strMap P t = true) (hb : w.heap[b]? = some (.map es clock)) (hm : MR es.toList l) (k : ByteArray) (n : Int) :
    ∃ es' clock', (Instr.mapUpdate t (.map (some b)) (.string k) (.int .i64 n)).run P w = .ok () { w with heap := w.heap.setIfInBounds b (.map es' clock') } ∧ MR es'.toList (mput l k n) := by
  obtain ⟨kt, et, ht, hk⟩ := strMap_inv ht
  have hc : (Instr.checkKey false 10000 kt (.string k)).run P w = .ok () w := MapKept.run_checkKey (k := .string k) hk (by simp [MapKept.IsKey]) false 9999
  rcases MR_find k es.toList l 0 hm with ⟨a1, a2, a3⟩ | ⟨j, n0, e, a1, a2, a3, a4, a5⟩
  · refine ⟨es.push { key := .string k, val := .int .i64 n, born := clock }, clock + 1, ?_, ?_⟩
    · simp [Instr.mapUpdate, run_underlying ht, MapKept.run_getObj_map hb, hc, MapKept.run_findKey hk a1, MapKept.run_setObj_map _ hb, Result.andThen]
    · rw [a3 n, Array.toList_push]
      exact MR_append _ _ _ _ hm rfl rfl
  · have a3' : es[j]? = some e := by simpa using a3
    have hkb : (k == k) = true := (MapKept.bytes_beq k k).2 rfl
    refine ⟨es.modify j fun e => { e with key := .string k, val := .int .i64 n }, clock, ?_, ?_⟩
    · simp [Instr.mapUpdate, run_underlying ht, MapKept.run_getObj_map hb, hc, MapKept.run_findKey hk a1, MapKept.run_setObj_map _ hb, Result.andThen, a3', a4, Instr.keyThatStays, Instr.sameBits, hkb]
    · rw [Array.toList_modify]
      exact a5 n _ rfl rfl
theorem run_get {P : Program} {t : TypeId} {w : World} {b clock : Nat} {es : Array MapEntry} {l : List (ByteArray × Int)} (ht : strMap P t = true) (hb : w.heap[b]? = some (.map es clock)) (hm : MR es.toList l) (k : ByteArray) (n : Int) (hn : mget l k = some n) :
    (Instr.lookup t (.map (some b)) (.string k) false).run P w = .ok (.int .i64 n) w := by
  obtain ⟨kt, et, ht, hk⟩ := strMap_inv ht
  have hc : (Instr.checkKey es.isEmpty 10000 kt (.string k)).run P w = .ok () w := MapKept.run_checkKey (k := .string k) hk (by simp [MapKept.IsKey]) _ 9999
  rcases MR_find k es.toList l 0 hm with ⟨a1, a2, a3⟩ | ⟨j, n0, e, a1, a2, a3, a4, a5⟩
  · rw [a2] at hn; simp at hn
  · rw [a2] at hn
    simp only [Option.some.injEq] at hn
    subst hn
    simp [Instr.lookup, run_underlying ht, MapKept.run_getObj_map hb, hc, MapKept.run_findKey hk a1, Result.andThen]
end Go.Proofs.Ytldmpjoddghdkaa.AI
