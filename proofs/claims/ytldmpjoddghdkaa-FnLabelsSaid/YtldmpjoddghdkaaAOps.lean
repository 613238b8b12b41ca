import Derived.Test.YtldmpjoddghdkaaAHeap
import Derived.Test.YtldmpjoddghdkaaAResolve
import Derived.Laws.Sem
import Derived.Laws.World
import Derived.Laws.StructEq
namespace Go.Proofs.Ytldmpjoddghdkaa.AI
set_option linter.all false
open Go.RowKit
set_option autoImplicit false
set_option linter.unusedVariables false
set_option linter.unusedSimpArgs false
variable [Tabs]
structure Adv (RO : Bx) (w : World) (R : Rf) (nx : Nat) (L : Lf) (w' : World) (R' : Rf) (nx' : Nat) (L' : Lf) : Prop where
  rel : HRel RO w' R' nx' L'
  pres : Pres R nx L R' nx' L'
  same : Same RO w w'
  size : w.heap.size ≤ w'.heap.size
  os : w'.os = w.os
  tape : w'.tape = w.tape
  output : w'.output = w.output
theorem Adv.refl {RO : Bx} {w : World} {R : Rf} {nx : Nat} {L : Lf} (h : HRel RO w R nx L) : Adv RO w R nx L w R nx L :=
  ⟨h, Pres.refl _ _ _, Same.refl _ _, Nat.le_refl _, rfl, rfl, rfl⟩
theorem Adv.trans {RO : Bx} {w w' w'' : World} {R R' R'' : Rf} {nx nx' nx'' : Nat} {L L' L'' : Lf} (h : Adv RO w R nx L w' R' nx' L') (k : Adv RO w' R' nx' L' w'' R'' nx'' L'') : Adv RO w R nx L w'' R'' nx'' L'' :=
  ⟨k.rel, h.pres.trans k.pres, h.same.trans k.same, Nat.le_trans h.size k.size, k.os.trans h.os, k.tape.trans h.tape, k.output.trans h.output⟩
theorem Adv.v {RO : Bx} {w w' : World} {R R' : Rf} {nx nx' : Nat} {L L' : Lf} (h : Adv RO w R nx L w' R' nx' L') {c : AV} {x : Value} (hv : V RO w R nx L c x) : V RO w' R' nx' L' c x := V.mono h.same h.pres _ _ hv
theorem Adv.vl {RO : Bx} {w w' : World} {R R' : Rf} {nx nx' : Nat} {L L' : Lf} (h : Adv RO w R nx L w' R' nx' L') {cs : List AV} {xs : List Value} (hv : VL RO w R nx L cs xs) : VL RO w' R' nx' L' cs xs := VL.mono h.same h.pres _ _ hv
def EV (RO : Bx) (w : World) (R : Rf) (nx : Nat) (L : Lf) (tm : List (Nat × AV)) (a : Act) : Prop := ∀ t, V RO w R nx L (lk tm t) (a.tmps.getD t undef)
def Does (P : Program) (o : Oper) (a : Act) (RO : Bx) (w : World) (R : Rf) (nx : Nat) (L : Lf) (v : AV) (R' : Rf) (nx' : Nat) : Prop :=
  ∃ x w' L', ((execOp a.eval o).run P w = .ok (.value x) w' ∨ ((execOp a.eval o).run P w = .ok .skip w' ∧ x = undef)) ∧ Adv RO w R nx L w' R' nx' L' ∧ V RO w' R' nx' L' v x
theorem Does.pure {P : Program} {o : Oper} {a : Act} {RO : Bx} {w : World} {R : Rf} {nx : Nat} {L : Lf} (h : HRel RO w R nx L) {v : AV} {x : Value} (hr : (execOp a.eval o).run P w = .ok (.value x) w) (hv : V RO w R nx L v x) :
    Does P o a RO w R nx L v R nx := ⟨x, w, L, .inl hr, Adv.refl h, hv⟩
section
variable {P : Program} {RO : Bx} {w : World} {R : Rf} {nx : Nat} {L : Lf} {tm : List (Nat × AV)} {a : Act}
theorem cellV_V {k : Option Nat} {v : Value} {c : AV} (h : cellV k v = some c) : V RO w R nx L c v := by
  unfold cellV at h
  split at h <;> simp at h <;> subst h <;> simp [V, Rd]
theorem cellsV_V : ∀ {ks : List (Option Nat)} {vs : List Value} {cs : List AV}, cellsV ks vs = some cs → VL RO w R nx L cs vs
  | [], [], cs, h => by simp [cellsV] at h; subst h; simp [VL]
  | k :: ks, v :: vs, cs, h => by
    simp only [cellsV] at h
    split at h
    · rename_i c cs' hc hcs
      simp at h
      subst h
      simp only [VL]
      exact ⟨cellV_V hc, cellsV_V hcs⟩
    · simp at h
  | [], _ :: _, cs, h => by simp [cellsV] at h
  | _ :: _, [], cs, h => by simp [cellsV] at h
theorem constV_V {t : TypeId} {v : Value} {c : AV} (h : constV P t v = some c) : V RO w R nx L c v := by
  unfold constV at h
  split at h
  · simp at h
  · rename_i ks hks
    split at h
    · rename_i cs
      simp only [Option.map_eq_some_iff] at h
      obtain ⟨l, h1, rfl⟩ := h
      simp only [V]
      exact ⟨cs, rfl, cellsV_V h1⟩
    · split at h
      · exact cellV_V h
      · simp at h
theorem rX_V (he : EV RO w R nx L tm a) {t : TypeId} {x : Operand} {y : X} (h : rX P t x = some y) : V RO w R nx L (ev tm y) (a.eval x) := by
  cases x with
  | tmp n => simp [rX] at h; subst h; simpa [ev, Act.eval] using he n
  | const v =>
    simp only [rX, Option.map_eq_some_iff] at h
    obtain ⟨c, h1, rfl⟩ := h
    exact constV_V h1
  | global g => simp [rX] at h
  | func f => simp [rX] at h; subst h; simp [ev, Act.eval, V, VL]
theorem rX0_V (he : EV RO w R nx L tm a) {x : Operand} {y : X} (h : rX0 x = some y) : V RO w R nx L (ev tm y) (a.eval x) := by
  cases x with
  | tmp n => simp [rX0] at h; subst h; simpa [ev, Act.eval] using he n
  | const v =>
    simp only [rX0, Option.map_eq_some_iff] at h
    obtain ⟨c, h1, rfl⟩ := h
    exact cellV_V h1
  | global g => simp [rX0] at h
  | func f => simp [rX0] at h; subst h; simp [ev, Act.eval, V, VL]
theorem rXs_V (he : EV RO w R nx L tm a) : ∀ {ts : List TypeId} {xs : List Operand} {ys : List X}, rXs P ts xs = some ys → VL RO w R nx L (ys.map (ev tm)) (xs.map a.eval)
  | [], [], ys, h => by simp [rXs] at h; subst h; simp [VL]
  | t :: ts, x :: xs, ys, h => by
    simp only [rXs] at h
    split at h
    · rename_i y ys' h1 h2
      simp at h; subst h
      simp only [List.map_cons, VL]
      exact ⟨rX_V he h1, rXs_V he h2⟩
    · simp at h
  | [], _ :: _, ys, h => by simp [rXs] at h
  | _ :: _, [], ys, h => by simp [rXs] at h
theorem rX0s_V (he : EV RO w R nx L tm a) : ∀ {xs : List Operand} {ys : List X}, rX0s xs = some ys → VL RO w R nx L (ys.map (ev tm)) (xs.map a.eval)
  | [], ys, h => by simp [rX0s] at h; subst h; simp [VL]
  | x :: xs, ys, h => by
    simp only [rX0s] at h
    split at h
    · rename_i y ys' h1 h2
      simp at h; subst h
      simp only [List.map_cons, VL]
      exact ⟨rX0_V he h1, rX0s_V he h2⟩
    · simp at h
theorem V_int {k : IntKind} {n : Int} {x : Value} (h : V RO w R nx L (.int k n) x) : x = .int k n := by simpa [V, Rd] using h
theorem V_bool {b : Bool} {x : Value} (h : V RO w R nx L (.bool b) x) : x = .bool b := by simpa [V, Rd] using h
theorem V_str {s : ByteArray} {x : Value} (h : V RO w R nx L (.str s) x) : x = .string s := by simpa [V, Rd] using h
theorem VL_len : ∀ {cs : List AV} {vs : List Value}, VL RO w R nx L cs vs → cs.length = vs.length
  | [], [], _ => rfl
  | _ :: _, _ :: _, h => by simp only [VL] at h; simp [VL_len h.2]
  | [], _ :: _, h => by simp [VL] at h
  | _ :: _, [], h => by simp [VL] at h
theorem VL_get : ∀ {cs : List AV} {vs : List Value} {i : Nat} {c : AV}, VL RO w R nx L cs vs → cs[i]? = some c → ∃ v, vs[i]? = some v ∧ V RO w R nx L c v
  | [], _, _, _, _, h => by simp at h
  | c :: cs, v :: vs, 0, c', h, hc => by simp only [VL] at h; simp at hc; subst hc; exact ⟨v, by simp, h.1⟩
  | c :: cs, v :: vs, i + 1, c', h, hc => by simp only [VL] at h; simp at hc; simpa using VL_get h.2 hc
  | _ :: _, [], _, _, h, _ => by simp [VL] at h
theorem VL_drop : ∀ (n : Nat) {cs : List AV} {vs : List Value}, VL RO w R nx L cs vs → VL RO w R nx L (cs.drop n) (vs.drop n)
  | 0, _, _, h => by simpa using h
  | n + 1, [], [], _ => by simp [VL]
  | n + 1, _ :: _, _ :: _, h => by simp only [VL] at h; simpa using VL_drop n h.2
  | _ + 1, [], _ :: _, h => by simp [VL] at h
  | _ + 1, _ :: _, [], h => by simp [VL] at h
theorem VL_take : ∀ (n : Nat) {cs : List AV} {vs : List Value}, VL RO w R nx L cs vs → VL RO w R nx L (cs.take n) (vs.take n)
  | 0, _, _, _ => by simp [VL]
  | n + 1, [], [], _ => by simp [VL]
  | n + 1, _ :: _, _ :: _, h => by simp only [VL] at h; simp only [List.take_succ_cons, VL]; exact ⟨h.1, VL_take n h.2⟩
  | _ + 1, [], _ :: _, h => by simp [VL] at h
  | _ + 1, _ :: _, [], h => by simp [VL] at h
theorem VL_append : ∀ {cs ds : List AV} {vs us : List Value}, VL RO w R nx L cs vs → VL RO w R nx L ds us → VL RO w R nx L (cs ++ ds) (vs ++ us)
  | [], _, [], _, _, h => by simpa using h
  | _ :: _, _, _ :: _, _, h, h' => by simp only [VL] at h; simp only [List.cons_append, VL]; exact ⟨h.1, VL_append h.2 h'⟩
  | [], _, _ :: _, _, h, _ => by simp [VL] at h
  | _ :: _, _, [], _, h, _ => by simp [VL] at h
theorem V_cells {v : AV} {x : Value} {cs : List AV} (h : V RO w R nx L v x) (hd : v.cl = some cs) : VL RO w R nx L cs x.cells.toList := by
  cases v with
  | agg cs => simp only [AV.cl, Option.some.injEq] at hd; subst hd; simp only [V] at h; obtain ⟨vs, rfl, h⟩ := h; exact h
  | dead => simp [AV.cl] at hd
  | tup cs => simp [AV.cl] at hd
  | gone => simp only [AV.cl, Option.some.injEq] at hd; subst hd; have h' := h; simp only [V] at h'; cases x <;> simp [Value.oneCell'] at h' <;> simpa [Value.cells, VL] using h
  | bool b => simp only [AV.cl, Option.some.injEq] at hd; subst hd; rw [V_bool h]; simp [Value.cells, VL, V, Rd]
  | int k n => simp only [AV.cl, Option.some.injEq] at hd; subst hd; rw [V_int h]; simp [Value.cells, VL, V, Rd]
  | str s => simp only [AV.cl, Option.some.injEq] at hd; subst hd; rw [V_str h]; simp [Value.cells, VL, V, Rd]
  | pnil => simp only [AV.cl, Option.some.injEq] at hd; subst hd; have h' := h; simp only [V, Rd] at h'; subst h'; simpa [Value.cells, VL] using h
  | inil => simp only [AV.cl, Option.some.injEq] at hd; subst hd; have h' := h; simp only [V, Rd] at h'; subst h'; simpa [Value.cells, VL] using h
  | fnil => simp only [AV.cl, Option.some.injEq] at hd; subst hd; have h' := h; simp only [V, Rd] at h'; subst h'; simpa [Value.cells, VL] using h
  | nil k => simp only [AV.cl, Option.some.injEq] at hd; subst hd; have h' := h; simp only [V] at h'; subst h'; simpa [Value.cells, VL] using h
  | tree k es => simp only [AV.cl, Option.some.injEq] at hd; subst hd; have h' := h; simp only [V, Rd] at h'; obtain ⟨A, cap, rfl, _⟩ := h'; simpa [Value.cells, VL] using h
  | rp c o => simp only [AV.cl, Option.some.injEq] at hd; subst hd; have h' := h; simp only [V, Rd] at h'; obtain ⟨A, cap, rfl, _⟩ := h'; simpa [Value.cells, VL] using h
  | fn f cs => simp only [AV.cl, Option.some.injEq] at hd; subst hd; have h' := h; simp only [V] at h'; obtain ⟨vs, rfl, _⟩ := h'; simpa [Value.cells, VL] using h
  | sl r k off len => simp only [AV.cl, Option.some.injEq] at hd; subst hd; have h' := h; simp only [V] at h'; obtain ⟨_, _, ⟨A, c, rfl⟩, _⟩ := h'; simpa [Value.cells, VL] using h
  | ptr r k i o => simp only [AV.cl, Option.some.injEq] at hd; subst hd; have h' := h; simp only [V] at h'; obtain ⟨_, _, ⟨A, A', rfl⟩, _⟩ := h'; simpa [Value.cells, VL] using h
theorem V_one {v : AV} {x : Value} (h : V RO w R nx L v x) (hd : one v = true) : x.oneCell' = true := by
  cases v with
  | agg cs => simp [one] at hd
  | dead => simp [one] at hd
  | tup cs => simp [one] at hd
  | gone => simpa only [V] using h
  | bool b => rw [V_bool h]; rfl
  | int k n => rw [V_int h]; rfl
  | str s => rw [V_str h]; rfl
  | pnil => simp only [V, Rd] at h; subst h; rfl
  | inil => simp only [V, Rd] at h; subst h; rfl
  | fnil => simp only [V, Rd] at h; subst h; rfl
  | nil k => simp only [V] at h; subst h; rfl
  | tree k es => simp only [V, Rd] at h; obtain ⟨A, cap, rfl, _⟩ := h; rfl
  | rp c o => simp only [V, Rd] at h; obtain ⟨A, cap, rfl, _⟩ := h; rfl
  | fn f cs => simp only [V] at h; obtain ⟨vs, rfl, _⟩ := h; rfl
  | sl r k off len => simp only [V] at h; obtain ⟨_, _, ⟨A, c, rfl⟩, _⟩ := h; rfl
  | ptr r k i o => simp only [V] at h; obtain ⟨_, _, ⟨A, A', rfl⟩, _⟩ := h; rfl
theorem d_mv (h : HRel RO w R nx L) (he : EV RO w R nx L tm a) {o : Oper} {x : Operand} {y : X} (ho : o.op = .move x ∨ o.op = .assign x) {t : TypeId} (hx : rX P t x = some y) :
    Does P o a RO w R nx L (ev tm y) R nx := by
  refine Does.pure h (x := a.eval x) ?_ (rX_V he hx)
  rcases ho with ho | ho <;> simp [execOp, ho]
theorem d_pick (h : HRel RO w R nx L) (he : EV RO w R nx L tm a) {o : Oper} {c x y : Operand} {c' x' y' : X} (ho : o.op = .pick c x y) {t : TypeId} (hc : rX0 c = some c') (hx : rX P t x = some x') (hy : rX P t y = some y') {b : Bool}
    (hb : ev tm c' = .bool b) : Does P o a RO w R nx L (if b then ev tm x' else ev tm y') R nx := by
  have h1 := rX0_V he hc
  rw [hb] at h1
  refine Does.pure h (x := if b then a.eval x else a.eval y) ?_ ?_
  · simp only [execOp, ho, V_bool h1, Sem.run_bind, asBool, Sem.run_pure, Result.andThen_ok]
  · cases b
    · exact rX_V he hy
    · exact rX_V he hx
theorem d_nck (h : HRel RO w R nx L) (he : EV RO w R nx L tm a) {o : Oper} {x : Operand} {y : X} (ho : o.op = .nilCheck x) (hx : rX0 x = some y)
    (hv : (∃ r k i n, ev tm y = .ptr r k i n) ∨ (∃ c n, ev tm y = .rp c n) ∨ (∃ f cs, ev tm y = .fn f cs)) :
    Does P o a RO w R nx L (ev tm y) R nx := by
  have h1 := rX0_V he hx
  refine Does.pure h (x := a.eval x) ?_ h1
  rcases hv with ⟨r, k, i, n, e⟩ | ⟨c, n, e⟩ | ⟨f, cs, e⟩
  · rw [e] at h1
    simp only [V] at h1
    obtain ⟨_, _, ⟨b, o, e3⟩, _⟩ := h1
    simp [execOp, ho, e3]
  · rw [e] at h1
    simp only [V, Rd] at h1
    obtain ⟨b, o, e3, _⟩ := h1
    simp [execOp, ho, e3]
  · rw [e] at h1
    simp only [V] at h1
    obtain ⟨vs, e3, _⟩ := h1
    simp [execOp, ho, e3]
theorem run_under {t : TypeId} {d : TypeDesc} (h : P.underlying t = some d) (w : World) : (underlying t).run P w = .ok d w := by
  simp [underlying, h]
theorem run_sizeOf {t : TypeId} {n : Nat} (h : size? P t = some n) (w : World) : (sizeOf t).run P w = .ok n w := by
  simp only [size?, Option.map_eq_some_iff] at h
  obtain ⟨i, h1, rfl⟩ := h
  simp [sizeOf, typeInfo, h1]
theorem run_isAgg {t : TypeId} {g : Bool} (h : agg? P t = some g) (w : World) : (isAgg t).run P w = .ok g w := by
  unfold agg? at h
  split at h <;> simp at h <;> subst h <;> rename_i hd
  · simp [isAgg, run_under hd]
  · simp [isAgg, run_under hd]
  · rename_i d h1 h2
    simp only [isAgg, Sem.run_bind, run_under hd, Result.andThen_ok]
    cases d <;> first | rfl | exact absurd rfl (h1 _) | exact absurd rfl (h2 _ _)
theorem d_fa (h : HRel RO w R nx L) (he : EV RO w R nx L tm a) {o : Oper} {s : TypeId} {x : Operand} {i : Nat} {y : X} {fs : Array Field} {f : Field} {n : Nat} (ho : o.op = .fieldAddr s x i) (hs : P.underlying s = some (.struct fs)) (hf : fs[i]? = some f)
    (hn : size? P f.type = some n) (hn0 : n ≠ 0) (hx : rX0 x = some y) {v : AV}
    (hv : (∃ r k j m, ev tm y = .ptr r k j m ∧ v = .ptr r k j (m + f.offset)) ∨ (∃ c m, ev tm y = .rp c m ∧ v = .rp c (m + f.offset))) :
    Does P o a RO w R nx L v R nx := by
  have h1 := rX0_V he hx
  have key : ∀ b off, a.eval x = .pointer (some ⟨b, off, none⟩) → (execOp a.eval o).run P w = .ok (.value (.pointer (some ⟨b, off + f.offset, none⟩))) w := by
    intro b off e
    simp only [execOp, ho, Instr.fieldAt, Sem.run_bind, run_under hs, Result.andThen_ok, hf, e, Instr.sureAddr, Sem.run_pure, fieldPlace, run_sizeOf hn, hn0, if_false]
    simp only [Addr.add]
    split <;> simp_all
  rcases hv with ⟨r, k, j, m, e, rfl⟩ | ⟨c, m, e, rfl⟩
  · rw [e] at h1
    simp only [V] at h1
    obtain ⟨h2, h3, ⟨b, off, h4⟩, h5⟩ := h1
    refine Does.pure h (key b off h4) ?_
    simp only [V]
    refine ⟨h2, h3, ⟨_, _, rfl⟩, fun bx es hb hi => ?_⟩
    obtain ⟨b', o', T, h6, h7⟩ := h5 bx es hb hi
    rw [h4] at h7
    simp only [Value.pointer.injEq, Option.some.injEq, Addr.mk.injEq, and_true] at h7
    exact ⟨b', o', T, h6, by simp [h7.1, h7.2]; omega⟩
  · rw [e] at h1
    simp only [V, Rd] at h1
    obtain ⟨b, off, h4, h5, h6⟩ := h1
    refine Does.pure h (key b _ h4) ?_
    simp only [V, Rd]
    exact ⟨b, off, by simp; omega, h5, h6⟩
theorem run_part1 {t : TypeId} {n : Nat} {g : Bool} (hn : size? P t = some n) (hg : agg? P t = some g) (hg1 : g = false → n = 1) {cs : Array Value} {off : Nat} {l : List AV}
    (hl : VL RO w R nx L l ((cs.toList.drop off).take n)) (hlen : l.length = n) {v : AV} (hv : mkv g l = some v) : ∃ x, (part t cs off).run P w = .ok x w ∧ V RO w R nx L v x := by
  cases g with
  | true =>
    simp only [mkv, if_true, Option.some.injEq] at hv
    subst hv
    refine ⟨.agg (cs.extract off (off + n)), ?_, ?_⟩
    · simp [part, run_isAgg hg, run_sizeOf hn]
    · simp only [V]
      refine ⟨_, rfl, ?_⟩
      have : (cs.extract off (off + n)).toList = (cs.toList.drop off).take n := by
        rw [Array.toList_extract]; simp [List.extract]
      rw [this]
      exact hl
  | false =>
    have h1 := hg1 rfl
    subst h1
    match l, hlen with
    | [c], _ =>
      simp [mkv] at hv
      subst hv
      cases hd : cs.toList.drop off with
      | nil => rw [hd] at hl; simp [VL] at hl
      | cons x xs =>
        rw [hd] at hl
        simp only [List.take_succ_cons, List.take_zero, VL] at hl
        have hx : cs[off]? = some x := by
          have := congrArg (·[0]?) hd
          simpa using this
        refine ⟨x, ?_, hl.1⟩
        simp [part, run_isAgg hg, hx]
theorem d_fl (h : HRel RO w R nx L) (he : EV RO w R nx L tm a) {o : Oper} {s : TypeId} {x : Operand} {i : Nat} {y : X} {fs : Array Field} {f : Field} {n : Nat} {g : Bool} (ho : o.op = .field s x i) (hs : P.underlying s = some (.struct fs)) (hf : fs[i]? = some f)
    (hn : size? P f.type = some n) (hg : agg? P f.type = some g) (hg1 : g = false → n = 1) (hx : rX P s x = some y) {cs : List AV} (hy : ev tm y = .agg cs) (hl : f.offset + n ≤ cs.length) {v : AV} (hv : mkv g (seg1 cs f.offset n) = some v) :
    Does P o a RO w R nx L v R nx := by
  have h1 := rX_V he hx
  rw [hy] at h1
  simp only [V] at h1
  obtain ⟨vs, e, h2⟩ := h1
  obtain ⟨z, h3, h4⟩ := run_part1 (P := P) (cs := vs) (off := f.offset) hn hg hg1 (VL_take n (VL_drop f.offset h2)) (by simp; omega) hv
  refine Does.pure h (x := z) ?_ h4
  simp only [execOp, ho, Instr.field, Sem.run_bind, run_under hs, Result.andThen_ok, hf, e, asAgg, Sem.run_pure, h3]
theorem d_ex (h : HRel RO w R nx L) (he : EV RO w R nx L tm a) {o : Oper} {x : Operand} {i : Nat} {y : X} (ho : o.op = .extract x i) (hx : rX0 x = some y) {cs : List AV} (hy : ev tm y = .tup cs) {v : AV} (hv : cs[i]? = some v) :
    Does P o a RO w R nx L v R nx := by
  have h1 := rX0_V he hx
  rw [hy] at h1
  simp only [V] at h1
  obtain ⟨vs, e, h2⟩ := h1
  obtain ⟨z, h3, h4⟩ := VL_get h2 hv
  refine Does.pure h (x := z) ?_ h4
  have h3' : vs[i]? = some z := by simpa using h3
  simp [execOp, ho, Instr.extract, e, h3']
theorem d_ix (h : HRel RO w R nx L) (he : EV RO w R nx L tm a) {o : Oper} {t : TypeId} {x i : Operand} {y j : X} (ho : o.op = .index t x i) (ht : P.underlying t = some .string) (hx : rX0 x = some y) (hi : rX0 i = some j) {s : ByteArray} {k : IntKind} {n : Int}
    (hy : ev tm y = .str s) (hj : ev tm j = .int k n) (hn : 0 ≤ n ∧ n < s.size) : Does P o a RO w R nx L (.int .u8 (s.data.getD n.toNat 0).toNat) R nx := by
  have h1 := rX0_V he hx
  have h2 := rX0_V he hi
  rw [hy] at h1
  rw [hj] at h2
  refine Does.pure h (x := .int .u8 (s.data.getD n.toNat 0).toNat) ?_ (by simp [V, Rd])
  have hlt : n.toNat < s.size := by omega
  have hb : s[n.toNat]? = some (s.data.getD n.toNat 0) := by
    rw [getElem?_pos s n.toNat hlt]
    simp only [Option.some.injEq]
    show s.data[n.toNat] = _
    have : n.toNat < s.data.size := hlt
    rw [Array.getD, dif_pos this]; rfl
  simp only [execOp, ho, Instr.index, V_str h1, V_int h2, asIntOf, Sem.run_bind, Sem.run_pure, Result.andThen_ok, run_under ht, hn.1, if_true, hb]
theorem toList_one {α : Type} {xs : Array α} {x : α} (h : xs.toList = [x]) : xs = #[x] := by
  cases xs; simp at h; subst h; rfl
theorem toList_two {α : Type} {xs : Array α} {x y : α} (h : xs.toList = [x, y]) : xs = #[x, y] := by
  cases xs; simp at h; subst h; rfl
theorem run_len {t : TypeId} {x : Value} {n : Nat} (h : (∃ s : ByteArray, x = .string s ∧ s.size = n ∧ P.underlying t = some .string) ∨ (∃ A cp e, x = .slice A n cp ∧ P.underlying t = some (.slice e))) (u : TypeId) (w : World) :
    (Builtin.len_ #[t] u #[x]).run P w = .ok (goInt n) w := by
  rcases h with ⟨s, rfl, rfl, e⟩ | ⟨A, cp, e', rfl, e⟩ <;> simp [Builtin.len_, run_under e]
theorem d_len (h : HRel RO w R nx L) (he : EV RO w R nx L tm a) {o : Oper} {c : Call} {t : TypeId} {x : Operand} {y : X} (ho : o.op = .call c) (hc : c.callee = .builtin .len) (hts : c.argTypes.toList = [t]) (hxs : c.args.toList = [x]) {n : Nat} (hx : rX P t x = some y)
    (hv : (∃ s, ev tm y = .str s ∧ P.underlying t = some .string ∧ n = s.size) ∨ (∃ e, P.underlying t = some (.slice e) ∧ ((∃ k, ev tm y = .nil k ∧ n = 0) ∨ (∃ k es, ev tm y = .tree k es ∧ n = es.length) ∨ (∃ r k off len, ev tm y = .sl r k off len ∧ n = len)))) :
    Does P o a RO w R nx L (I64 n) R nx := by
  have h1 := rX_V he hx
  have e1 := toList_one hts
  have e2 := toList_one hxs
  refine Does.pure h (x := goInt n) ?_ (by simp [V, Rd, I64, goInt])
  simp only [execOp, ho, resolve, hc, e2, List.map_toArray, List.map_cons, List.map_nil, Sem.run_bind, Sem.run_pure, Result.andThen_ok, invoke, builtin, e1]
  rw [run_len]
  · rfl
  · rcases hv with ⟨s, e, et, rfl⟩ | ⟨el, et, ⟨k, e, rfl⟩ | ⟨k, es, e, rfl⟩ | ⟨r, k, off, len, e, rfl⟩⟩ <;> rw [e] at h1
    · exact .inl ⟨s, V_str h1, rfl, et⟩
    · simp only [V] at h1
      exact .inr ⟨_, _, _, h1, et⟩
    · simp only [V, Rd] at h1
      obtain ⟨A, cp, h2, _⟩ := h1
      exact .inr ⟨_, _, _, h2, et⟩
    · simp only [V] at h1
      obtain ⟨_, _, ⟨A, cp, h2⟩, _⟩ := h1
      exact .inr ⟨_, _, _, h2, et⟩
theorem d_un (h : HRel RO w R nx L) (he : EV RO w R nx L tm a) {o : Oper} {t : TypeId} {op : UnOp} {x : Operand} {y : X} (ho : o.op = .unOp op t x) (hx : rX0 x = some y) {v : AV} (hv : un op (ev tm y) = some v) :
    Does P o a RO w R nx L v R nx := by
  have h1 := rX0_V he hx
  unfold un at hv
  split at hv
  · rename_i k n e
    simp only [Option.some.injEq] at hv; subst hv
    rw [e] at h1
    exact Does.pure h (x := .int k (k.wrap (0 - n))) (by simp [execOp, ho, V_int h1, Op.unary, Op.intArith]) (by simp [V, Rd])
  · rename_i b e
    simp only [Option.some.injEq] at hv; subst hv
    rw [e] at h1
    exact Does.pure h (x := .bool (!b)) (by simp only [execOp, ho, V_bool h1, Op.unary, Sem.run_bind, Sem.run_pure, Result.andThen_ok]) (by simp [V, Rd])
  · simp at hv
theorem d_cvi (h : HRel RO w R nx L) (he : EV RO w R nx L tm a) {o : Oper} {s d : TypeId} {k k0 k1 : IntKind} {x : Operand} {y : X} (ho : o.op = .convert s d x) (hs : P.underlying s = some (.int k0)) (hd : P.underlying d = some (.int k)) (hx : rX0 x = some y) {n : Int}
    (hy : ev tm y = .int k1 n) : Does P o a RO w R nx L (.int k (k.wrap n)) R nx := by
  have h1 := rX0_V he hx
  rw [hy] at h1
  refine Does.pure h (x := .int k (k.wrap n)) ?_ (by simp [V, Rd])
  simp [execOp, ho, convert, run_under hs, run_under hd, V_int h1, Conv.intToInt]
theorem d_cvs (h : HRel RO w R nx L) (he : EV RO w R nx L tm a) {o : Oper} {s d : TypeId} {x : Operand} {y : X} (ho : o.op = .convert s d x) (hs : P.underlying s = some .string) (hd : P.underlying d = some .string) (hx : rX0 x = some y) {z : ByteArray}
    (hy : ev tm y = .str z) : Does P o a RO w R nx L (.str z) R nx := by
  have h1 := rX0_V he hx
  rw [hy] at h1
  refine Does.pure h (x := .string z) ?_ (by simp [V, Rd])
  simp [execOp, ho, convert, run_under hs, run_under hd, V_str h1]
theorem d_mkf (h : HRel RO w R nx L) (he : EV RO w R nx L tm a) {o : Oper} {f : Nat} {fst caps : Array Operand} {ys : List X} (ho : o.op = .makeFunc (.func f) fst caps) (hf : fst.size = 0) (hx : rX0s caps.toList = some ys) :
    Does P o a RO w R nx L (.fn f (ys.map (ev tm))) R nx := by
  have h1 := rX0s_V he hx
  refine Does.pure h (x := .func (.func f) #[] (caps.map a.eval)) ?_ ?_
  · have : fst = #[] := Array.eq_empty_of_size_eq_zero hf
    simp [execOp, ho, Instr.makeFunc, this]
  · simp only [V]
    exact ⟨_, rfl, by simpa using h1⟩
def val : AV → Value
  | .bool b => .bool b
  | .int k n => .int k n
  | .str s => .string s
  | _ => undef
theorem V_val {c : AV} (h : scal c = true) : V RO w R nx L c (val c) := by
  cases c <;> simp [scal] at h <;> simp [V, Rd, val]
theorem run_guard {op : BinOp} {t : TypeId} {x y : Operand} {u v : Value} (h : (∀ us vs, ¬ (u = .agg us ∧ v = .agg vs)) ∧ ¬ (u = .nilIface ∧ v = .nilIface)) (w : World) : (eqGuard op t x y u v).run P w = .ok () w := by
  obtain ⟨h1, h2⟩ := h
  cases op <;> first
    | rfl
    | (simp only [eqGuard]
       cases u <;> first
         | rfl
         | (cases v <;> first | rfl | exact absurd ⟨rfl, rfl⟩ h2 | exact absurd ⟨rfl, rfl⟩ (h1 _ _)))
theorem bytes_beq (s z : ByteArray) : (s.toList == z.toList) = decide (s = z) := by
  rw [Bool.eq_iff_iff]
  simp only [beq_iff_eq, decide_eq_true_eq]
  constructor
  · intro h
    rw [ByteArray.toList_eq, ByteArray.toList_eq] at h
    cases s; cases z
    congr 1
    exact Array.toList_inj.1 h
  · rintro rfl; rfl
theorem binI_run {op : BinOp} {k : IntKind} {n m : Int} (h1 : op ≠ .shl) (h2 : op ≠ .shr) {v : AV} (hv : binI op k n m = some v) (t : TypeId) (w : World) : scal v = true ∧ (binOp op t (.int k n) (.int k m)).run P w = .ok (val v) w := by
  unfold binI at hv
  cases op <;> simp at hv h1 h2 <;> clear h1 h2
  case quo => obtain ⟨hb, rfl⟩ := hv; exact ⟨rfl, by simp [binOp, Op.intDiv, hb, val]⟩
  case rem => obtain ⟨hb, rfl⟩ := hv; exact ⟨rfl, by simp [binOp, Op.intDiv, hb, val]⟩
  all_goals (subst hv; exact ⟨rfl, by simp [binOp, Op.intArith, Op.intBits, Op.intCmp, val] <;> rfl⟩)
theorem binS_run {op : BinOp} {s z : ByteArray} {v : AV} (hv : binS op s z = some v) (t : TypeId) (w : World) : scal v = true ∧ (binOp op t (.string s) (.string z)).run P w = .ok (val v) w := by
  unfold binS at hv
  cases op <;> simp at hv
  case add =>
    obtain ⟨hb, rfl⟩ := hv
    have : ¬ (((s.size + z.size : Nat) : Int) > IntKind.i64.max) := by
      have : IntKind.i64.max = 9223372036854775807 := by rfl
      omega
    exact ⟨rfl, by simp only [binOp, Op.stringOp, this, if_false, val, Sem.run_pure]⟩
  case eql => subst hv; exact ⟨rfl, by simp only [binOp, Op.stringOp, bytes_beq]; rfl⟩
  case neq => subst hv; exact ⟨rfl, by simp only [binOp, Op.stringOp, bytes_beq, val, Sem.run_pure, decide_not]⟩
theorem d_bin (h : HRel RO w R nx L) (he : EV RO w R nx L tm a) {o : Oper} {t u : TypeId} {op : BinOp} {x y : Operand} {x' y' : X} (ho : o.op = .binOp op t x y u) (hx : rX0 x = some x') (hy : rX0 y = some y')
    {v : AV} (hv : bin op (ev tm x') (ev tm y') = some v) : Does P o a RO w R nx L v R nx := by
  have h1 := rX0_V he hx
  have h2 := rX0_V he hy
  have hrun : ∀ z, (binOp op t (a.eval x) (a.eval y)).run P w = .ok z w → ((∀ us vs, ¬ (a.eval x = .agg us ∧ a.eval y = .agg vs)) ∧ ¬ (a.eval x = .nilIface ∧ a.eval y = .nilIface)) → (execOp a.eval o).run P w = .ok (.value z) w := by
    intro z hz hg
    simp only [execOp, ho, Sem.run_bind, run_guard hg, Result.andThen_ok, hz, Sem.run_pure]
  unfold bin at hv
  split at hv
  · rename_i k n k' m e1 e2
    rw [e1] at h1
    rw [e2] at h2
    have e3 := V_int h1
    have e4 := V_int h2
    have hg : (∀ us vs, ¬ (a.eval x = .agg us ∧ a.eval y = .agg vs)) ∧ ¬ (a.eval x = .nilIface ∧ a.eval y = .nilIface) := by rw [e3]; simp
    split at hv
    · split at hv
      · simp at hv
      · rename_i hb
        simp only [Option.some.injEq] at hv; subst hv
        exact Does.pure h (hrun (val _) (by rw [e3, e4]; simp only [binOp, Op.shift, hb, if_false]; rfl) hg) (V_val rfl)
    · split at hv
      · simp at hv
      · rename_i hb
        simp only [Option.some.injEq] at hv; subst hv
        exact Does.pure h (hrun (val _) (by rw [e3, e4]; simp only [binOp, Op.shift, hb, if_false]; rfl) hg) (V_val rfl)
    · rename_i h3 h4
      split at hv
      · rename_i hk
        subst hk
        obtain ⟨hs, hr⟩ := binI_run (P := P) h3 h4 hv t w
        exact Does.pure h (hrun (val v) (by rw [e3, e4]; exact hr) hg) (V_val hs)
      · simp at hv
  · rename_i s z e1 e2
    rw [e1] at h1
    rw [e2] at h2
    have e3 := V_str h1
    have e4 := V_str h2
    have hg : (∀ us vs, ¬ (a.eval x = .agg us ∧ a.eval y = .agg vs)) ∧ ¬ (a.eval x = .nilIface ∧ a.eval y = .nilIface) := by rw [e3]; simp
    obtain ⟨hs, hr⟩ := binS_run (P := P) hv t w
    exact Does.pure h (hrun (val v) (by rw [e3, e4]; exact hr) hg) (V_val hs)
  · simp at hv
theorem d_bib (h : HRel RO w R nx L) (he : EV RO w R nx L tm a) {o : Oper} {t u : TypeId} {op : BinOp} {x y : Operand} {x' y' : X} (ho : o.op = .binOp op t x y u) (hx : rX0 x = some x') (hy : rX0 y = some y')
    (ht : P.underlying t = some .bool) {v : AV} (hv : bib op (ev tm x') (ev tm y') = some v) : Does P o a RO w R nx L v R nx := by
  have h1 := rX0_V he hx
  have h2 := rX0_V he hy
  unfold bib at hv
  split at hv
  · rename_i b b' e1 e2
    rw [e1] at h1
    rw [e2] at h2
    have e3 := V_bool h1
    have e4 := V_bool h2
    have hg : (∀ us vs, ¬ (a.eval x = .agg us ∧ a.eval y = .agg vs)) ∧ ¬ (a.eval x = .nilIface ∧ a.eval y = .nilIface) := by rw [e3]; simp
    have heq : (Op.equal t (.bool b) (.bool b')).run P w = .ok (b == b') w := run_equal_bool w t b b' ht
    rw [e3, e4] at hg
    split at hv <;> simp at hv <;> subst hv
    · refine Does.pure h (x := .bool (b == b')) ?_ (by simp only [V, Rd]; congr 1)
      simp only [execOp, ho, e3, e4, Sem.run_bind, run_guard hg, Result.andThen_ok, binOp, heq, Sem.run_pure]
    · refine Does.pure h (x := .bool (!(b == b'))) ?_ (by simp only [V, Rd]; congr 1)
      simp only [execOp, ho, e3, e4, Sem.run_bind, run_guard hg, Result.andThen_ok, binOp, heq, Sem.run_pure]
  · simp at hv
theorem eqc_inv {q : Nat} {a b : AV} {r : Bool} (h : eqc q a b = some r) : (q = 1 ∧ ∃ k n m, a = .int k n ∧ b = .int k m ∧ r = decide (n = m)) ∨ (q = 2 ∧ ∃ x y, a = .str x ∧ b = .str y ∧ r = decide (x = y)) ∨
    (q = 0 ∧ ∃ x y, a = .bool x ∧ b = .bool y ∧ r = decide (x = y)) := by
  unfold eqc at h
  split at h
  · split at h
    · rename_i hk
      subst hk
      simp only [Option.some.injEq] at h
      exact .inl ⟨rfl, _, _, _, rfl, rfl, h.symm⟩
    · simp at h
  · simp only [Option.some.injEq] at h
    exact .inr (.inl ⟨rfl, _, _, rfl, rfl, h.symm⟩)
  · simp only [Option.some.injEq] at h
    exact .inr (.inr ⟨rfl, _, _, rfl, rfl, h.symm⟩)
  · simp at h
theorem eqf_run {xs ys : Array Value} {cs ds : List AV} (hx : VL RO w R nx L cs xs.toList) (hy : VL RO w R nx L ds ys.toList) (d : Nat) : ∀ {fs : List Field} {os : List (Nat × Nat)} {b : Bool}, eqOffs P fs = some os → eqf cs ds os = some b →
    (Op.eqFields (d + 1) xs ys fs).run P w = .ok b w
  | [], os, b, h1, h2 => by
    simp only [eqOffs, Option.some.injEq] at h1
    subst h1
    simp only [eqf, Option.some.injEq] at h2
    subst h2
    rfl
  | f :: fs, os, b, h1, h2 => by
    simp only [eqOffs] at h1
    split at h1
    · simp at h1
    · rename_i hname
      have hos : ∃ os' q, eqOffs P fs = some os' ∧ os = (f.offset, q) :: os' ∧ agg? P f.type = some false ∧ ((q = 0 ∧ P.underlying f.type = some .bool) ∨ (q = 1 ∧ ∃ k, P.underlying f.type = some (.int k)) ∨ (q = 2 ∧ P.underlying f.type = some .string)) := by
        split at h1
        · rename_i hd
          obtain ⟨os', h3, h4⟩ := Option.map_eq_some_iff.1 h1
          exact ⟨os', 0, h3, h4.symm, by simp [agg?, hd], .inl ⟨rfl, hd⟩⟩
        · rename_i k hd
          obtain ⟨os', h3, h4⟩ := Option.map_eq_some_iff.1 h1
          exact ⟨os', 1, h3, h4.symm, by simp [agg?, hd], .inr (.inl ⟨rfl, k, hd⟩)⟩
        · rename_i hd
          obtain ⟨os', h3, h4⟩ := Option.map_eq_some_iff.1 h1
          exact ⟨os', 2, h3, h4.symm, by simp [agg?, hd], .inr (.inr ⟨rfl, hd⟩)⟩
        · simp at h1
      obtain ⟨os', q, h3, rfl, hg, hty⟩ := hos
      simp only [eqf] at h2
      -- one cell
      have cell : ∀ b1, eqc q (cs.getD f.offset .dead) (ds.getD f.offset .dead) = some b1 →
          ∃ u v, (part f.type xs f.offset).run P w = .ok u w ∧ (part f.type ys f.offset).run P w = .ok v w ∧ (Op.equalIn (d + 1) f.type u v).run P w = .ok b1 w := by
        intro b1 hb1
        have inx : ∀ {cs : List AV} {xs : Array Value}, VL RO w R nx L cs xs.toList → scal (cs.getD f.offset .dead) = true → (part f.type xs f.offset).run P w = .ok (val (cs.getD f.offset .dead)) w := by
          intro cs xs hx hs
          cases hc : cs[f.offset]? with
          | none => rw [List.getD_eq_getElem?_getD, hc] at hs; simp [scal] at hs
          | some c =>
            obtain ⟨u, hu, hV⟩ := VL_get hx hc
            have e : cs.getD f.offset .dead = c := by rw [List.getD_eq_getElem?_getD, hc]; rfl
            rw [e] at hs ⊢
            have hu' : xs[f.offset]? = some u := by simpa using hu
            have : u = val c := by
              cases c <;> simp [scal] at hs <;> simpa [V, Rd, val] using hV
            simp [part, run_isAgg hg, hu', this]
        rcases eqc_inv hb1 with ⟨hq, k, n, m, e1, e2, rfl⟩ | ⟨hq, x, y, e1, e2, rfl⟩ | ⟨hq, x, y, e1, e2, rfl⟩
        · obtain ⟨_, k2, h⟩ : q = 1 ∧ ∃ k, P.underlying f.type = some (.int k) := by rcases hty with h | h | h <;> first | exact h | omega
          refine ⟨_, _, inx hx (by rw [e1]; rfl), inx hy (by rw [e2]; rfl), ?_⟩
          rw [e1, e2]
          exact run_equalIn_int w d f.type _ k2 _ _ h
        · obtain ⟨_, h⟩ : q = 2 ∧ P.underlying f.type = some .string := by rcases hty with h | h | h <;> first | exact h | omega
          refine ⟨_, _, inx hx (by rw [e1]; rfl), inx hy (by rw [e2]; rfl), ?_⟩
          rw [e1, e2]
          simp only [val, run_equalIn_string w d f.type _ _ h, bytes_beq]
        · obtain ⟨_, h⟩ : q = 0 ∧ P.underlying f.type = some .bool := by rcases hty with h | h | h <;> first | exact h | omega
          refine ⟨_, _, inx hx (by rw [e1]; rfl), inx hy (by rw [e2]; rfl), ?_⟩
          rw [e1, e2]
          simp only [val, run_equalIn_bool' w d f.type _ _ h]
          congr 1
      split at h2
      · rename_i hb
        obtain ⟨u, v, h5, h6, h7⟩ := cell true hb
        simp only [Op.eqFields, hname, ne_eq, not_false_eq_true, if_true, Sem.run_bind, h5, h6, h7, Result.andThen_ok, Bool.not_true, Bool.false_eq_true, if_false]
        exact eqf_run hx hy d h3 h2
      · rename_i hb
        obtain ⟨u, v, h5, h6, h7⟩ := cell false hb
        simp only [Option.some.injEq] at h2
        subst h2
        simp only [Op.eqFields, hname, ne_eq, not_false_eq_true, if_true, Sem.run_bind, h5, h6, h7, Result.andThen_ok, Bool.not_false, Sem.run_pure]
      · simp at h2
theorem d_eqs (h : HRel RO w R nx L) (he : EV RO w R nx L tm a) {o : Oper} {t u : TypeId} {op : BinOp} {x y : Operand} {x' y' : X} (ho : o.op = .binOp op t x y u) (hx : rX P t x = some x') (hy : rX P t y = some y')
    {neg : Bool} (hop : op = if neg then .neq else .eql) {fs : List (Nat × Nat)} (hf : eqFs P t = some fs) {cs ds : List AV} (hc : ev tm x' = .agg cs) (hd : ev tm y' = .agg ds) {b : Bool} (hb : eqf cs ds fs = some b) :
    Does P o a RO w R nx L (.bool (if neg then !b else b)) R nx := by
  have h1 := rX_V he hx
  have h2 := rX_V he hy
  rw [hc] at h1
  rw [hd] at h2
  simp only [V] at h1 h2
  obtain ⟨us, e1, h1⟩ := h1
  obtain ⟨vs, e2, h2⟩ := h2
  unfold eqFs at hf
  split at hf
  · rename_i fl hfl
    split at hf
    · rename_i hst
      have hfo : P.fieldsOf t = fl := by simp [Program.fieldsOf, hfl]
      have heq : (Op.equalIn 10000 t (.agg us) (.agg vs)).run P w = .ok b w := by
        rw [show (10000 : Nat) = 9999 + 1 from rfl, run_equalIn_agg w 9999 t us vs (by rw [hfo]; exact hfl) hst.1, hfo, show (9999 : Nat) = 9998 + 1 from rfl]
        exact eqf_run h1 h2 9998 hf hb
      refine Does.pure h (x := .bool (if neg then !b else b)) ?_ (by simp [V, Rd])
      cases neg <;> simp at hop <;> subst hop
      · simp only [execOp, ho, e1, e2, Sem.run_bind, run_eqGuard_agg w _ t x y us vs hst.2, Result.andThen_ok, run_eql_struct, heq, Sem.run_pure]
        rfl
      · simp only [execOp, ho, e1, e2, Sem.run_bind, run_eqGuard_agg w _ t x y us vs hst.2, Result.andThen_ok, run_neq_struct, heq, Sem.run_pure]
        rfl
    · simp at hf
  · simp at hf
theorem bound_run (he : EV RO w R nx L tm a) {x : Option Operand} {x' : Option X} (hx : rOpt x = some x') {dflt lim n : Nat} (hb : bound (x'.map (ev tm)) dflt lim = some n) :
    (x = none ∧ n = dflt) ∨ (∃ y, x = some y ∧ n ≤ lim ∧ ∀ lim' code, lim ≤ lim' → (Instr.sliceBound (a.eval y) lim' code).run P w = .ok n w) := by
  cases x with
  | none =>
    simp only [rOpt, Option.some.injEq] at hx
    subst hx
    simp only [Option.map_none, bound, Option.some.injEq] at hb
    exact .inl ⟨rfl, hb.symm⟩
  | some y =>
    simp only [rOpt, Option.map_eq_some_iff] at hx
    obtain ⟨y', h1, rfl⟩ := hx
    have h2 := rX0_V he h1
    simp only [Option.map_some, bound] at hb
    split at hb
    · simp at *
    · rename_i k m e
      simp only [Option.some.injEq] at e
      split at hb
      · rename_i hm
        simp only [Option.some.injEq] at hb
        subst hb
        rw [e] at h2
        refine .inr ⟨y, rfl, by omega, fun lim' code hl => ?_⟩
        have : 0 ≤ m ∧ m ≤ (lim' : Int) := by omega
        simp [Instr.sliceBound, V_int h2, asIntOf, this]
      · simp at hb
    · simp at hb
theorem ints2_run (he : EV RO w R nx L tm a) {lo hi : Option Operand} {lo' hi' : Option X} (hlo : rOpt lo = some lo') (hhi : rOpt hi = some hi') {len cap : Nat} (hcap : len ≤ cap) {p : Nat × Nat} (hp : ints2 (lo'.map (ev tm)) (hi'.map (ev tm)) len = some p) (sl : Bool) :
    (Instr.sliceBounds sl len cap (lo.map a.eval) (hi.map a.eval) none).run P w = .ok (p.1, p.2, cap) w ∧ p.1 ≤ p.2 ∧ p.2 ≤ len := by
  unfold ints2 at hp
  split at hp
  · simp at hp
  · rename_i h hh
    split at hp
    · rename_i l hl
      simp only [Option.some.injEq] at hp
      subst hp
      simp only
      rcases bound_run (P := P) he hhi hh with ⟨rfl, rfl⟩ | ⟨y, rfl, hle, hy⟩
      · rcases bound_run (P := P) he hlo hl with ⟨rfl, rfl⟩ | ⟨z, rfl, hle2, hz⟩
        · exact ⟨by simp [Instr.sliceBounds], by omega, by omega⟩
        · exact ⟨by simp [Instr.sliceBounds, hz _ _ (Nat.le_refl _)], hle2, by omega⟩
      · rcases bound_run (P := P) he hlo hl with ⟨rfl, rfl⟩ | ⟨z, rfl, hle2, hz⟩
        · exact ⟨by cases sl <;> simp [Instr.sliceBounds, hy _ _ hcap], by omega, hle⟩
        · exact ⟨by cases sl <;> simp [Instr.sliceBounds, hy _ _ hcap, hz _ _ (Nat.le_refl _)], hle2, hle⟩
    · simp at hp
theorem d_slcS (h : HRel RO w R nx L) (he : EV RO w R nx L tm a) {o : Oper} {t : TypeId} {x : Operand} {lo hi : Option Operand} {y : X} {lo' hi' : Option X} (ho : o.op = .slice t x lo hi none) (ht : P.underlying t = some .string) (hx : rX0 x = some y)
    (hlo : rOpt lo = some lo') (hhi : rOpt hi = some hi') {s : ByteArray} (hy : ev tm y = .str s) {p : Nat × Nat} (hp : ints2 (lo'.map (ev tm)) (hi'.map (ev tm)) s.size = some p) : Does P o a RO w R nx L (.str (s.extract p.1 p.2)) R nx := by
  have h1 := rX0_V he hx
  rw [hy] at h1
  have h2 := (ints2_run (P := P) he hlo hhi (Nat.le_refl _) hp false).1
  refine Does.pure h (x := .string (s.extract p.1 p.2)) ?_ (by simp [V, Rd])
  simp [execOp, ho, Instr.sliceAt, Instr.slice, run_under ht, V_str h1, h2]
theorem RdE_drop {k b : Nat} : ∀ (n : Nat) {es : List (List AV)} {o : Nat}, RdE RO w k b o es → RdE RO w k b (o + n * k) (es.drop n)
  | 0, _, _, h => by simpa using h
  | n + 1, [], _, _ => by simp [RdE]
  | n + 1, e :: es, o, h => by
    simp only [RdE] at h
    have := RdE_drop n h.2.2
    rw [Nat.succ_mul, show o + (n * k + k) = o + k + n * k by omega]
    simpa using this
theorem RdE_take {k b : Nat} : ∀ (n : Nat) {es : List (List AV)} {o : Nat}, RdE RO w k b o es → RdE RO w k b o (es.take n)
  | 0, _, _, _ => by simp [RdE]
  | n + 1, [], _, _ => by simp [RdE]
  | n + 1, e :: es, o, h => by
    simp only [RdE, List.take_succ_cons] at h ⊢
    exact ⟨h.1, h.2.1, RdE_take n h.2.2⟩
theorem addr_add (b o n : Nat) : Addr.add ⟨b, o, none⟩ n = ⟨b, o + n, none⟩ := by
  unfold Addr.add; split <;> simp_all
theorem d_slc (h : HRel RO w R nx L) (he : EV RO w R nx L tm a) {o : Oper} {t e : TypeId} {k : Nat} {x : Operand} {lo hi : Option Operand} {y : X} {lo' hi' : Option X} (ho : o.op = .slice t x lo hi none) (ht : P.underlying t = some (.slice e)) (hk : size? P e = some k) (hx : rX P t x = some y)
    (hlo : rOpt lo = some lo') (hhi : rOpt hi = some hi') {v : AV} {p : Nat × Nat}
    (hv : (∃ q, ev tm y = .nil q ∧ ints2 (lo'.map (ev tm)) (hi'.map (ev tm)) 0 = some p ∧ v = .nil q) ∨ (∃ es, ev tm y = .tree k es ∧ ints2 (lo'.map (ev tm)) (hi'.map (ev tm)) es.length = some p ∧ v = .tree k (seg es p.1 (p.2 - p.1))) ∨
      (∃ r off len, ev tm y = .sl r k off len ∧ ints2 (lo'.map (ev tm)) (hi'.map (ev tm)) len = some p ∧ (∃ es, getB R r = some (false, k, es)) ∧ v = .sl r k (off + p.1) (p.2 - p.1))) : Does P o a RO w R nx L v R nx := by
  have h1 := rX_V he hx
  have key : ∀ A len cap, a.eval x = .slice A len cap → len ≤ cap → ints2 (lo'.map (ev tm)) (hi'.map (ev tm)) len = some p →
      (execOp a.eval o).run P w = .ok (.value (.slice (if cap = p.1 then A else A.map (·.add (p.1 * k))) (p.2 - p.1) (cap - p.1))) w ∧ p.1 ≤ p.2 ∧ p.2 ≤ len := by
    intro A len cap e1 e2 e3
    have h2 := ints2_run (P := P) he hlo hhi e2 e3 true
    refine ⟨?_, h2.2⟩
    simp [execOp, ho, Instr.sliceAt, Instr.slice, run_under ht, e1, h2.1, run_sizeOf hk]
  rcases hv with ⟨q, e1, e2, rfl⟩ | ⟨es, e1, e2, rfl⟩ | ⟨r, off, len, e1, e2, ⟨es, hes⟩, rfl⟩ <;> rw [e1] at h1
  · simp only [V] at h1
    obtain ⟨h3, h4, h5⟩ := key none 0 0 h1 (Nat.le_refl _) e2
    refine Does.pure h h3 ?_
    simp only [V]
    have : p.1 = 0 := by omega
    have : p.2 = 0 := by omega
    simp [*]
  · simp only [V, Rd] at h1
    obtain ⟨A, cap, h2, h3, h4⟩ := h1
    obtain ⟨h5, h6, h7⟩ := key A _ cap h2 h3 e2
    refine Does.pure h h5 ?_
    simp only [V, Rd]
    have hlen : (seg es p.1 (p.2 - p.1)).length = p.2 - p.1 := by simp [seg]; omega
    rw [hlen]
    refine ⟨_, _, rfl, by omega, ?_⟩
    rcases h4 with rfl | ⟨b, o', rfl, h9, h10⟩
    · exact .inl (by simp [seg])
    · by_cases hc : cap = p.1
      · left
        apply List.eq_nil_of_length_eq_zero
        rw [hlen]; omega
      · right
        refine ⟨b, o' + p.1 * k, by simp [hc, addr_add], h9, ?_⟩
        exact RdE_take _ (RdE_drop _ h10)
  · simp only [V] at h1
    obtain ⟨h2, h3, _, h4⟩ := h1
    obtain ⟨h5, A, cap, h6, h7, h8⟩ := h4 es hes
    obtain ⟨h9, h10, h11⟩ := key A _ cap h6 h7 e2
    refine Does.pure h h9 ?_
    simp only [V]
    refine ⟨h2, h3, ⟨_, _, rfl⟩, fun es' hes' => ?_⟩
    rw [hes] at hes'
    simp only [Option.some.injEq, Prod.mk.injEq, true_and] at hes'
    subst hes'
    refine ⟨by omega, _, _, rfl, by omega, ?_⟩
    rcases h8 with h8 | ⟨b, o', T, h12, h13, h14⟩
    · exact .inl (by omega)
    · by_cases hc : cap = p.1
      · exact .inl (by omega)
      · right
        refine ⟨b, o', T, h12, ?_, ?_⟩
        · simp only [hc, if_false, h13, Option.map_some, addr_add]
          rw [Nat.add_mul]; simp; omega
        · rw [show off + p.1 + (cap - p.1) = off + cap by omega]; exact h14
theorem d_ia (h : HRel RO w R nx L) (he : EV RO w R nx L tm a) {o : Oper} {t e : TypeId} {k : Nat} {x i : Operand} {y j : X} (ho : o.op = .indexAddr t x i) (ht : P.underlying t = some (.slice e)) (hk : size? P e = some k) (hx : rX P t x = some y) (hi : rX0 i = some j)
    {q : IntKind} {n : Int} (hj : ev tm j = .int q n) (h0 : 0 ≤ n) {v : AV}
    (hv : (∃ r off len, ev tm y = .sl r k off len ∧ n < (len : Int) ∧ (∃ es, getB R r = some (false, k, es)) ∧ v = .ptr r k (off + n.toNat) 0) ∨ (∃ es, ev tm y = .tree k es ∧ n < (es.length : Int) ∧ v = .rp (es.getD n.toNat []) 0)) :
    Does P o a RO w R nx L v R nx := by
  have h1 := rX_V he hx
  have h2 := rX0_V he hi
  rw [hj] at h2
  have h3 := V_int h2
  have key : ∀ A len cap, a.eval x = .slice (some A) len cap → n < (len : Int) → (execOp a.eval o).run P w = .ok (.value (.pointer (some (A.add (n.toNat * k))))) w := by
    intro A len cap e1 e2
    simp only [execOp, ho, Instr.indexAt, h3, asIntOf, Sem.run_bind, Sem.run_pure, Result.andThen_ok, run_under ht, e1, run_sizeOf hk, h0, e2, and_self, if_true]
  rcases hv with ⟨r, off, len, e1, e2, ⟨es, hes⟩, rfl⟩ | ⟨es, e1, e2, rfl⟩ <;> rw [e1] at h1
  · simp only [V] at h1
    obtain ⟨h4, h5, _, h6⟩ := h1
    obtain ⟨h7, A, cap, h8, h9, h10⟩ := h6 es hes
    rcases h10 with h10 | ⟨b, o', T, h11, rfl, h12⟩
    · omega
    · refine Does.pure h (key _ len cap h8 e2) ?_
      simp only [V]
      refine ⟨h4, h5, ⟨_, _, by rw [addr_add]⟩, fun bx es' hb hl => ⟨b, o', T, h11, ?_⟩⟩
      rw [addr_add, Nat.add_mul]
      simp; omega
  · simp only [V, Rd] at h1
    obtain ⟨A, cap, h4, h5, h6⟩ := h1
    rcases h6 with rfl | ⟨b, o', rfl, h7, h8⟩
    · simp at e2; omega
    · refine Does.pure h (key _ _ cap h4 e2) ?_
      simp only [V, Rd]
      refine ⟨b, o' + n.toNat * k, by rw [addr_add]; simp, h7, ?_⟩
      have hlt : n.toNat < es.length := by omega
      exact (RdE.get es o' n.toNat _ h8 (by simp [List.getD_eq_getElem?_getD, hlt])).2
theorem mxI_run {f : Int → Int → Int} {op : Value → Value → Sem Value} (hop : ∀ k k' n m w, (op (.int k n) (.int k' m)).run P w = .ok (.int k (f n m)) w) {k : IntKind} : ∀ {n : Int} {cs : List AV} {vs : List Value} {v : AV}, VL RO w R nx L cs vs → mxI f k n cs = some v →
    scal v = true ∧ (vs.foldlM op (.int k n)).run P w = .ok (val v) w
  | n, [], [], v, _, h => by simp only [mxI, Option.some.injEq] at h; subst h; exact ⟨rfl, rfl⟩
  | n, c :: cs, x :: xs, v, hv, h => by
    simp only [VL] at hv
    cases c <;> simp only [mxI, reduceCtorEq] at h
    rename_i k' m
    have e := V_int hv.1
    subst e
    obtain ⟨h1, h2⟩ := mxI_run hop hv.2 h
    exact ⟨h1, by simp only [List.foldlM_cons, Sem.run_bind, hop, Result.andThen_ok, h2]⟩
  | n, [], _ :: _, v, hv, _ => by simp [VL] at hv
  | n, _ :: _, [], v, hv, _ => by simp [VL] at hv
theorem d_mx (h : HRel RO w R nx L) (he : EV RO w R nx L tm a) {o : Oper} {c : Call} {ys : List X} {y : X} (mx : Bool) (ho : o.op = .call c) (hc : c.callee = .builtin (if mx then .max else .min)) (hx : rX0s c.args.toList = some (y :: ys)) {k : IntKind} {n : Int} (hy : ev tm y = .int k n) {v : AV}
    (hv : mxI (if mx then (fun a b => if b > a then b else a) else (fun a b => if b < a then b else a)) k n (ys.map (ev tm)) = some v) : Does P o a RO w R nx L v R nx := by
  have h1 := rX0s_V he hx
  cases hl : c.args.toList with
  | nil => rw [hl] at hx; simp [rX0s] at hx
  | cons z zs =>
    rw [hl] at h1
    simp only [List.map_cons, VL, hy] at h1
    have e := V_int h1.1
    have hargs : (c.args.map a.eval).toList = .int k n :: zs.map a.eval := by simp [hl, e]
    cases mx
    · simp only [Bool.false_eq_true, if_false] at hc hv
      obtain ⟨h2, h3⟩ := mxI_run (P := P) (op := Builtin.min2) (fun k k' n m w => by simp [Builtin.min2]) h1.2 hv
      refine Does.pure h (x := val v) ?_ (V_val h2)
      simp only [execOp, ho, resolve, hc, Sem.run_bind, Sem.run_pure, Result.andThen_ok, invoke, builtin, Builtin.min_, hargs, h3]
    · simp only [if_true] at hc hv
      obtain ⟨h2, h3⟩ := mxI_run (P := P) (op := Builtin.max2) (fun k k' n m w => by simp [Builtin.max2]) h1.2 hv
      refine Does.pure h (x := val v) ?_ (V_val h2)
      simp only [execOp, ho, resolve, hc, Sem.run_bind, Sem.run_pure, Result.andThen_ok, invoke, builtin, Builtin.max_, hargs, h3]
end
end Go.Proofs.Ytldmpjoddghdkaa.AI
