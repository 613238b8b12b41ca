import Derived.Test.YtldmpjoddghdkaaARun
import Derived.Below
import Derived.Laws.Sem
namespace Go.Proofs.Ytldmpjoddghdkaa.AI
set_option linter.all false
open Go.RowKit
set_option autoImplicit false
class Tabs where
  at_ : Nat → Prop
  ok : Nat → Obj → Prop
abbrev Rf := Nat → Option Blk
abbrev Lf := Nat → Option (Nat × Nat) → Option (Nat × Nat × Nat)
structure Bx where
  rd : Nat → Prop
  pr : Nat → Prop
  sub : ∀ B, rd B → pr B
mutual
def Rd (RO : Bx) (w : World) : AV → Value → Prop
  | .bool b, x => x = .bool b
  | .int k n, x => x = .int k n
  | .str s, x => x = .string s
  | .pnil, x => x = .pointer none
  | .inil, x => x = .nilIface
  | .fnil, x => x = .nilFunc
  | .tree k es, x => ∃ A cap, x = .slice A es.length cap ∧ es.length ≤ cap ∧ (es = [] ∨ ∃ b o, A = some ⟨b, o, none⟩ ∧ RO.rd b ∧ RdE RO w k b o es)
  | .rp cells off, x => ∃ b o, x = .pointer (some ⟨b, o + off, none⟩) ∧ RO.rd b ∧ RdC RO w b o cells
  | _, _ => False
def RdE (RO : Bx) (w : World) (k b : Nat) : Nat → List (List AV) → Prop
  | _, [] => True
  | o, e :: es => e.length = k ∧ RdC RO w b o e ∧ RdE RO w k b (o + k) es
def RdC (RO : Bx) (w : World) (b : Nat) : Nat → List AV → Prop
  | _, [] => True
  | o, c :: cs => (∃ v, w.cell? ⟨b, o, none⟩ = some v ∧ Rd RO w c v) ∧ RdC RO w b (o + 1) cs
end
def Same (RO : Bx) (w w' : World) : Prop := ∀ B, RO.pr B → w'.heap[B]? = w.heap[B]?
theorem Same.refl (RO : Bx) (w : World) : Same RO w w := fun _ _ => rfl
theorem Same.trans {RO : Bx} {a b c : World} (h : Same RO a b) (k : Same RO b c) : Same RO a c := fun B hB => (k B hB).trans (h B hB)
theorem Same.cell {RO : Bx} {w w' : World} (h : Same RO w w') {b o : Nat} (hb : RO.rd b) : w'.cell? ⟨b, o, none⟩ = w.cell? ⟨b, o, none⟩ := by
  unfold World.cell?
  rw [h b (RO.sub b hb)]
mutual
theorem Rd.mono {RO : Bx} {w w' : World} (h : Same RO w w') : ∀ (v : AV) (x : Value), Rd RO w v x → Rd RO w' v x
  | .bool b, x, hx => by simpa [Rd] using hx
  | .int k n, x, hx => by simpa [Rd] using hx
  | .str s, x, hx => by simpa [Rd] using hx
  | .pnil, x, hx => by simpa [Rd] using hx
  | .inil, x, hx => by simpa [Rd] using hx
  | .fnil, x, hx => by simpa [Rd] using hx
  | .tree k es, x, hx => by
    simp only [Rd] at hx ⊢
    obtain ⟨A, cap, h1, h2, h3⟩ := hx
    refine ⟨A, cap, h1, h2, ?_⟩
    rcases h3 with h3 | ⟨b, o, h3, h4, h5⟩
    · exact .inl h3
    · exact .inr ⟨b, o, h3, h4, RdE.mono h k b h4 es o h5⟩
  | .rp cells off, x, hx => by
    simp only [Rd] at hx ⊢
    obtain ⟨b, o, h1, h2, h3⟩ := hx
    exact ⟨b, o, h1, h2, RdC.mono h b h2 cells o h3⟩
  | .dead, x, hx => by simp [Rd] at hx
  | .gone, x, hx => by simp [Rd] at hx
  | .nil k, x, hx => by simp [Rd] at hx
  | .sl .., x, hx => by simp [Rd] at hx
  | .ptr .., x, hx => by simp [Rd] at hx
  | .agg _, x, hx => by simp [Rd] at hx
  | .tup _, x, hx => by simp [Rd] at hx
  | .fn .., x, hx => by simp [Rd] at hx
theorem RdE.mono {RO : Bx} {w w' : World} (h : Same RO w w') (k b : Nat) (hb : RO.rd b) : ∀ (es : List (List AV)) (o : Nat), RdE RO w k b o es → RdE RO w' k b o es
  | [], _, _ => trivial
  | e :: es, o, hx => by
    simp only [RdE] at hx ⊢
    exact ⟨hx.1, RdC.mono h b hb e o hx.2.1, RdE.mono h k b hb es _ hx.2.2⟩
theorem RdC.mono {RO : Bx} {w w' : World} (h : Same RO w w') (b : Nat) (hb : RO.rd b) : ∀ (cs : List AV) (o : Nat), RdC RO w b o cs → RdC RO w' b o cs
  | [], _, _ => trivial
  | c :: cs, o, hx => by
    simp only [RdC] at hx ⊢
    obtain ⟨⟨v, h1, h2⟩, h3⟩ := hx
    exact ⟨⟨v, (h.cell hb).trans h1, Rd.mono h c v h2⟩, RdC.mono h b hb cs _ h3⟩
end
mutual
theorem Rd.more {RO RO' : Bx} {w : World} (h : ∀ B, RO.rd B → RO'.rd B) : ∀ (v : AV) (x : Value), Rd RO w v x → Rd RO' w v x
  | .bool b, x, hx => by simpa [Rd] using hx
  | .int k n, x, hx => by simpa [Rd] using hx
  | .str s, x, hx => by simpa [Rd] using hx
  | .pnil, x, hx => by simpa [Rd] using hx
  | .inil, x, hx => by simpa [Rd] using hx
  | .fnil, x, hx => by simpa [Rd] using hx
  | .tree k es, x, hx => by
    simp only [Rd] at hx ⊢
    obtain ⟨A, cap, h1, h2, h3⟩ := hx
    refine ⟨A, cap, h1, h2, ?_⟩
    rcases h3 with h3 | ⟨b, o, h3, h4, h5⟩
    · exact .inl h3
    · exact .inr ⟨b, o, h3, h b h4, RdE.more h k b es o h5⟩
  | .rp cells off, x, hx => by
    simp only [Rd] at hx ⊢
    obtain ⟨b, o, h1, h2, h3⟩ := hx
    exact ⟨b, o, h1, h b h2, RdC.more h b cells o h3⟩
  | .dead, x, hx => by simp [Rd] at hx
  | .gone, x, hx => by simp [Rd] at hx
  | .nil k, x, hx => by simp [Rd] at hx
  | .sl .., x, hx => by simp [Rd] at hx
  | .ptr .., x, hx => by simp [Rd] at hx
  | .agg _, x, hx => by simp [Rd] at hx
  | .tup _, x, hx => by simp [Rd] at hx
  | .fn .., x, hx => by simp [Rd] at hx
theorem RdE.more {RO RO' : Bx} {w : World} (h : ∀ B, RO.rd B → RO'.rd B) (k b : Nat) : ∀ (es : List (List AV)) (o : Nat), RdE RO w k b o es → RdE RO' w k b o es
  | [], _, _ => trivial
  | e :: es, o, hx => by
    simp only [RdE] at hx ⊢
    exact ⟨hx.1, RdC.more h b e o hx.2.1, RdE.more h k b es _ hx.2.2⟩
theorem RdC.more {RO RO' : Bx} {w : World} (h : ∀ B, RO.rd B → RO'.rd B) (b : Nat) : ∀ (cs : List AV) (o : Nat), RdC RO w b o cs → RdC RO' w b o cs
  | [], _, _ => trivial
  | c :: cs, o, hx => by
    simp only [RdC] at hx ⊢
    obtain ⟨⟨v, h1, h2⟩, h3⟩ := hx
    exact ⟨⟨v, h1, Rd.more h c v h2⟩, RdC.more h b cs _ h3⟩
end
theorem RdC.get {RO : Bx} {w : World} {b : Nat} : ∀ (cs : List AV) (o j : Nat) (c : AV), RdC RO w b o cs → cs[j]? = some c → ∃ v, w.cell? ⟨b, o + j, none⟩ = some v ∧ Rd RO w c v
  | [], _, _, _, _, h => by simp at h
  | c :: cs, o, 0, c', hx, h => by
    simp only [RdC] at hx
    simp at h
    subst h
    exact hx.1
  | c :: cs, o, j + 1, c', hx, h => by
    simp only [RdC] at hx
    simp at h
    obtain ⟨v, h1, h2⟩ := RdC.get cs (o + 1) j c' hx.2 h
    exact ⟨v, by rw [← h1]; congr 2; omega, h2⟩
theorem RdC.mk {RO : Bx} {w : World} {b : Nat} : ∀ (cs : List AV) (o : Nat), (∀ j c, cs[j]? = some c → ∃ v, w.cell? ⟨b, o + j, none⟩ = some v ∧ Rd RO w c v) → RdC RO w b o cs
  | [], _, _ => trivial
  | c :: cs, o, h => by
    simp only [RdC]
    refine ⟨h 0 c (by simp), RdC.mk cs (o + 1) fun j c' hc => ?_⟩
    obtain ⟨v, h1, h2⟩ := h (j + 1) c' (by simpa using hc)
    exact ⟨v, by rw [← h1]; congr 2; omega, h2⟩
theorem RdE.get {RO : Bx} {w : World} {k b : Nat} : ∀ (es : List (List AV)) (o i : Nat) (e : List AV), RdE RO w k b o es → es[i]? = some e → e.length = k ∧ RdC RO w b (o + i * k) e
  | [], _, _, _, _, h => by simp at h
  | e :: es, o, 0, e', hx, h => by
    simp only [RdE] at hx
    simp at h
    subst h
    simpa using ⟨hx.1, hx.2.1⟩
  | e :: es, o, i + 1, e', hx, h => by
    simp only [RdE] at hx
    simp at h
    have := RdE.get es (o + k) i e' hx.2.2 h
    rw [Nat.succ_mul, show o + (i * k + k) = o + k + i * k by omega]
    exact this
theorem RdE.mk {RO : Bx} {w : World} {k b : Nat} : ∀ (es : List (List AV)) (o : Nat), (∀ i e, es[i]? = some e → e.length = k ∧ RdC RO w b (o + i * k) e) → RdE RO w k b o es
  | [], _, _ => trivial
  | e :: es, o, h => by
    simp only [RdE]
    have h0 := h 0 e (by simp)
    refine ⟨h0.1, by simpa using h0.2, RdE.mk es (o + k) fun i e' he => ?_⟩
    have := h (i + 1) e' (by simpa using he)
    rw [Nat.succ_mul, show o + (i * k + k) = o + k + i * k by omega] at this
    exact this
def row (R : Rf) (r : Nat) (p : Option (Nat × Nat)) : Option (Bool × Nat × List (List AV)) :=
  match R r with
  | none => none
  | some b =>
    match p with
    | none => some (b.box, b.k, b.es)
    | some (i, j) =>
      if b.box = false then
        match cellAt b.es i j with
        | .tree k es => some (false, k, es)
        | _ => none
      else none
theorem getB_row {R : Rf} {r : BRef} {x : Bool × Nat × List (List AV)} (h : getB R r = some x) : row R r.root r.path = some x := by
  unfold getB at h
  unfold row
  split at h
  · simp at h
  · rename_i b hb
    simp only [hb]
    split at h
    · rename_i hp; simpa [hp] using h
    · rename_i i j hp
      simp only [hp]
      split at h
      · rename_i hc; rw [if_pos hc.1]; exact h
      · simp at h
def genOk (R : Rf) (r : BRef) : Prop := ∀ b, R r.root = some b → r.path ≠ none → r.gen ≤ b.gen
mutual
def V (RO : Bx) (w : World) (R : Rf) (nx : Nat) (L : Lf) : AV → Value → Prop
  | .dead, _ => True
  | .gone, x => x.oneCell' = true
  | .nil _, x => x = .slice none 0 0
  | .sl r k off len, x => r.root < nx ∧ genOk R r ∧ (∃ A c, x = .slice A len c) ∧ ∀ es, getB R r = some (false, k, es) → off + len ≤ es.length ∧
      ∃ A cap, x = .slice A len cap ∧ len ≤ cap ∧ (cap = 0 ∨ ∃ b o T, L r.root r.path = some (b, o, T) ∧ A = some ⟨b, o + off * k, none⟩ ∧ (off + cap) * k ≤ T)
  | .ptr r k idx off, x => r.root < nx ∧ genOk R r ∧ (∃ b o, x = .pointer (some ⟨b, o, none⟩)) ∧ ∀ bx es, getB R r = some (bx, k, es) → idx < es.length →
      ∃ b o T, L r.root r.path = some (b, o, T) ∧ x = .pointer (some ⟨b, o + idx * k + off, none⟩)
  | .agg cs, x => ∃ vs : Array Value, x = .agg vs ∧ VL RO w R nx L cs vs.toList
  | .tup cs, x => ∃ vs : Array Value, x = .tuple vs ∧ VL RO w R nx L cs vs.toList
  | .fn f cs, x => ∃ vs : Array Value, x = .func (.func f) #[] vs ∧ VL RO w R nx L cs vs.toList
  | v, x => Rd RO w v x
def VL (RO : Bx) (w : World) (R : Rf) (nx : Nat) (L : Lf) : List AV → List Value → Prop
  | [], [] => True
  | c :: cs, v :: vs => V RO w R nx L c v ∧ VL RO w R nx L cs vs
  | _, _ => False
end
structure Pres (R : Rf) (nx : Nat) (L : Lf) (R' : Rf) (nx' : Nat) (L' : Lf) : Prop where
  le : nx ≤ nx'
  old : ∀ r b', r < nx → R' r = some b' → ∃ b, R r = some b ∧ b.gen ≤ b'.gen
  keep : ∀ r : BRef, r.root < nx → genOk R r → ∀ bx k es', getB R' r = some (bx, k, es') →
    ∃ es, getB R r = some (bx, k, es) ∧ es.length = es'.length ∧ L' r.root r.path = L r.root r.path
theorem Pres.refl (R : Rf) (nx : Nat) (L : Lf) : Pres R nx L R nx L :=
  ⟨Nat.le_refl _, fun _ b' _ h => ⟨b', h, Nat.le_refl _⟩, fun _ _ _ _ _ es h => ⟨es, h, rfl, rfl⟩⟩
theorem Pres.genOk {R R' : Rf} {nx nx' : Nat} {L L' : Lf} (h : Pres R nx L R' nx' L') {r : BRef} (hr : r.root < nx) (hg : genOk R r) : genOk R' r := by
  intro b' hb' hp
  obtain ⟨b, hb, hle⟩ := h.old r.root b' hr hb'
  exact Nat.le_trans (hg b hb hp) hle
theorem Pres.trans {R R' R'' : Rf} {nx nx' nx'' : Nat} {L L' L'' : Lf} (h : Pres R nx L R' nx' L') (k : Pres R' nx' L' R'' nx'' L'') : Pres R nx L R'' nx'' L'' := by
  refine ⟨Nat.le_trans h.le k.le, fun r b'' hr hb => ?_, fun r hr hg bx kk es'' he => ?_⟩
  · obtain ⟨b', hb', h1⟩ := k.old r b'' (Nat.lt_of_lt_of_le hr h.le) hb
    obtain ⟨b, hb, h2⟩ := h.old r b' hr hb'
    exact ⟨b, hb, Nat.le_trans h2 h1⟩
  · obtain ⟨es', h1, h2, h3⟩ := k.keep r (Nat.lt_of_lt_of_le hr h.le) (h.genOk hr hg) bx kk es'' he
    obtain ⟨es, h4, h5, h6⟩ := h.keep r hr hg bx kk es' h1
    exact ⟨es, h4, h5.trans h2, h3.trans h6⟩
mutual
theorem V.mono {RO : Bx} {w w' : World} {R R' : Rf} {nx nx' : Nat} {L L' : Lf} (hs : Same RO w w') (hp : Pres R nx L R' nx' L') :
    ∀ (v : AV) (x : Value), V RO w R nx L v x → V RO w' R' nx' L' v x
  | .dead, _, _ => by simp [V]
  | .gone, x, h => by simpa [V] using h
  | .nil k, x, h => by simpa [V] using h
  | .sl r k off len, x, h => by
    simp only [V] at h ⊢
    obtain ⟨h1, h2, h0, h3⟩ := h
    refine ⟨Nat.lt_of_lt_of_le h1 hp.le, hp.genOk h1 h2, h0, fun es' he => ?_⟩
    obtain ⟨es, h4, h5, h6⟩ := hp.keep r h1 h2 _ _ _ he
    obtain ⟨h7, A, cap, h8, h9, h10⟩ := h3 es h4
    refine ⟨h5 ▸ h7, A, cap, h8, h9, ?_⟩
    rcases h10 with h10 | ⟨b, o, T, h10, h11⟩
    · exact .inl h10
    · exact .inr ⟨b, o, T, h6.trans h10, h11⟩
  | .ptr r k idx off, x, h => by
    simp only [V] at h ⊢
    obtain ⟨h1, h2, h0, h3⟩ := h
    refine ⟨Nat.lt_of_lt_of_le h1 hp.le, hp.genOk h1 h2, h0, fun bx es' he hi => ?_⟩
    obtain ⟨es, h4, h5, h6⟩ := hp.keep r h1 h2 _ _ _ he
    obtain ⟨b, o, T, h7, h8⟩ := h3 bx es h4 (h5 ▸ hi)
    exact ⟨b, o, T, h6.trans h7, h8⟩
  | .agg cs, x, h => by
    simp only [V] at h ⊢
    obtain ⟨vs, h1, h2⟩ := h
    exact ⟨vs, h1, VL.mono hs hp cs vs.toList h2⟩
  | .tup cs, x, h => by
    simp only [V] at h ⊢
    obtain ⟨vs, h1, h2⟩ := h
    exact ⟨vs, h1, VL.mono hs hp cs vs.toList h2⟩
  | .fn f cs, x, h => by
    simp only [V] at h ⊢
    obtain ⟨vs, h1, h2⟩ := h
    exact ⟨vs, h1, VL.mono hs hp cs vs.toList h2⟩
  | .bool b, x, h => by simp only [V] at h ⊢; exact Rd.mono hs _ _ h
  | .int k n, x, h => by simp only [V] at h ⊢; exact Rd.mono hs _ _ h
  | .str s, x, h => by simp only [V] at h ⊢; exact Rd.mono hs _ _ h
  | .pnil, x, h => by simp only [V] at h ⊢; exact Rd.mono hs _ _ h
  | .inil, x, h => by simp only [V] at h ⊢; exact Rd.mono hs _ _ h
  | .fnil, x, h => by simp only [V] at h ⊢; exact Rd.mono hs _ _ h
  | .tree k es, x, h => by simp only [V] at h ⊢; exact Rd.mono hs _ _ h
  | .rp c o, x, h => by simp only [V] at h ⊢; exact Rd.mono hs _ _ h
theorem VL.mono {RO : Bx} {w w' : World} {R R' : Rf} {nx nx' : Nat} {L L' : Lf} (hs : Same RO w w') (hp : Pres R nx L R' nx' L') :
    ∀ (cs : List AV) (vs : List Value), VL RO w R nx L cs vs → VL RO w' R' nx' L' cs vs
  | [], [], _ => by simp [VL]
  | c :: cs, v :: vs, h => by
    simp only [VL] at h ⊢
    exact ⟨V.mono hs hp c v h.1, VL.mono hs hp cs vs h.2⟩
  | [], _ :: _, h => by simp [VL] at h
  | _ :: _, [], h => by simp [VL] at h
end
structure Mem (w : World) (b o T : Nat) : Prop where
  lt : b < w.heap.size
  cell : ∀ i, i < T → ∃ v, w.cell? ⟨b, o + i, none⟩ = some v
  free : ∀ i, i < T → w.frozen? ⟨b, o + i, none⟩ = false
def cellOk (p : Option (Nat × Nat)) : AV → Prop
  | .tree _ es => p = none ∧ flat es = true
  | .dead => True
  | c => scal c = true
def Cl (RO : Bx) (w : World) (R : Rf) (nx : Nat) (L : Lf) (r : Nat) (bx : Bool) (i j : Nat) (c : AV) (v : Value) : Prop :=
  match bx, c with
  | false, .tree k es => ∃ A cap, v = .slice A es.length cap ∧ es.length ≤ cap ∧ (cap = 0 ∨ ∃ b o T, L r (some (i, j)) = some (b, o, T) ∧ A = some ⟨b, o, none⟩ ∧ cap * k ≤ T)
  | _, c => V RO w R nx L c v
structure RowOk (RO : Bx) (w : World) (R : Rf) (nx : Nat) (L : Lf) (r : Nat) (p : Option (Nat × Nat)) (bx : Bool) (k : Nat) (es : List (List AV)) : Prop where
  shape : ∀ e ∈ es, e.length = k
  cells : bx = false → ∀ i j, i < es.length → j < k → cellOk p (cellAt es i j)
  no : L r p = none → es = []
  yes : ∀ b o T, L r p = some (b, o, T) → ¬ RO.pr b ∧ Mem w b o T ∧ es.length * k ≤ T ∧
    ∀ i j, i < es.length → j < k → ∃ v, w.cell? ⟨b, o + i * k + j, none⟩ = some v ∧ Cl RO w R nx L r bx i j (cellAt es i j) v
variable [Tabs]
structure HRel (RO : Bx) (w : World) (R : Rf) (nx : Nat) (L : Lf) : Prop where
  dom : ∀ r b, R r = some b → r < nx
  rows : ∀ r p bx k es, row R r p = some (bx, k, es) → RowOk RO w R nx L r p bx k es
  inj : ∀ r p x r' p' x' b o T o' T', row R r p = some x → row R r' p' = some x' → L r p = some (b, o, T) → L r' p' = some (b, o', T') → r = r' ∧ p = p'
  ro : ∀ B, RO.pr B → B < w.heap.size
  tb : ∀ B, Tabs.at_ B → RO.pr B ∧ ∃ x, w.heap[B]? = some x ∧ Tabs.ok B x
theorem Cl.box {RO : Bx} {w : World} {R : Rf} {nx : Nat} {L : Lf} {r i j : Nat} {c : AV} {v : Value} : Cl RO w R nx L r true i j c v = V RO w R nx L c v := by
  unfold Cl; split <;> simp_all
theorem Cl.other {RO : Bx} {w : World} {R : Rf} {nx : Nat} {L : Lf} {r i j : Nat} {bx : Bool} {c : AV} {v : Value} (h : ∀ k es, c ≠ .tree k es) : Cl RO w R nx L r bx i j c v = V RO w R nx L c v := by
  unfold Cl; split
  · exact absurd rfl (h _ _)
  · rfl
theorem Cl.mono {RO : Bx} {w w' : World} {R R' : Rf} {nx nx' : Nat} {L L' : Lf} (hs : Same RO w w') (hp : Pres R nx L R' nx' L') {r : Nat} {bx : Bool} {i j : Nat} {c : AV} {v : Value}
    (hl : ∀ k es, c = .tree k es → bx = false → L' r (some (i, j)) = L r (some (i, j))) (h : Cl RO w R nx L r bx i j c v) : Cl RO w' R' nx' L' r bx i j c v := by
  unfold Cl at *
  split
  · rename_i k es
    obtain ⟨A, cap, h1, h2, h3⟩ := h
    refine ⟨A, cap, h1, h2, ?_⟩
    rw [hl k es rfl rfl]
    exact h3
  · rename_i h0
    split at h
    · exact absurd rfl (h0 _ _ rfl)
    · exact V.mono hs hp _ _ h
end Go.Proofs.Ytldmpjoddghdkaa.AI
