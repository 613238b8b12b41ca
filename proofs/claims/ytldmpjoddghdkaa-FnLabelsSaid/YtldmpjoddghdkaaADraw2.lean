import Derived.Test.YtldmpjoddghdkaaADraw
namespace Go.Proofs.Ytldmpjoddghdkaa.AI
set_option linter.all false
open Go.RowKit
set_option autoImplicit false
set_option linter.unusedVariables false
set_option linter.unusedSimpArgs false
variable [Tabs]
structure OkRoot (R : Rf) (L : Lf) (R' : Rf) (nx' : Nat) (L' : Lf) (r : Nat) : Prop where
  lt : r < nx'
  old : ∀ b', R' r = some b' → ∃ b, R r = some b ∧ b.gen ≤ b'.gen
  keep : ∀ rf : BRef, rf.root = r → genOk R rf → ∀ bx k es', getB R' rf = some (bx, k, es') → ∃ es, getB R rf = some (bx, k, es) ∧ es.length = es'.length ∧ L' rf.root rf.path = L rf.root rf.path
theorem OkRoot.of_eq {R R' : Rf} {nx' : Nat} {L L' : Lf} {r : Nat} (h : r < nx') (hR : R' r = R r) (hL : ∀ p, L' r p = L r p) : OkRoot R L R' nx' L' r :=
  ⟨h, fun b' hb => ⟨b', by rw [← hR]; exact hb, Nat.le_refl _⟩, fun rf e hg bx k es' hb => ⟨es', (getB_congr (R := R) (R' := R') (by rw [e]; exact hR)).symm.trans hb, rfl, by rw [e]; exact hL _⟩⟩
theorem OkRoot.of_pres {R R' : Rf} {nx nx' : Nat} {L L' : Lf} (h : Pres R nx L R' nx' L') {r : Nat} (hr : r < nx) : OkRoot R L R' nx' L' r :=
  ⟨Nat.lt_of_lt_of_le hr h.le, fun b' hb => h.old r b' hr hb, fun rf e hg bx k es' hb => h.keep rf (by rw [e]; exact hr) hg bx k es' hb⟩
theorem OkRoot.genOk {R R' : Rf} {nx' : Nat} {L L' : Lf} {rf : BRef} (h : OkRoot R L R' nx' L' rf.root) (hg : genOk R rf) : genOk R' rf := by
  intro b' hb' hp
  obtain ⟨b, hb, hle⟩ := h.old b' hb'
  exact Nat.le_trans (hg b hb hp) hle
theorem Pres.step {R0 R R' : Rf} {base nx nx' : Nat} {L0 L L' : Lf} (h : Pres R0 base L0 R nx L) (hb : base ≤ nx') (hk : ∀ r, r < base → OkRoot R L R' nx' L' r) : Pres R0 base L0 R' nx' L' := by
  refine ⟨hb, fun r b' hr hb' => ?_, fun r hr hg bx k es' he => ?_⟩
  · obtain ⟨b1, e1, e2⟩ := (hk r hr).old b' hb'
    obtain ⟨b0, e3, e4⟩ := h.old r b1 hr e1
    exact ⟨b0, e3, Nat.le_trans e4 e2⟩
  · obtain ⟨es1, e1, e2, e3⟩ := (hk r.root hr).keep r rfl (h.genOk hr hg) bx k es' he
    obtain ⟨es0, e4, e5, e6⟩ := h.keep r hr hg bx k es1 e1
    exact ⟨es0, e4, e5.trans e2, e3.trans e6⟩
mutual
theorem V_on {RO : Bx} {w w' : World} {R R' : Rf} {nx nx' : Nat} {L L' : Lf} (hs : Same RO w w') : ∀ (v : AV) (x : Value), (∀ r ∈ roots v, OkRoot R L R' nx' L' r) → V RO w R nx L v x → V RO w' R' nx' L' v x
  | .dead, _, _, _ => by simp [V]
  | .gone, x, _, h => by simpa [V] using h
  | .nil k, x, _, h => by simpa [V] using h
  | .sl r k off len, x, hr, h => by
    have ok := hr r.root (by simp [roots])
    simp only [V] at h ⊢
    obtain ⟨h1, h2, h0, h3⟩ := h
    refine ⟨ok.lt, ok.genOk h2, h0, fun es' he => ?_⟩
    obtain ⟨es, h4, h5, h6⟩ := ok.keep r rfl h2 _ _ _ he
    obtain ⟨h7, A, cap, h8, h9, h10⟩ := h3 es h4
    refine ⟨h5 ▸ h7, A, cap, h8, h9, ?_⟩
    rcases h10 with h10 | ⟨b, o, T, h10, h11⟩
    · exact .inl h10
    · exact .inr ⟨b, o, T, h6.trans h10, h11⟩
  | .ptr r k idx off, x, hr, h => by
    have ok := hr r.root (by simp [roots])
    simp only [V] at h ⊢
    obtain ⟨h1, h2, h0, h3⟩ := h
    refine ⟨ok.lt, ok.genOk h2, h0, fun bx es' he hi => ?_⟩
    obtain ⟨es, h4, h5, h6⟩ := ok.keep r rfl h2 _ _ _ he
    obtain ⟨b, o, T, h7, h8⟩ := h3 bx es h4 (h5 ▸ hi)
    exact ⟨b, o, T, h6.trans h7, h8⟩
  | .agg cs, x, hr, h => by
    simp only [V] at h ⊢
    obtain ⟨vs, h1, h2⟩ := h
    exact ⟨vs, h1, VL_on hs cs vs.toList (by simpa [roots] using hr) h2⟩
  | .tup cs, x, hr, h => by
    simp only [V] at h ⊢
    obtain ⟨vs, h1, h2⟩ := h
    exact ⟨vs, h1, VL_on hs cs vs.toList (by simpa [roots] using hr) h2⟩
  | .fn f cs, x, hr, h => by
    simp only [V] at h ⊢
    obtain ⟨vs, h1, h2⟩ := h
    exact ⟨vs, h1, VL_on hs cs vs.toList (by simpa [roots] using hr) h2⟩
  | .bool b, x, _, h => by simp only [V] at h ⊢; exact Rd.mono hs _ _ h
  | .int k n, x, _, h => by simp only [V] at h ⊢; exact Rd.mono hs _ _ h
  | .str s, x, _, h => by simp only [V] at h ⊢; exact Rd.mono hs _ _ h
  | .pnil, x, _, h => by simp only [V] at h ⊢; exact Rd.mono hs _ _ h
  | .inil, x, _, h => by simp only [V] at h ⊢; exact Rd.mono hs _ _ h
  | .fnil, x, _, h => by simp only [V] at h ⊢; exact Rd.mono hs _ _ h
  | .tree k es, x, _, h => by simp only [V] at h ⊢; exact Rd.mono hs _ _ h
  | .rp c o, x, _, h => by simp only [V] at h ⊢; exact Rd.mono hs _ _ h
theorem VL_on {RO : Bx} {w w' : World} {R R' : Rf} {nx nx' : Nat} {L L' : Lf} (hs : Same RO w w') : ∀ (cs : List AV) (vs : List Value), (∀ r ∈ rootsL cs, OkRoot R L R' nx' L' r) → VL RO w R nx L cs vs → VL RO w' R' nx' L' cs vs
  | [], [], _, _ => by simp [VL]
  | c :: cs, v :: vs, hr, h => by
    simp only [VL] at h ⊢
    exact ⟨V_on hs c v (fun r hm => hr r (by simp [rootsL, hm])) h.1, VL_on hs cs vs (fun r hm => hr r (by simp [rootsL, hm])) h.2⟩
  | [], _ :: _, _, h => by simp [VL] at h
  | _ :: _, [], _, h => by simp [VL] at h
end
mutual
theorem V_roots {RO : Bx} {w : World} {R : Rf} {nx : Nat} {L : Lf} : ∀ (v : AV) (x : Value), V RO w R nx L v x → ∀ r ∈ roots v, r < nx
  | .sl r k off len, x, h, q, hq => by
    simp only [roots, List.mem_singleton] at hq
    simp only [V] at h
    rw [hq]; exact h.1
  | .ptr r k idx off, x, h, q, hq => by
    simp only [roots, List.mem_singleton] at hq
    simp only [V] at h
    rw [hq]; exact h.1
  | .agg cs, x, h, q, hq => by
    simp only [V] at h
    obtain ⟨vs, h1, h2⟩ := h
    exact VL_roots cs _ h2 q (by simpa [roots] using hq)
  | .tup cs, x, h, q, hq => by
    simp only [V] at h
    obtain ⟨vs, h1, h2⟩ := h
    exact VL_roots cs _ h2 q (by simpa [roots] using hq)
  | .fn f cs, x, h, q, hq => by
    simp only [V] at h
    obtain ⟨vs, h1, h2⟩ := h
    exact VL_roots cs _ h2 q (by simpa [roots] using hq)
  | .dead, _, _, _, hq => by simp [roots] at hq
  | .gone, x, _, _, hq => by simp [roots] at hq
  | .nil k, x, _, _, hq => by simp [roots] at hq
  | .bool b, x, _, _, hq => by simp [roots] at hq
  | .int k n, x, _, _, hq => by simp [roots] at hq
  | .str s, x, _, _, hq => by simp [roots] at hq
  | .pnil, x, _, _, hq => by simp [roots] at hq
  | .inil, x, _, _, hq => by simp [roots] at hq
  | .fnil, x, _, _, hq => by simp [roots] at hq
  | .tree k es, x, _, _, hq => by simp [roots] at hq
  | .rp c o, x, _, _, hq => by simp [roots] at hq
theorem VL_roots {RO : Bx} {w : World} {R : Rf} {nx : Nat} {L : Lf} : ∀ (cs : List AV) (vs : List Value), VL RO w R nx L cs vs → ∀ r ∈ rootsL cs, r < nx
  | [], _, _, _, hq => by simp [rootsL] at hq
  | c :: cs, v :: vs, h, q, hq => by
    simp only [VL] at h
    simp only [rootsL, List.mem_append] at hq
    rcases hq with hq | hq
    · exact V_roots c v h.1 q hq
    · exact VL_roots cs vs h.2 q hq
  | _ :: _, [], h, _, _ => by simp [VL] at h
end
theorem rootsL_mem : ∀ {cs : List AV} {c : AV} {q : Nat}, c ∈ cs → q ∈ roots c → q ∈ rootsL cs
  | [], _, _, h, _ => by simp at h
  | d :: cs, c, q, h, hq => by
    simp only [List.mem_cons] at h
    simp only [rootsL, List.mem_append]
    rcases h with rfl | h
    · exact .inl hq
    · exact .inr (rootsL_mem h hq)
theorem cell_roots {R : Rf} {RO : Bx} {w : World} {nx : Nat} {L : Lf} {r : Nat} {p : Option (Nat × Nat)} {bx : Bool} {k : Nat} {es : List (List AV)} (hr : row R r p = some (bx, k, es)) (hrow : RowOk RO w R nx L r p bx k es) {i j : Nat} (hi : i < es.length) (hj : j < k) {q : Nat} (hq : q ∈ roots (cellAt es i j)) : ∃ b, R r = some b ∧ q ∈ rootsB (some b) := by
  obtain ⟨b, hb⟩ := row_some hr
  refine ⟨b, hb, ?_⟩
  cases bx with
  | false =>
    have hok := hrow.cells rfl i j hi hj
    generalize cellAt es i j = c at hok hq
    exfalso
    cases c <;> simp [cellOk, scal] at hok <;> simp [roots] at hq
  | true =>
    cases p with
    | some ij => rw [row_cell_iff hb] at hr; simp at hr
    | none =>
      rw [row_root hb] at hr
      simp only [Option.some.injEq, Prod.mk.injEq] at hr
      obtain ⟨e1, e2, e3⟩ := hr
      obtain ⟨bx, g, k', es'⟩ := b
      simp only at e1 e2 e3
      subst e1 e3
      simp only [rootsB, List.mem_flatten, List.mem_map]
      refine ⟨rootsL (es'.getD i []), ⟨es'.getD i [], mem_getD hi, rfl⟩, ?_⟩
      have hlen : (es'.getD i []).length = k := shape_getD hrow.shape hi
      exact rootsL_mem (c := cellAt es' i j) (by unfold cellAt; exact mem_getD (by rw [hlen]; exact hj)) hq
section
variable {RO : Bx} {w w' : World} {R R3 : Rf} {nx lo hi : Nat} {L L3 : Lf} (F : Nat → Prop) [DecidablePred F]
def Bx.but (RO : Bx) (R : Rf) (L : Lf) (F : Nat → Prop) : Bx :=
  ⟨RO.rd, fun B => RO.pr B ∨ ∃ r p x o T, ¬ F r ∧ row R r p = some x ∧ L r p = some (B, o, T), fun B hB => .inl (RO.sub B hB)⟩
def part (R : Rf) : Rf := fun r => if F r then R r else none
theorem HRel.view (h : HRel RO w R nx L) (hF : ∀ r, F r → r < lo) (hcl : ∀ r b, F r → R r = some b → ∀ q ∈ rootsB (some b), F q) : HRel (RO.but R L F) w (part F R) lo L := by
  have hrow : ∀ r p x, row (part F R) r p = some x → F r ∧ row R r p = some x := by
    intro r p x hr
    by_cases hf : F r
    · rw [row_congr (R' := part F R) (R := R) (by simp [part, hf])] at hr
      exact ⟨hf, hr⟩
    · rw [row_none (by simp [part, hf])] at hr; simp at hr
  refine ⟨fun r b hb => ?_, fun r p bx k es hr => ?_, fun r p x r' p' x' b o T o' T' h1 h2 h3 h4 => ?_, fun B hB => ?_, fun B hB => ⟨.inl (h.tb B hB).1, (h.tb B hB).2⟩⟩
  · by_cases hf : F r
    · exact hF r hf
    · simp [part, hf] at hb
  · obtain ⟨hf, hr'⟩ := hrow _ _ _ hr
    have h0 := h.rows _ _ _ _ _ hr'
    refine ⟨h0.shape, h0.cells, h0.no, fun b o T hL => ?_⟩
    obtain ⟨h1, h2, h3, h4⟩ := h0.yes b o T hL
    refine ⟨?_, h2, h3, fun i j hi hj => ?_⟩
    · rintro (hB | ⟨r', p', x, o', T', hf', hr2, hL2⟩)
      · exact h1 hB
      · have := (h.inj _ _ _ _ _ _ _ _ _ _ _ hr' hr2 hL hL2).1
        subst this
        exact hf' hf
    · obtain ⟨v, h5, h6⟩ := h4 i j hi hj
      refine ⟨v, h5, ?_⟩
      have hq : ∀ q ∈ roots (cellAt es i j), F q := fun q hq => by
        obtain ⟨b0, hb0, hq'⟩ := cell_roots hr' h0 hi hj hq
        exact hcl r b0 hf hb0 q hq'
      generalize cellAt es i j = c at h6 hq
      have go : V RO w R nx L c v → V (RO.but R L F) w (part F R) lo L c v := fun hv => by
        have hv2 : V RO w (part F R) lo L c v := V_on (Same.refl RO w) c v (fun q hqq => OkRoot.of_eq (hF q (hq q hqq)) (by simp [part, hq q hqq]) (fun _ => rfl)) hv
        exact V_more (RO := RO) (RO' := RO.but R L F) (fun B hB => hB) _ _ hv2
      unfold Cl at h6 ⊢
      split
      · exact h6
      · rename_i hne
        split at h6
        · exact absurd rfl (hne _ _ rfl)
        · exact go h6
  · obtain ⟨_, h1'⟩ := hrow _ _ _ h1
    obtain ⟨_, h2'⟩ := hrow _ _ _ h2
    exact h.inj _ _ _ _ _ _ _ _ _ _ _ h1' h2' h3 h4
  · rcases hB with hB | ⟨r, p, x, o, T, _, hr, hL⟩
    · exact h.ro B hB
    · obtain ⟨bx, k, es⟩ := x
      exact ((h.rows _ _ _ _ _ hr).yes _ _ _ hL).2.1.lt
def joinR (lo hi : Nat) (R R3 : Rf) : Rf := fun r => if F r ∨ (lo ≤ r ∧ r < hi) then R3 r else R r
def joinL (lo hi : Nat) (L L3 : Lf) : Lf := fun r p => if F r ∨ (lo ≤ r ∧ r < hi) then L3 r p else L r p
theorem ok_join (h : HRel RO w R nx L) (hF : ∀ r, F r → r < lo) (hnx : hi ≤ nx) (adv : Adv (RO.but R L F) w (part F R) lo L w' R3 hi L3) {q : Nat} (hq : ¬ (lo ≤ q ∧ q < hi)) (hlt : q < nx) : OkRoot R L (joinR F lo hi R R3) nx (joinL F lo hi L L3) q := by
  by_cases hf : F q
  · have hc : F q ∨ (lo ≤ q ∧ q < hi) := .inl hf
    have hp := OkRoot.of_pres adv.pres (hF q hf)
    have e : part F R q = R q := by simp [part, hf]
    have e3 : joinR F lo hi R R3 q = R3 q := by simp [joinR, hc]
    refine ⟨hlt, fun b' hb => ?_, fun rf er hg bx k es' hb => ?_⟩
    · rw [e3] at hb
      obtain ⟨b, h1, h2⟩ := hp.old b' hb
      exact ⟨b, by rw [← e]; exact h1, h2⟩
    · rw [getB_congr (R := R3) (by rw [er]; exact e3)] at hb
      have hg' : genOk (part F R) rf := by
        intro b hb hpp
        rw [er, e, ← er] at hb
        exact hg b hb hpp
      obtain ⟨es, h1, h2, h3⟩ := hp.keep rf er hg' bx k es' hb
      rw [getB_congr (R := R) (by rw [er]; exact e)] at h1
      exact ⟨es, h1, h2, by rw [← h3, er]; simp [joinL, hc]⟩
  · have hc : ¬ (F q ∨ (lo ≤ q ∧ q < hi)) := by rintro (h | h); exact hf h; exact hq h
    exact OkRoot.of_eq hlt (by simp only [joinR, hc, if_false]) (fun p => by simp only [joinL, hc, if_false])
theorem HRel.merge (h : HRel RO w R nx L) (hF : ∀ r, F r → r < lo) (hlo : lo ≤ hi) (hnx : hi ≤ nx) (hno : ∀ r b, R r = some b → ∀ q ∈ rootsB (some b), ¬ (lo ≤ q ∧ q < hi))
    (adv : Adv (RO.but R L F) w (part F R) lo L w' R3 hi L3) (hcl3 : ∀ r b, R3 r = some b → ∀ q ∈ rootsB (some b), F q ∨ (lo ≤ q ∧ q < hi)) :
    HRel RO w' (joinR F lo hi R R3) nx (joinL F lo hi L L3) ∧ Same RO w w' := by
  have hs : Same RO w w' := fun B hB => adv.same B (.inl hB)
  refine ⟨?_, hs⟩
  have hrowi : ∀ r p, (F r ∨ (lo ≤ r ∧ r < hi)) → row (joinR F lo hi R R3) r p = row R3 r p := fun r p hc => row_congr (by simp [joinR, hc]) p
  have hrowo : ∀ r p, ¬ (F r ∨ (lo ≤ r ∧ r < hi)) → row (joinR F lo hi R R3) r p = row R r p := fun r p hc => row_congr (by simp only [joinR, hc, if_false]) p
  have hLi : ∀ r p, (F r ∨ (lo ≤ r ∧ r < hi)) → joinL F lo hi L L3 r p = L3 r p := fun r p hc => by simp [joinL, hc]
  have hLo : ∀ r p, ¬ (F r ∨ (lo ≤ r ∧ r < hi)) → joinL F lo hi L L3 r p = L r p := fun r p hc => by simp only [joinL, hc, if_false]
  have hmix : ∀ r p x r' p' x' b o T o' T', (F r ∨ (lo ≤ r ∧ r < hi)) → ¬ (F r' ∨ (lo ≤ r' ∧ r' < hi)) → row R3 r p = some x → row R r' p' = some x' → L3 r p = some (b, o, T) → L r' p' = some (b, o', T') → False := by
    intro r p x r' p' x' b o T o' T' hc hc' h1 h2 h3 h4
    obtain ⟨bx, k, es⟩ := x
    exact ((adv.rel.rows _ _ _ _ _ h1).yes _ _ _ h3).1 (.inr ⟨r', p', x', o', T', fun hf => hc' (.inl hf), h2, h4⟩)
  refine ⟨fun r b hb => ?_, fun r p bx k es hr => ?_, fun r p x r' p' x' b o T o' T' h1 h2 h3 h4 => ?_, fun B hB => adv.rel.ro B (.inl hB), h.tbs (fun B hB => adv.same B (.inl hB))⟩
  · by_cases hc : F r ∨ (lo ≤ r ∧ r < hi)
    · simp only [joinR, hc, if_true] at hb
      exact Nat.lt_of_lt_of_le (adv.rel.dom r b hb) hnx
    · simp only [joinR, hc, if_false] at hb
      exact h.dom r b hb
  · by_cases hc : F r ∨ (lo ≤ r ∧ r < hi)
    · rw [hrowi r p hc] at hr
      have h0 := adv.rel.rows _ _ _ _ _ hr
      refine ⟨h0.shape, h0.cells, by rw [hLi r p hc]; exact h0.no, fun b o T hL => ?_⟩
      rw [hLi r p hc] at hL
      obtain ⟨h1, h2, h3, h4⟩ := h0.yes b o T hL
      refine ⟨fun hB => h1 (.inl hB), h2, h3, fun i j hi' hj => ?_⟩
      obtain ⟨v, h5, h6⟩ := h4 i j hi' hj
      refine ⟨v, h5, ?_⟩
      have hq : ∀ q ∈ roots (cellAt es i j), F q ∨ (lo ≤ q ∧ q < hi) := fun q hq => by
        obtain ⟨b0, hb0, hq'⟩ := cell_roots hr h0 hi' hj hq
        exact hcl3 r b0 hb0 q hq'
      generalize cellAt es i j = c at h6 hq
      have go : V (RO.but R L F) w' R3 hi L3 c v → V RO w' (joinR F lo hi R R3) nx (joinL F lo hi L L3) c v := fun hv => by
        have hv2 : V RO w' R3 hi L3 c v := V_more (RO := RO.but R L F) (RO' := RO) (fun B hB => hB) _ _ hv
        refine V_on (Same.refl RO w') c v (fun q hqq => OkRoot.of_eq ?_ ?_ (fun p => ?_)) hv2
        · rcases hq q hqq with h' | h'
          · have := hF q h'; omega
          · omega
        · simp [joinR, hq q hqq]
        · simp [joinL, hq q hqq]
      unfold Cl at h6 ⊢
      split
      · rw [hLi r _ hc]; exact h6
      · rename_i hne
        split at h6
        · exact absurd rfl (hne _ _ rfl)
        · exact go h6
    · rw [hrowo r p hc] at hr
      have h0 := h.rows _ _ _ _ _ hr
      refine ⟨h0.shape, h0.cells, by rw [hLo r p hc]; exact h0.no, fun b o T hL => ?_⟩
      rw [hLo r p hc] at hL
      obtain ⟨h1, h2, h3, h4⟩ := h0.yes b o T hL
      have hB : (RO.but R L F).pr b := .inr ⟨r, p, _, o, T, fun hf => hc (.inl hf), hr, hL⟩
      have hb := adv.same b hB
      refine ⟨h1, ⟨Nat.lt_of_lt_of_le h2.lt adv.size, fun i hi' => by rw [cell_of hb]; exact h2.cell i hi', fun i hi' => by rw [frozen_of hb]; exact h2.free i hi'⟩, h3, fun i j hi' hj => ?_⟩
      obtain ⟨v, h5, h6⟩ := h4 i j hi' hj
      refine ⟨v, by rw [cell_of hb]; exact h5, ?_⟩
      have hq : ∀ q ∈ roots (cellAt es i j), ¬ (lo ≤ q ∧ q < hi) := fun q hq => by
        obtain ⟨b0, hb0, hq'⟩ := cell_roots hr h0 hi' hj hq
        exact hno r b0 hb0 q hq'
      generalize cellAt es i j = c at h6 hq
      have go : V RO w R nx L c v → V RO w' (joinR F lo hi R R3) nx (joinL F lo hi L L3) c v := fun hv =>
        V_on hs c v (fun q hqq => ok_join F h hF hnx adv (hq q hqq) (V_roots c v hv q hqq)) hv
      unfold Cl at h6 ⊢
      split
      · rw [hLo r _ hc]; exact h6
      · rename_i hne
        split at h6
        · exact absurd rfl (hne _ _ rfl)
        · exact go h6
  · by_cases hc : F r ∨ (lo ≤ r ∧ r < hi)
    · by_cases hc' : F r' ∨ (lo ≤ r' ∧ r' < hi)
      · rw [hrowi r p hc] at h1
        rw [hrowi r' p' hc'] at h2
        rw [hLi r p hc] at h3
        rw [hLi r' p' hc'] at h4
        exact adv.rel.inj _ _ _ _ _ _ _ _ _ _ _ h1 h2 h3 h4
      · rw [hrowi r p hc] at h1
        rw [hrowo r' p' hc'] at h2
        rw [hLi r p hc] at h3
        rw [hLo r' p' hc'] at h4
        exact (hmix _ _ _ _ _ _ _ _ _ _ _ hc hc' h1 h2 h3 h4).elim
    · by_cases hc' : F r' ∨ (lo ≤ r' ∧ r' < hi)
      · rw [hrowo r p hc] at h1
        rw [hrowi r' p' hc'] at h2
        rw [hLo r p hc] at h3
        rw [hLi r' p' hc'] at h4
        exact (hmix _ _ _ _ _ _ _ _ _ _ _ hc' hc h2 h1 h4 h3).elim
      · rw [hrowo r p hc] at h1
        rw [hrowo r' p' hc'] at h2
        rw [hLo r p hc] at h3
        rw [hLo r' p' hc'] at h4
        exact h.inj _ _ _ _ _ _ _ _ _ _ _ h1 h2 h3 h4
end
end Go.Proofs.Ytldmpjoddghdkaa.AI
