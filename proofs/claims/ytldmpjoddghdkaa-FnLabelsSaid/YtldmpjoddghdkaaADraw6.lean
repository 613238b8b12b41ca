import Derived.Test.YtldmpjoddghdkaaADraw5
namespace Go.Proofs.Ytldmpjoddghdkaa.AI
set_option linter.all false
open Go.RowKit
set_option autoImplicit false
set_option linter.unusedVariables false
set_option linter.unusedSimpArgs false
variable [Tabs]
def opTmps (r : Go.Proofs.Ytldmpjoddghdkaa.AI.RO) : List Nat := (opnds r).filterMap fun | .t n => some n | _ => none
structure InvS (RO : Bx) (w0 : World) (R0 : Rf) (base : Nat) (L0 : Lf) (N : Nat) (rs : List (Nat × ROp)) (st : Nat → St) (mk : Nat → Mark) (S : Nat → Bool) (a : Act) (w : World) (L : Lf) : Prop where
  rel : HRel RO w (RS rs st mk S) (st rs.length).hp.length L
  pres : Pres R0 base L0 (RS rs st mk S) (st rs.length).hp.length L
  same : Same RO w0 w
  size : w0.heap.size ≤ w.heap.size
  os : w.os = w0.os
  tape : w.tape = w0.tape
  output : w.output = w0.output
  ev : ∀ t, V RO w (RS rs st mk S) (st rs.length).hp.length L (TS rs st S t) (a.tmps.getD t undef)
  knT : ∀ t, ∀ q ∈ roots (TS rs st S t), Kn rs st mk S q
  knB : ∀ r b, RS rs st mk S r = some b → Kn rs st mk S r ∧ ∀ q ∈ rootsB (some b), Kn rs st mk S q
  tmps : a.tmps.size = N
  defers : a.defers = []
section
variable {P : Program} {ctx : Ctx} {N : Nat} {ops : Array Oper} {rs : List (Nat × ROp)} {ah : List (List Nat)} {pairs : List (Nat × Nat)} {st : Nat → St} {mk : Nat → Mark}
variable {RO : Bx} {w0 : World} {R0 : Rf} {base : Nat} {L0 : Lf}
theorem InvS.next (C : Canon P ctx N ops rs ah pairs st mk) (hbase : base ≤ (st 0).hp.length) {S : Nat → Bool} {j : Nat} (h : Ready rs.length ah S j) {rj : Nat × ROp} (hj : rs[j]? = some rj) {a : Act} {w : World} {L : Lf} (hi : InvS RO w0 R0 base L0 N rs st mk S a w L)
    {v : AV} (hv : (st (j + 1)).tm = put (st j).tm rj.2.dst v) (hdst : dstOk N rj.2.dst = true) {x : Value} {w' : World} {L' : Lf}
    (h1 : HRel RO w' (RS rs st mk (add S j)) (st rs.length).hp.length L') (h2 : Same RO w w') (h3 : w.heap.size ≤ w'.heap.size) (h4 : w'.os = w.os) (h5 : w'.tape = w.tape) (h6 : w'.output = w.output)
    (hok : ∀ q, q < (st rs.length).hp.length → Kn rs st mk S q → OkRoot (RS rs st mk S) L (RS rs st mk (add S j)) (st rs.length).hp.length L' q)
    (hx : V RO w' (RS rs st mk (add S j)) (st rs.length).hp.length L' v x) (hkv : ∀ q ∈ roots v, Kn rs st mk (add S j) q)
    (hkB : ∀ r b, RS rs st mk (add S j) r = some b → Kn rs st mk (add S j) r ∧ ∀ q ∈ rootsB (some b), Kn rs st mk (add S j) q) : InvS RO w0 R0 base L0 N rs st mk (add S j) (a.put rj.2.dst x) w' L' := by
  refine ⟨h1, ?_, hi.same.trans h2, Nat.le_trans hi.size h3, h4.trans hi.os, h5.trans hi.tape, h6.trans hi.output, fun t => ?_, fun t q hq => ?_, hkB, by rw [put_size]; exact hi.tmps, by rw [put_defers]; exact hi.defers⟩
  · refine hi.pres.step (Nat.le_trans hi.pres.le (Nat.le_refl _)) fun r hr => hok r (Nat.lt_of_lt_of_le hr hi.pres.le) (.inl (Nat.lt_of_lt_of_le hr hbase))
  · rw [C.TS_add h hj hv t]
    by_cases e : rj.2.dst = some t
    · rw [if_pos e, e]
      have ht : t < a.tmps.size := by rw [hi.tmps]; rw [e] at hdst; simpa [dstOk] using hdst
      simpa [Act.put, Array.getD, ht] using hx
    · rw [if_neg e]
      have hold : (a.put rj.2.dst x).tmps.getD t undef = a.tmps.getD t undef := by
        cases hd : rj.2.dst with
        | none => simp [Act.put]
        | some d =>
          have : d ≠ t := fun e' => e (by rw [hd, e'])
          simp [Act.put, Array.getElem?_setIfInBounds, this]
      rw [hold]
      exact V_on h2 _ _ (fun q hq => hok q (V_roots _ _ (hi.ev t) q hq) (hi.knT t q hq)) (hi.ev t)
  · rw [C.TS_add h hj hv t] at hq
    by_cases e : rj.2.dst = some t
    · rw [if_pos e] at hq; exact hkv q hq
    · rw [if_neg e] at hq; exact (hi.knT t q hq).add
def tmS (rs : List (Nat × ROp)) (st : Nat → St) (S : Nat → Bool) (r : Go.Proofs.Ytldmpjoddghdkaa.AI.RO) : List (Nat × AV) := (opTmps r).map fun t => (t, TS rs st S t)
theorem mem_opTmps {r : Go.Proofs.Ytldmpjoddghdkaa.AI.RO} {t : Nat} (h : X.t t ∈ opnds r) : t ∈ opTmps r := List.mem_filterMap.2 ⟨.t t, h, rfl⟩
theorem of_opTmps {r : Go.Proofs.Ytldmpjoddghdkaa.AI.RO} {t : Nat} (h : t ∈ opTmps r) : X.t t ∈ opnds r := by
  obtain ⟨x, h1, h2⟩ := List.mem_filterMap.1 h
  cases x <;> simp at h2
  subst h2; exact h1
theorem tmS_ev {S : Nat → Bool} (r : Go.Proofs.Ytldmpjoddghdkaa.AI.RO) {RO : Bx} {w : World} {R : Rf} {nx : Nat} {L : Lf} {a : Act} (h : ∀ t, V RO w R nx L (TS rs st S t) (a.tmps.getD t undef)) : EV RO w R nx L (tmS rs st S r) a := by
  intro t
  unfold tmS
  rw [lk_tab]
  split
  · exact h t
  · simp [V]
theorem tmS_same (C : Canon P ctx N ops rs ah pairs st mk) {S : Nat → Bool} {j : Nat} (h : Ready rs.length ah S j) {rj : Nat × ROp} (hj : rs[j]? = some rj) : ∀ x ∈ opnds rj.2.op, Go.Proofs.Ytldmpjoddghdkaa.AI.ev (st j).tm x = Go.Proofs.Ytldmpjoddghdkaa.AI.ev (tmS rs st S rj.2.op) x := by
  intro x hx
  cases x with
  | t n =>
    simp only [Go.Proofs.Ytldmpjoddghdkaa.AI.ev, tmS]
    rw [lk_tab, if_pos (mem_opTmps hx)]
    refine (C.looks h hj ?_).symm
    simp only [tmpsOf, List.mem_append]
    exact .inl (.inl (mem_opTmps hx))
  | c v => rfl
  | fn f => rfl
theorem rootsL_iff {l : List AV} {q : Nat} : q ∈ rootsL l ↔ ∃ c ∈ l, q ∈ roots c := by
  induction l with
  | nil => simp [rootsL]
  | cons c l ih => simp [rootsL, ih]
theorem opnd_roots (C : Canon P ctx N ops rs ah pairs st mk) {S : Nat → Bool} {j : Nat} {rj : Nat × ROp} (hj : rs[j]? = some rj) {q : Nat} (hq : q ∈ rootsL ((opnds rj.2.op).map (Go.Proofs.Ytldmpjoddghdkaa.AI.ev (tmS rs st S rj.2.op)))) : ∃ t, t ∈ opTmps rj.2.op ∧ q ∈ roots (TS rs st S t) := by
  rw [rootsL_iff] at hq
  obtain ⟨c, h1, h2⟩ := hq
  obtain ⟨x, hx, rfl⟩ := List.mem_map.1 h1
  cases x with
  | t n =>
    simp only [Go.Proofs.Ytldmpjoddghdkaa.AI.ev, tmS] at h2
    rw [lk_tab, if_pos (mem_opTmps hx)] at h2
    exact ⟨n, mem_opTmps hx, h2⟩
  | c v =>
    have hc := C.consts j rj hj
    simp only [constsOk, Bool.and_eq_true, List.all_eq_true] at hc
    have := hc.2 _ hx
    simp only [Go.Proofs.Ytldmpjoddghdkaa.AI.ev] at h2
    simp at this
    rw [this] at h2; simp at h2
  | fn f => simp [Go.Proofs.Ytldmpjoddghdkaa.AI.ev, roots, rootsL] at h2
theorem tmS_roots {S : Nat → Bool} {r : Go.Proofs.Ytldmpjoddghdkaa.AI.RO} {F : Nat → Prop} (h : ∀ t ∈ opTmps r, ∀ q ∈ roots (TS rs st S t), F q) : ∀ t, ∀ q ∈ roots (lk (tmS rs st S r) t), F q := by
  intro t q hq
  unfold tmS at hq
  rw [lk_tab] at hq
  split at hq
  · rename_i ht; exact h t ht q hq
  · simp [roots] at hq
theorem go_part (hctx : CtxOk P ctx) (C : Canon P ctx N ops rs ah pairs st mk) (hbase : base ≤ (st 0).hp.length) {S : Nat → Bool} {j : Nat} (h : Ready rs.length ah S j) {rj : Nat × ROp} (hj : rs[j]? = some rj) {a : Act} {w : World} {L : Lf} (hi : InvS RO w0 R0 base L0 N rs st mk S a w L)
    {v : AV} (hv : (st (j + 1)).tm = put (st j).tm rj.2.dst v) (hdst : dstOk N rj.2.dst = true) {o : Oper} (hod : o.dst = rj.2.dst) (hres : resolveOp P o = some rj.2.op)
    (F : Nat → Prop) [DecidablePred F] (hF : ∀ r, F r → r < (mk j).lo) (hcl : ∀ r b, F r → RS rs st mk S r = some b → ∀ q ∈ rootsB (some b), F q)
    {M M' : Hp} (hM : ∀ r, root? M r = part F (RS rs st mk S) r) (hlen : M.length = (mk j).lo) (hlen' : M'.length = (mk j).hi)
    (hroots : ∀ t ∈ opTmps rj.2.op, ∀ q ∈ roots (TS rs st S t), F q) (hst : stepC ctx (Go.Proofs.Ytldmpjoddghdkaa.AI.ev (st j).tm) M rj.2.op = some (v, M'))
    (hcl3 : ∀ w3 x L3, Adv (RO.but (RS rs st mk S) L F) w (part F (RS rs st mk S)) (mk j).lo L w3 (root? M') (mk j).hi L3 → V (RO.but (RS rs st mk S) L F) w3 (root? M') (mk j).hi L3 v x → (∀ q ∈ roots v, F q ∨ ((mk j).lo ≤ q ∧ q < (mk j).hi)) ∧ ∀ r b, root? M' r = some b → ∀ q ∈ rootsB (some b), F q ∨ ((mk j).lo ≤ q ∧ q < (mk j).hi))
    (hR : ∀ q, joinR F (mk j).lo (mk j).hi (RS rs st mk S) (root? M') q = RS rs st mk (add S j) q) (hKn : ∀ q, F q ∨ ((mk j).lo ≤ q ∧ q < (mk j).hi) → Kn rs st mk (add S j) q)
    {K : Act → World → Prop} {Q : Exit → Act → World → Prop} (hK : ∀ a' w' L', InvS RO w0 R0 base L0 N rs st mk (add S j) a' w' L' → K a' w') : o.wp P a w K Q := by
  have hRf : joinR F (mk j).lo (mk j).hi (RS rs st mk S) (root? M') = RS rs st mk (add S j) := funext hR
  have hlt := h.lt
  obtain ⟨l1, l2, l3⟩ := C.lens hj
  have hnx : (mk j).hi ≤ (st rs.length).hp.length := by rw [l2]; exact C.mono (by omega) (Nat.le_refl _)
  refine part_step hctx F hi.rel hF hcl hM hlen hlen' l3 hnx (fun r b hb q hq => C.fresh h ((hi.knB r b hb).2 q hq)) (tmS_ev rj.2.op hi.ev) (tmS_roots hroots) hres (v := v) (M' := M') ?_ hcl3 ?_
  · rw [← stepC_congr (tmS_same C h hj)]; exact hst
  · intro x w' L' k1 k2 k3 k4 k5 k6 k7 k8 k9 k10
    rw [hRf] at k1 k8 k10
    rw [hod]
    refine hK _ _ L' (InvS.next C hbase h hj hi hv hdst k1 k2 k3 k4 k5 k6 (fun q hq hk => k8 q hq (C.fresh h hk)) k10 (fun q hq => hKn q (k9 q hq)) (fun r b hb => ?_))
    rw [← hR r] at hb
    by_cases hc : F r ∨ ((mk j).lo ≤ r ∧ r < (mk j).hi)
    · simp only [joinR, hc, if_true] at hb
      exact ⟨hKn r hc, fun q hq => hKn q (k7 r b hb q hq)⟩
    · simp only [joinR, hc, if_false] at hb
      obtain ⟨e1, e2⟩ := hi.knB r b hb
      exact ⟨e1.add, fun q hq => (e2 q hq).add⟩
theorem root_list {R : Rf} {n : Nat} (h : ∀ r b, R r = some b → r < n) : root? ((List.range n).map R) = R := by
  funext r
  unfold root?
  rw [List.getElem?_map]
  by_cases hr : r < n
  · simp [List.getElem?_range hr]
  · rw [List.getElem?_eq_none (by simpa using hr)]
    cases e : R r with
    | none => rfl
    | some b => exact absurd (h r b e) hr
theorem drawO_sound (hctx : CtxOk P ctx) (C : Canon P ctx N ops rs ah pairs st mk) (hbase : base ≤ (st 0).hp.length) {S : Nat → Bool} {j : Nat} (h : Ready rs.length ah S j) {a : Act} {w : World} {L : Lf} (hi : InvS RO w0 R0 base L0 N rs st mk S a w L)
    {K : Act → World → Prop} {Q : Exit → Act → World → Prop} (hK : ∀ a' w' L', InvS RO w0 R0 base L0 N rs st mk (add S j) a' w' L' → K a' w') : wpOp P ops Q j K a w := by
  have hlt := h.lt
  have hjo : j < ops.size := by rw [← C.len]; exact hlt
  have ho : ops[j]? = some ops[j] := by simp [hjo]
  generalize ops[j] = o at ho
  obtain ⟨rj, hj, hr⟩ := C.res j o ho
  obtain ⟨v, hv, way⟩ := C.way hj
  obtain ⟨l1, l2, l3⟩ := C.lens hj
  obtain ⟨k, r⟩ := rj
  simp only at hr hv way
  have hres : resolveOp P o = some r.op ∧ dstOk N o.dst = true ∧ r.dst = o.dst ∧ ((o.guard = none ∧ r.guard = none) ∨ ∃ i want d, o.guard = some (i, want) ∧ (ops[i]?).bind (·.dst) = some d ∧ d < N ∧ r.guard = some (d, want)) := by
    unfold resolveO at hr
    split at hr
    · simp at hr
    · rename_i ro hro
      split at hr
      · rename_i hdst
        split at hr
        · rename_i hg
          simp only [Option.some.injEq] at hr
          subst hr
          exact ⟨hro, hdst, rfl, .inl ⟨hg, rfl⟩⟩
        · rename_i i want hg
          split at hr
          · rename_i d hd
            split at hr
            · rename_i hdN
              simp only [Option.some.injEq] at hr
              subst hr
              exact ⟨hro, hdst, rfl, .inr ⟨i, want, d, hg, hd, hdN, rfl⟩⟩
            · simp at hr
          · simp at hr
      · simp at hr
  obtain ⟨hro, hdst, hdd, hguard⟩ := hres
  have hdst' : dstOk N r.dst = true := by rw [hdd]; exact hdst
  -- the guard
  have hgT : ∀ t want, r.guard = some (t, want) → TS rs st S t = lk (st j).tm t := fun t want hg => C.looks h hj (by simp [tmpsOf, hg])
  have hlook : ∀ i want d, o.guard = some (i, want) → (ops[i]?).bind (·.dst) = some d → d < N → (∀ b, lk (st j).tm d = .bool b → r.guard = some (d, want) → yielded ops a.tmps i = some b) ∧ (lk (st j).tm d = .tup [] → r.guard = some (d, want) → yielded ops a.tmps i = none) := by
    intro i want d hg hd hdN
    have hget : a.tmps[d]? = some (a.tmps.getD d undef) := by
      have : d < a.tmps.size := by rw [hi.tmps]; exact hdN
      simp [Array.getD, this]
    refine ⟨fun b hb hrg => ?_, fun hb hrg => ?_⟩
    · have hVd := hi.ev d
      rw [hgT d want hrg, hb] at hVd
      simp only [yielded, hd, Option.bind_some, hget, V_bool hVd]
    · have hVd := hi.ev d
      rw [hgT d want hrg, hb] at hVd
      simp only [V] at hVd
      obtain ⟨vs, e, hvs⟩ := hVd
      simp only [yielded, hd, Option.bind_some, hget, e]
  unfold wpOp
  simp only [ho]
  cases way with
  | skip t want hg hw hvv hp hm =>
    have hwant : Region.wanted o (yielded ops a.tmps) = false := by
      rcases hguard with ⟨_, h2⟩ | ⟨i, want', d, h1, h2, h3, h4⟩
      · rw [hg] at h2; simp at h2
      · rw [hg] at h4
        simp only [Option.some.injEq, Prod.mk.injEq] at h4
        obtain ⟨rfl, rfl⟩ := h4
        obtain ⟨e1, e2⟩ := hlook i want t h1 h2 h3
        rcases hw with ⟨b, hb, hne⟩ | hb
        · simp [Region.wanted, h1, e1 b hb hg, hne]
        · simp [Region.wanted, h1, e2 hb hg]
    rw [hwant]
    simp only [Bool.false_eq_true, if_false]
    have hWr : ∀ q, Wr rs mk q j = false := by
      intro q
      simp only [Wr, hj, Wb, hm, has, Bool.and_false, Bool.false_or, Bool.false_and, Bool.or_false, decide_eq_false_iff_not]
      omega
    have hRS : RS rs st mk (add S j) = RS rs st mk S := funext fun q => by rw [C.RS_add h hj q, hWr q]; simp
    rw [← hdd]
    refine hK _ _ L (InvS.next C hbase h hj hi hv hdst' (by rw [hRS]; exact hi.rel) (Same.refl _ _) (Nat.le_refl _) rfl rfl rfl (fun q hq _ => OkRoot.of_eq hq (by rw [hRS]) fun _ => rfl) ?_ ?_ ?_)
    · subst hvv; simp only [V]; exact ⟨#[], rfl, by simp [VL]⟩
    · subst hvv; simp [roots, rootsL]
    · rw [hRS]
      intro q b hb
      obtain ⟨e1, e2⟩ := hi.knB q b hb
      exact ⟨e1.add, fun q hq => (e2 q hq).add⟩
  | go hg hd =>
    have hwant : Region.wanted o (yielded ops a.tmps) = true := by
      rcases hguard with ⟨h1, _⟩ | ⟨i, want', d, h1, h2, h3, h4⟩
      · simp [Region.wanted, h1]
      · rcases hg with hg | ⟨t, want, hg, hb⟩
        · rw [hg] at h4; simp at h4
        · rw [hg] at h4
          simp only [Option.some.injEq, Prod.mk.injEq] at h4
          obtain ⟨rfl, rfl⟩ := h4
          obtain ⟨e1, e2⟩ := hlook i want t h1 h2 h3
          simp [Region.wanted, h1, e1 want hb hg]
    rw [hwant, if_pos rfl]
    left
    unfold stepD at hd
    simp only at hd
    have hkn := C.heapy1 hj
    simp only at hkn
    split at hd
    · -- it looks at no row
      have hnh : heapy r.op = false := hkn.1.2 rfl
      split at hd
      · rename_i v' hp' hst
        simp only [Option.some.injEq, Prod.mk.injEq] at hd
        obtain ⟨rfl, hhp, hm⟩ := hd
        have hWr : ∀ q, Wr rs mk q j = false := (C.quiet hj (.inl hnh)).1
        have hRS : RS rs st mk (add S j) = RS rs st mk S := funext fun q => by rw [C.RS_add h hj q, hWr q]; simp
        have hlist := root_list hi.rel.dom
        have hst2 : stepC ctx (Go.Proofs.Ytldmpjoddghdkaa.AI.ev (tmS rs st S r.op)) ((List.range (st rs.length).hp.length).map (RS rs st mk S)) r.op = some (v', (List.range (st rs.length).hp.length).map (RS rs st mk S)) := by
          rw [← stepC_congr (tmS_same C h hj)]
          exact (nonheapyC hnh hst).2 _
        have hrel : HRel RO w (root? ((List.range (st rs.length).hp.length).map (RS rs st mk S))) ((List.range (st rs.length).hp.length).map (RS rs st mk S)).length L := by
          rw [hlist]; simpa using hi.rel
        have hev : EV RO w (root? ((List.range (st rs.length).hp.length).map (RS rs st mk S))) ((List.range (st rs.length).hp.length).map (RS rs st mk S)).length L (tmS rs st S r.op) a := by
          rw [hlist]; simpa using tmS_ev r.op hi.ev
        refine stepC_sound hctx hrel hev hro hst2 (fun x w' L' adv hx => ?_)
        rw [hlist] at adv hx
        simp only [List.length_map, List.length_range] at adv hx
        rw [← hdd]
        refine hK _ _ L' (InvS.next C hbase h hj hi hv hdst' (by rw [hRS]; exact adv.rel) adv.same adv.size adv.os adv.tape adv.output (fun q hq _ => by rw [hRS]; exact OkRoot.of_pres adv.pres hq) (by rw [hRS]; exact hx) ?_ ?_)
        · intro q hq
          have hst3 : step (Go.Proofs.Ytldmpjoddghdkaa.AI.ev (tmS rs st S r.op)) ((List.range (st rs.length).hp.length).map (RS rs st mk S)) r.op = some (v', (List.range (st rs.length).hp.length).map (RS rs st mk S)) := by
            cases hop : r.op <;> first | (rw [hop] at hnh; simp [heapy] at hnh; done) | (rw [hop] at hst2; simpa only [stepC] using hst2)
          have hz : zeroOk r.op = true := by
            have := C.consts j _ hj
            simp only [constsOk, Bool.and_eq_true] at this
            exact this.1
          obtain ⟨t, _, ht⟩ := opnd_roots C hj (nonheapy_roots hnh hz hst3 q hq)
          exact (hi.knT t q ht).add
        · rw [hRS]
          intro q b hb
          obtain ⟨e1, e2⟩ := hi.knB q b hb
          exact ⟨e1.add, fun q hq => (e2 q hq).add⟩
      · simp at hd
    · -- nothing comes between
      have hread : ∀ q, RS rs st mk S q = root? (st j).hp q := fun q => C.reads h hj (.inl rfl)
      have hpart : ∀ q, root? (st j).hp q = part (fun q => q < (mk j).lo) (RS rs st mk S) q := by
        intro q
        unfold part
        split
        · exact (hread q).symm
        · rename_i hc; exact root_out (by rw [← l1]; omega)
      have hcl : ∀ q b, q < (mk j).lo → RS rs st mk S q = some b → ∀ p ∈ rootsB (some b), p < (mk j).lo := fun q b _ hb p hp => C.wideLt h hj rfl ((hi.knB q b hb).2 p hp)
      have hrt : ∀ t ∈ opTmps r.op, ∀ q ∈ roots (TS rs st S t), q < (mk j).lo := fun t _ q hq => C.wideLt h hj rfl (hi.knT t q hq)
      have hnone : ∀ q, (mk j).lo ≤ q → RS rs st mk S q = none := fun q hq => by rw [hread]; exact root_out (by omega)
      have hcov : ∀ q, q < (mk j).hi → q < (mk j).lo ∨ ((mk j).lo ≤ q ∧ q < (mk j).hi) := fun q hq => by omega
      split at hd
      · rename_i v' hp' hst
        split at hd
        · rename_i hs
          simp only [Option.some.injEq, Prod.mk.injEq] at hd
          obtain ⟨rfl, hhp, hm⟩ := hd
          have e := still_hpC hs hst
          subst e
          have hlh : (mk j).lo = (mk j).hi := by rw [← hm]
          refine go_part hctx C hbase h hj hi hv hdst' hdd.symm hro (fun q => q < (mk j).lo) (fun _ hq => hq) hcl hpart l1.symm (by rw [← hlh]; exact l1.symm) hrt hst (fun w3 x L3 adv hx => ⟨fun q hq => hcov q (V_roots _ _ hx q hq), fun q b hb p hp => hcov p (adv.rel.rootsB_lt hb hp)⟩) (fun q => ?_) (fun q hq => C.wideKn h hj rfl (by omega)) hK
          rw [C.RS_add h hj q, (C.quiet hj (.inr hs)).1 q]
          simp only [Bool.false_eq_true, if_false, joinR]
          split
          · exact (hread q).symm
          · rfl
        · rename_i hs
          split at hd
          · rename_i hle
            simp only [Option.some.injEq, Prod.mk.injEq] at hd
            obtain ⟨rfl, hhp, hm⟩ := hd
            have hhi : hp'.length = (mk j).hi := by rw [← hm]
            refine go_part hctx C hbase h hj hi hv hdst' hdd.symm hro (fun q => q < (mk j).lo) (fun _ hq => hq) hcl hpart l1.symm hhi hrt hst (fun w3 x L3 adv hx => ⟨fun q hq => hcov q (V_roots _ _ hx q hq), fun q b hb p hp => hcov p (adv.rel.rootsB_lt hb hp)⟩) (fun q => ?_) (fun q hq => C.wideKn h hj rfl (by omega)) hK
            have hW : Wr rs mk q j = true := by simp only [Wr, hj, Wb, ← hm]; simp
            rw [C.RS_add h hj q, if_pos hW, ← hhp]
            simp only [joinR]
            split
            · rfl
            · rename_i hc
              rw [hnone q (by omega), root_out (by omega)]
          · simp at hd
      · simp at hd
    · -- on what it reaches
      rename_i hk0 hk1
      have hk : k = 2 := by
        have := C.kind j _ hj
        simp only [kindOf'] at this
        split at this
        · exact absurd this hk0
        · split at this
          · exact this
          · exact absurd this hk1
      subst hk
      split at hd
      · rename_i hcond
        simp only [Bool.and_eq_true, List.all_eq_true] at hcond
        obtain ⟨⟨hc1, hc2⟩, hc3⟩ := hcond
        split at hd
        · rename_i v' hp' hst
          have main : (mk j).f = disc (st j).hp 0 200 (rootsL ((opnds r.op).map (Go.Proofs.Ytldmpjoddghdkaa.AI.ev (st j).tm))) [] → hp'.length = (mk j).hi →
              (∀ q ∈ roots v', q ∈ (mk j).f ∨ ((mk j).lo ≤ q ∧ q < (mk j).hi)) → (∀ p b, root? hp' p = some b → (p ∈ (mk j).f ∨ (mk j).lo ≤ p) → ∀ q ∈ rootsB (some b), q ∈ (mk j).f ∨ ((mk j).lo ≤ q ∧ q < (mk j).hi)) →
              v' = v → (∀ q, joinR (fun q => q ∈ (mk j).f) (mk j).lo (mk j).hi (RS rs st mk S) (root? hp') q = RS rs st mk (add S j) q) → o.wp P a w K Q := by
            intro hmf hhi hrv hrc hvv hR
            subst hvv
            rw [← hmf] at hc1 hc2 hc3 hst
            have hread : ∀ q, q ∈ (mk j).f → RS rs st mk S q = root? (st j).hp q := fun q hq => C.reads h hj (.inr ⟨rfl, hq⟩)
            have hlive : ∀ q, q ∈ (mk j).f → ∃ b, root? (st j).hp q = some b := fun q hq => Option.isSome_iff_exists.1 (hc3 q hq)
            have hFlo : ∀ q, q ∈ (mk j).f → q < (mk j).lo := fun q hq => by
              obtain ⟨b, hb⟩ := hlive q hq
              rw [l1]; exact root_lt hb
            have ham : ∀ {l : List Nat} {q : Nat}, among (mk j).f 0 0 l = true → q ∈ l → q ∈ (mk j).f := fun hh hq => by
              rcases among_iff hh hq with h' | h'
              · exact has_iff.1 h'
              · omega
            refine go_part hctx C hbase h hj hi hv hdst' hdd.symm hro (fun q => q ∈ (mk j).f) hFlo ?_ (M := mask (mk j).f 0 (st j).hp) (M' := hp') ?_ (by rw [mask_length]; exact l1.symm) hhi ?_ hst ?_ hR ?_ hK
            · intro p b hp hb q hq
              rw [hread p hp] at hb
              exact ham hc2 (rootsH_mem _ 0 _ p (some b) q (root_get hb) (by simpa using has_iff.2 hp) hq)
            · intro q
              rw [mask_root]
              unfold part
              by_cases hq : q ∈ (mk j).f
              · rw [if_pos (has_iff.2 hq), if_pos hq, hread q hq]
              · rw [if_neg (fun e => hq (has_iff.1 e)), if_neg hq]
            · intro t ht q hq
              have e : TS rs st S t = lk (st j).tm t := C.looks h hj (by simp only [tmpsOf, List.mem_append]; exact .inl (.inl ht))
              rw [e] at hq
              refine ham hc1 (rootsL_iff.2 ⟨_, List.mem_map.2 ⟨.t t, of_opTmps ht, rfl⟩, hq⟩)
            · intro w3 x L3 adv hx
              refine ⟨hrv, fun p b hb q hq => hrc p b hb ?_ q hq⟩
              by_cases hp : p < (mk j).lo
              · obtain ⟨b0, hb0, _⟩ := adv.pres.old p b hp hb
                unfold part at hb0
                split at hb0
                · left; assumption
                · simp at hb0
              · right; omega
            · rintro q (hq | hq)
              · obtain ⟨b, hb⟩ := hlive q hq
                rw [← hread q hq] at hb
                exact (hi.knB q b hb).1.add
              · exact .inr ⟨j, hlt, by simp [add], hq⟩
          split at hd
          · rename_i hs
            split at hd
            · rename_i hrv
              simp only [Option.some.injEq, Prod.mk.injEq] at hd
              obtain ⟨hvv, hhp, hm⟩ := hd
              have e := still_hpC hs hst
              have hmf : (mk j).f = disc (st j).hp 0 200 (rootsL ((opnds r.op).map (Go.Proofs.Ytldmpjoddghdkaa.AI.ev (st j).tm))) [] := by rw [← hm]
              have hlh : (mk j).lo = (mk j).hi := by rw [← hm]
              rw [← hmf] at hrv
              refine main hmf (by rw [e, mask_length, ← hlh]; exact l1.symm) (fun q hq => ?_) (fun p b hb hp q hq => ?_) hvv (fun q => ?_)
              · rcases among_iff hrv hq with h' | h'
                · exact .inl (has_iff.1 h')
                · omega
              · rw [e, mask_root, ← hmf] at hb
                split at hb
                · rename_i hhas
                  rw [← hmf] at hc2
                  have := rootsH_mem _ 0 _ p (some b) q (root_get hb) (by simpa using hhas) hq
                  rcases among_iff hc2 this with h' | h'
                  · exact .inl (has_iff.1 h')
                  · omega
                · simp at hb
              · rw [C.RS_add h hj q, (C.quiet hj (.inr hs)).1 q]
                simp only [Bool.false_eq_true, if_false, joinR]
                split
                · rename_i hq
                  have hq' : q ∈ (mk j).f := by
                    rcases hq with hq | hq
                    · exact hq
                    · omega
                  rw [e, mask_root, ← hmf, if_pos (has_iff.2 hq')]
                  exact (C.reads h hj (.inr ⟨rfl, hq'⟩)).symm
                · rfl
            · simp at hd
          · rename_i hs
            split at hd
            · rename_i hchk
              simp only [Option.some.injEq, Prod.mk.injEq] at hd
              obtain ⟨hvv, hhp, hm⟩ := hd
              have hmf : (mk j).f = disc (st j).hp 0 200 (rootsL ((opnds r.op).map (Go.Proofs.Ytldmpjoddghdkaa.AI.ev (st j).tm))) [] := by rw [← hm]
              have hhi : hp'.length = (mk j).hi := by rw [← hm]
              have hw : (mk j).w = wrote ctx (Go.Proofs.Ytldmpjoddghdkaa.AI.ev (st j).tm) (mask (disc (st j).hp 0 200 (rootsL ((opnds r.op).map (Go.Proofs.Ytldmpjoddghdkaa.AI.ev (st j).tm))) []) 0 (st j).hp) r.op (disc (st j).hp 0 200 (rootsL ((opnds r.op).map (Go.Proofs.Ytldmpjoddghdkaa.AI.ev (st j).tm))) []) := by rw [← hm]
              obtain ⟨hle, hk1, hk2, hk3⟩ := hchk
              rw [← hmf, ← l1, hhi] at hk1 hk2
              rw [← hmf, hhi, ← l1] at hk3
              have cv : ∀ {l : List Nat} {q : Nat}, among (mk j).f (mk j).lo (mk j).hi l = true → q ∈ l → q ∈ (mk j).f ∨ ((mk j).lo ≤ q ∧ q < (mk j).hi) := fun hh hq => by
                rcases among_iff hh hq with h' | h'
                · exact .inl (has_iff.1 h')
                · exact .inr h'
              refine main hmf hhi (fun q hq => cv hk1 hq) (fun p b hb hp q hq => ?_) hvv (fun q => ?_)
              · rcases hp with hp | hp
                · exact cv hk2 (rootsH_mem _ 0 _ p (some b) q (root_get hb) (by simpa using has_iff.2 hp) hq)
                · exact cv hk3 (rootsN_mem hb hp hq)
              · rw [C.RS_add h hj q, ← hhp, merge_root _ _ _ hle, ← hmf]
                simp only [joinR]
                by_cases hq : q ∈ (mk j).f
                · rw [if_pos (.inl hq)]
                  have hh : has (mk j).f q = true := has_iff.2 hq
                  cases ht' : has (mk j).w q
                  · have hnW : Wr rs mk q j = false := by
                      have hlive : ∃ b, root? (st j).hp q = some b := Option.isSome_iff_exists.1 (hc3 q (by rw [← hmf]; exact hq))
                      obtain ⟨b, hb⟩ := hlive
                      have := root_lt hb
                      simp only [Wr, hj, Wb, ht', Bool.or_false, Bool.or_eq_false_iff, decide_eq_false_iff_not]
                      exact ⟨by simp, by omega⟩
                    rw [hnW]
                    simp only [Bool.false_eq_true, if_false]
                    have hlive : ∃ b, root? (st j).hp q = some b := Option.isSome_iff_exists.1 (hc3 q (by rw [← hmf]; exact hq))
                    obtain ⟨b, hb⟩ := hlive
                    rw [unwrote (by rw [← hw]; exact ht') (by rw [← hmf]; exact hh) hst (by rw [mask_length]; exact root_lt hb), mask_root, ← hmf, if_pos hh]
                    exact (C.reads h hj (.inr ⟨rfl, hq⟩)).symm
                  · have hW : Wr rs mk q j = true := by simp [Wr, hj, Wb, ht']
                    rw [if_pos hW, if_neg (by simp [hh])]
                · have hh : has (mk j).f q = false := by
                    cases e : has (mk j).f q
                    · rfl
                    · exact absurd (has_iff.1 e) hq
                  by_cases hn : (mk j).lo ≤ q ∧ q < (mk j).hi
                  · rw [if_pos (.inr hn)]
                    have hW : Wr rs mk q j = true := by simp [Wr, hj, Wb, hn]
                    rw [if_pos hW, if_neg (by rw [← l1]; omega)]
                  · rw [if_neg (by rintro (e | e); exact hq e; exact hn e)]
                    have hww : has (mk j).w q = false := by
                      cases e : has (mk j).w q
                      · rfl
                      · rw [hw] at e
                        have := wrote_sub e
                        rw [← hmf, hh] at this; simp at this
                    have hW : Wr rs mk q j = false := by simp [Wr, hj, Wb, hww, hn]
                    rw [hW]; simp
            · simp at hd
        · simp at hd
      · simp at hd
end
end Go.Proofs.Ytldmpjoddghdkaa.AI
