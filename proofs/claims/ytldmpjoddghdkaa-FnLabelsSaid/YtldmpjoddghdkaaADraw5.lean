import Derived.Test.YtldmpjoddghdkaaADraw4
namespace Go.Proofs.Ytldmpjoddghdkaa.AI
set_option linter.all false
open Go.RowKit
set_option autoImplicit false
set_option linter.unusedVariables false
set_option linter.unusedSimpArgs false
variable [Tabs]
def Wr (rs : List (Nat × ROp)) (mk : Nat → Mark) (q j : Nat) : Bool := match rs[j]? with | some r => Wb r.1 (mk j) q | none => false
def Dr (rs : List (Nat × ROp)) (t j : Nat) : Bool := match rs[j]? with | some r => decide (r.2.dst = some t) | none => false
def RS (rs : List (Nat × ROp)) (st : Nat → St) (mk : Nat → Mark) (S : Nat → Bool) : Rf := fun q => match lastW S (Wr rs mk q) rs.length with | some j => root? (st (j + 1)).hp q | none => root? (st 0).hp q
def TS (rs : List (Nat × ROp)) (st : Nat → St) (S : Nat → Bool) (t : Nat) : AV := match lastW S (Dr rs t) rs.length with | some j => lk (st (j + 1)).tm t | none => lk (st 0).tm t
structure Sep (ri rj : Nat × ROp) (mi mj : Mark) : Prop where
  ti : ∀ d, ri.2.dst = some d → d ∉ tmpsOf rj.2
  tj : ∀ d, rj.2.dst = some d → d ∉ tmpsOf ri.2
  hp : (heapy ri.2.op = false ∨ heapy rj.2.op = false ∨ (still ri.2.op = true ∧ still rj.2.op = true)) ∨
    (ri.1 = 2 ∧ rj.1 = 2 ∧ (∀ q ∈ mi.w, q ∉ mj.f) ∧ (∀ q ∈ mj.w, q ∉ mi.f) ∧ (∀ q ∈ mi.f, q < mj.lo ∨ mj.hi ≤ q) ∧ (∀ q ∈ mj.f, q < mi.lo ∨ mi.hi ≤ q) ∧ (∀ q ∈ mi.w, q ∉ mj.w) ∧ (∀ q ∈ mi.w, q < mj.lo ∨ mj.hi ≤ q) ∧ (∀ q ∈ mj.w, q < mi.lo ∨ mi.hi ≤ q))
theorem Sep.symm {ri rj : Nat × ROp} {mi mj : Mark} (h : Sep ri rj mi mj) : Sep rj ri mj mi := by
  refine ⟨h.tj, h.ti, ?_⟩
  rcases h.hp with (h1 | h1 | h1) | ⟨h1, h2, h3, h4, h5, h6, h7, h8, h9⟩
  · exact .inl (.inr (.inl h1))
  · exact .inl (.inl h1)
  · exact .inl (.inr (.inr ⟨h1.2, h1.1⟩))
  · exact .inr ⟨h2, h1, h4, h3, h6, h5, fun q hq hr => h7 q hr hq, h9, h8⟩
theorem has_mem {l : List Nat} {n : Nat} : has l n = true ↔ n ∈ l := has_iff
theorem not_has {l : List Nat} {n : Nat} (h : has l n = false) : n ∉ l := fun e => by rw [has_iff.2 e] at h; simp at h
section
variable {P : Program} {ctx : Ctx} {N : Nat} {ops : Array Oper} {rs : List (Nat × ROp)} {ah : List (List Nat)} {pairs : List (Nat × Nat)} {st : Nat → St} {mk : Nat → Mark}
theorem Canon.way (C : Canon P ctx N ops rs ah pairs st mk) {j : Nat} {r : Nat × ROp} (hj : rs[j]? = some r) : ∃ v, (st (j + 1)).tm = put (st j).tm r.2.dst v ∧ Way ctx r.1 r.2 (st j) (st (j + 1)) (mk j) v := way_of (C.run j r hj)
theorem Canon.lens (C : Canon P ctx N ops rs ah pairs st mk) {j : Nat} {r : Nat × ROp} (hj : rs[j]? = some r) : (mk j).lo = (st j).hp.length ∧ (mk j).hi = (st (j + 1)).hp.length ∧ (mk j).lo ≤ (mk j).hi := by
  obtain ⟨v, _, h⟩ := C.way hj
  exact way_len h
theorem Canon.mono (C : Canon P ctx N ops rs ah pairs st mk) {i : Nat} : ∀ {j : Nat}, i ≤ j → j ≤ rs.length → (st i).hp.length ≤ (st j).hp.length
  | 0, h, _ => by have : i = 0 := by omega
                  subst this; exact Nat.le_refl _
  | j + 1, h, hj => by
    by_cases e : i = j + 1
    · subst e; exact Nat.le_refl _
    · have h1 := C.mono (i := i) (j := j) (by omega) (by omega)
      have hg : rs[j]? = some rs[j] := by simp
      obtain ⟨h2, h3, h4⟩ := C.lens hg
      omega
theorem Canon.dis (C : Canon P ctx N ops rs ah pairs st mk) {i j : Nat} {ri rj : Nat × ROp} (hi : rs[i]? = some ri) (hj : rs[j]? = some rj) (h : i < j) : (mk i).hi ≤ (mk j).lo := by
  have hlt : j < rs.length := (List.getElem?_eq_some_iff.1 hj).1
  rw [(C.lens hi).2.1, (C.lens hj).1]
  exact C.mono (by omega) (by omega)
theorem RS_can (C : Canon P ctx N ops rs ah pairs st mk) {j : Nat} (hj : j ≤ rs.length) (q : Nat) : RS rs st mk (fun i => decide (i < j)) q = root? (st j).hp q := by
  unfold RS
  rw [last_upto hj]
  refine last_can (fun i => root? (st i).hp q) fun i hi hW => ?_
  have hg : rs[i]? = some rs[i] := by simp
  obtain ⟨v, _, h⟩ := C.way hg
  simp only [Wr, hg] at hW
  exact way_stays h hW
theorem put_ne {tm : List (Nat × AV)} {d : Option Nat} {v : AV} {t : Nat} (h : d ≠ some t) : lk (put tm d v) t = lk tm t := by
  cases d with
  | none => rfl
  | some d =>
    have : d ≠ t := fun e => h (by rw [e])
    simp [put, lk, this]
theorem put_eq {tm : List (Nat × AV)} {v : AV} {t : Nat} : lk (put tm (some t) v) t = v := by simp [put, lk]
theorem TS_can (C : Canon P ctx N ops rs ah pairs st mk) {j : Nat} (hj : j ≤ rs.length) (t : Nat) : TS rs st (fun i => decide (i < j)) t = lk (st j).tm t := by
  unfold TS
  rw [last_upto hj]
  refine last_can (fun i => lk (st i).tm t) fun i hi hW => ?_
  have hg : rs[i]? = some rs[i] := by simp
  obtain ⟨v, h1, h⟩ := C.way hg
  simp only [Dr, hg, decide_eq_false_iff_not] at hW
  rw [h1]
  exact put_ne hW
theorem Canon.heapy1 (C : Canon P ctx N ops rs ah pairs st mk) {j : Nat} {r : Nat × ROp} (hj : rs[j]? = some r) : (heapy r.2.op = false ↔ r.1 = 0) ∧ (r.1 = 1 → ∀ p ∈ pairs, p.1 ≠ j ∧ p.2 ≠ j) ∧ (∀ p ∈ pairs, p.1 = j ∨ p.2 = j → heapy r.2.op = true → r.1 = 2) := by
  rw [C.kind j r hj]
  unfold kindOf'
  refine ⟨?_, ?_, ?_⟩
  · constructor
    · intro h; simp [h]
    · intro h
      by_cases e : heapy r.2.op = false
      · exact e
      · rw [if_neg e] at h; split at h <;> omega
  · intro h p hp
    by_cases e : heapy r.2.op = false
    · rw [if_pos e] at h; omega
    · rw [if_neg e] at h
      split at h
      · omega
      · rename_i hn
        refine ⟨fun e => hn (List.any_eq_true.2 ⟨p, hp, by simp [e]⟩), fun e => hn (List.any_eq_true.2 ⟨p, hp, by simp [e]⟩)⟩
  · intro p hp h hh
    rw [if_neg (by simp [hh]), if_pos (List.any_eq_true.2 ⟨p, hp, by simpa using h⟩)]
theorem Canon.sep (C : Canon P ctx N ops rs ah pairs st mk) {i j : Nat} {ri rj : Nat × ROp} (h : i < j) (hi : rs[i]? = some ri) (hj : rs[j]? = some rj) (hn : i ∉ ah.getD j []) : Sep ri rj (mk i) (mk j) := by
  rcases C.order i j ri rj h hi hj with ho | ⟨ho, hv⟩
  · exact absurd ho hn
  · simp only [asideT, Bool.and_eq_true] at ho
    refine ⟨fun d hd => ?_, fun d hd => ?_, ?_⟩
    · have := ho.1; simp only [hd, Bool.not_eq_true'] at this; exact not_has this
    · have := ho.2; simp only [hd, Bool.not_eq_true'] at this; exact not_has this
    · cases hvie : vie ri.2 rj.2
      · left
        simp only [vie] at hvie
        cases h1 : heapy ri.2.op
        · exact .inl rfl
        · cases h2 : heapy rj.2.op
          · exact .inr (.inl rfl)
          · simp only [h1, h2, Bool.and_self, Bool.true_and, Bool.not_eq_false', Bool.and_eq_true] at hvie
            exact .inr (.inr hvie)
      · right
        rcases hv with hv | ⟨hp, hap⟩
        · rw [hvie] at hv; simp at hv
        · simp only [vie, Bool.and_eq_true] at hvie
          have k1 := (C.heapy1 hi).2.2 _ hp (.inl rfl) hvie.1.1
          have k2 := (C.heapy1 hj).2.2 _ hp (.inr rfl) hvie.1.2
          simp only [apartM, away, noneIn, Bool.and_eq_true, Bool.or_eq_true, Bool.not_eq_true', List.all_eq_true, decide_eq_true_eq] at hap
          obtain ⟨⟨⟨⟨⟨⟨a1, a2⟩, a5⟩, a3⟩, a4⟩, a6⟩, a7⟩ := hap
          exact ⟨k1, k2, fun q hq => not_has (a1 q hq), fun q hq => not_has (a2 q hq), a3, a4, fun q hq => not_has (a5 q hq), a6, a7⟩
theorem Canon.quiet (C : Canon P ctx N ops rs ah pairs st mk) {i : Nat} {ri : Nat × ROp} (hi : rs[i]? = some ri) (h : heapy ri.2.op = false ∨ still ri.2.op = true) : (∀ q, Wr rs mk q i = false) ∧ (mk i).lo = (mk i).hi := by
  obtain ⟨v, _, hw⟩ := C.way hi
  have hs : still ri.2.op = true ∨ ri.1 = 0 := by
    rcases h with h | h
    · exact .inr ((C.heapy1 hi).1.1 h)
    · exact .inl h
  obtain ⟨h1, h2, h3⟩ := way_still hw hs
  refine ⟨fun q => ?_, h2⟩
  simp only [Wr, hi, Wb, h1, h3, has, Bool.and_false, Bool.false_and, Bool.false_or, Bool.or_false, decide_eq_false_iff_not]
  omega
theorem Canon.noRead (C : Canon P ctx N ops rs ah pairs st mk) {i j : Nat} {ri rj : Nat × ROp} (hi : rs[i]? = some ri) (hj : rs[j]? = some rj) (s : Sep ri rj (mk i) (mk j)) {q : Nat} (hr : rj.1 = 1 ∨ (rj.1 = 2 ∧ q ∈ (mk j).f)) : Wr rs mk q i = false := by
  rcases s.hp with (h1 | h1 | h1) | ⟨h1, h2, h3, h4, h5, h6, h7, h8, h9⟩
  · exact (C.quiet hi (.inl h1)).1 q
  · have := (C.heapy1 hj).1.1 h1; omega
  · exact (C.quiet hi (.inr h1.1)).1 q
  · have hq : q ∈ (mk j).f := by
      rcases hr with hr | hr
      · omega
      · exact hr.2
    simp only [Wr, hi, Wb, h1, Bool.or_eq_false_iff, decide_eq_false_iff_not]
    refine ⟨⟨by simp, ?_⟩, ?_⟩
    · have := h6 q hq; omega
    · cases hh : has (mk i).w q
      · rfl
      · exact absurd hq (h3 q (has_iff.1 hh))
theorem Canon.noWrite (C : Canon P ctx N ops rs ah pairs st mk) {i j : Nat} {ri rj : Nat × ROp} (hi : rs[i]? = some ri) (hj : rs[j]? = some rj) (hne : i ≠ j) (s : Sep ri rj (mk i) (mk j)) {q : Nat} (hr : Wr rs mk q j = true) : Wr rs mk q i = false := by
  rcases s.hp with (h1 | h1 | h1) | ⟨h1, h2, h3, h4, h5, h6, h7, h8, h9⟩
  · exact (C.quiet hi (.inl h1)).1 q
  · rw [(C.quiet hj (.inl h1)).1 q] at hr; simp at hr
  · exact (C.quiet hi (.inr h1.1)).1 q
  · have hdis : (mk i).hi ≤ (mk j).lo ∨ (mk j).hi ≤ (mk i).lo := by
      rcases Nat.lt_or_ge i j with h | h
      · exact .inl (C.dis hi hj h)
      · exact .inr (C.dis hj hi (by omega))
    simp only [Wr, hj, Wb, h2, Bool.or_eq_true, decide_eq_true_eq, Bool.and_eq_true] at hr
    simp only [Wr, hi, Wb, h1, Bool.or_eq_false_iff, decide_eq_false_iff_not]
    refine ⟨⟨by simp, ?_⟩, ?_⟩
    · rcases hr with (hr | hr) | hr
      · simp at hr
      · omega
      · have := h9 q (has_iff.1 hr); omega
    · cases hh : has (mk i).w q
      · rfl
      · have hq := has_iff.1 hh
        exfalso
        rcases hr with (hr | hr) | hr
        · simp at hr
        · have := h8 q hq; omega
        · exact h7 q hq (has_iff.1 hr)
structure Ready (n : Nat) (ah : List (List Nat)) (S : Nat → Bool) (j : Nat) : Prop where
  lt : j < n
  no : S j = false
  yes : ∀ k ∈ ah.getD j [], S k = true
  down : ∀ i, i < n → S i = true → ∀ k ∈ ah.getD i [], S k = true
theorem Canon.sepS (C : Canon P ctx N ops rs ah pairs st mk) {S : Nat → Bool} {j : Nat} (h : Ready rs.length ah S j) {rj ri : Nat × ROp} (hj : rs[j]? = some rj) {i : Nat} (hi : rs[i]? = some ri) (hc : (i < j ∧ S i = false) ∨ (j < i ∧ S i = true)) : Sep ri rj (mk i) (mk j) := by
  have hin : i < rs.length := (List.getElem?_eq_some_iff.1 hi).1
  rcases hc with ⟨h1, h2⟩ | ⟨h1, h2⟩
  · exact C.sep h1 hi hj fun e => by rw [h.yes i e] at h2; simp at h2
  · refine (C.sep h1 hj hi fun e => ?_).symm
    have := h.down i hin h2 j e
    rw [h.no] at this; simp at this
theorem Ready.same {S W : Nat → Bool} {j n : Nat} (hno : S j = false) (hj : W j = true ∨ W j = false) (hd : ∀ i, i < n → ((i < j ∧ S i = false) ∨ (j < i ∧ S i = true)) → W i = false) : lastW S W n = lastW (fun i => decide (i < j)) W n := by
  refine last_congr fun i hi => ?_
  rcases Nat.lt_trichotomy i j with h | h | h
  · cases hS : S i
    · rw [hd i hi (.inl ⟨h, hS⟩)]; simp
    · simp [h]
  · subst h; simp [hno]
  · cases hS : S i
    · simp; omega
    · rw [hd i hi (.inr ⟨h, hS⟩)]; simp
theorem Canon.reads (C : Canon P ctx N ops rs ah pairs st mk) {S : Nat → Bool} {j : Nat} (h : Ready rs.length ah S j) {rj : Nat × ROp} (hj : rs[j]? = some rj) {q : Nat} (hr : rj.1 = 1 ∨ (rj.1 = 2 ∧ q ∈ (mk j).f)) : RS rs st mk S q = root? (st j).hp q := by
  rw [← RS_can C (Nat.le_of_lt h.lt) q]
  unfold RS
  rw [Ready.same h.no (by cases Wr rs mk q j <;> simp) fun i hi hc => ?_]
  have hg : rs[i]? = some rs[i] := by simp
  exact C.noRead hg hj (C.sepS h hj hg hc) hr
theorem Canon.looks (C : Canon P ctx N ops rs ah pairs st mk) {S : Nat → Bool} {j : Nat} (h : Ready rs.length ah S j) {rj : Nat × ROp} (hj : rs[j]? = some rj) {t : Nat} (ht : t ∈ tmpsOf rj.2) : TS rs st S t = lk (st j).tm t := by
  rw [← TS_can C (Nat.le_of_lt h.lt) t]
  unfold TS
  rw [Ready.same h.no (by cases Dr rs t j <;> simp) fun i hi hc => ?_]
  have hg : rs[i]? = some rs[i] := by simp
  simp only [Dr, hg, decide_eq_false_iff_not]
  exact fun e => (C.sepS h hj hg hc).ti t e ht
def add (S : Nat → Bool) (j : Nat) : Nat → Bool := fun i => S i || decide (i = j)
theorem last_add_no {S W : Nat → Bool} {j : Nat} (hW : W j = false) (n : Nat) : lastW (add S j) W n = lastW S W n := by
  refine last_congr fun i hi => ?_
  unfold add
  by_cases e : i = j
  · subst e; simp [hW]
  · simp [e]
theorem last_add_yes {S W : Nat → Bool} {j n : Nat} (hj : j < n) (hW : W j = true) (hd : ∀ i, i < n → j < i → S i = true → W i = false) : lastW (add S j) W n = some j := by
  refine last_top hj (by simp [add]) hW fun i hi hn hS => ?_
  have : i ≠ j := by omega
  simp only [add, this, decide_false, Bool.or_false] at hS
  exact hd i hn hi hS
theorem Canon.RS_add (C : Canon P ctx N ops rs ah pairs st mk) {S : Nat → Bool} {j : Nat} (h : Ready rs.length ah S j) {rj : Nat × ROp} (hj : rs[j]? = some rj) (q : Nat) : RS rs st mk (add S j) q = if Wr rs mk q j = true then root? (st (j + 1)).hp q else RS rs st mk S q := by
  unfold RS
  by_cases hW : Wr rs mk q j = true
  · rw [if_pos hW, last_add_yes h.lt hW fun i hi hji hS => ?_]
    have hg : rs[i]? = some rs[i] := by simp
    exact C.noWrite hg hj (by omega) (C.sepS h hj hg (.inr ⟨hji, hS⟩)) hW
  · rw [if_neg hW, last_add_no (by simpa using hW)]
theorem Canon.TS_add (C : Canon P ctx N ops rs ah pairs st mk) {S : Nat → Bool} {j : Nat} (h : Ready rs.length ah S j) {rj : Nat × ROp} (hj : rs[j]? = some rj) {v : AV} (hv : (st (j + 1)).tm = put (st j).tm rj.2.dst v) (t : Nat) : TS rs st (add S j) t = if rj.2.dst = some t then v else TS rs st S t := by
  unfold TS
  by_cases hW : rj.2.dst = some t
  · rw [if_pos hW, last_add_yes h.lt (by simp [Dr, hj, hW]) fun i hi hji hS => ?_]
    · simp only [hv, hW, put_eq]
    · have hg : rs[i]? = some rs[i] := by simp
      simp only [Dr, hg, decide_eq_false_iff_not]
      intro e
      refine (C.sepS h hj hg (.inr ⟨hji, hS⟩)).tj t hW ?_
      simp [tmpsOf, e]
  · rw [if_neg hW, last_add_no (by simp [Dr, hj, hW])]
def Kn (rs : List (Nat × ROp)) (st : Nat → St) (mk : Nat → Mark) (S : Nat → Bool) (q : Nat) : Prop := q < (st 0).hp.length ∨ ∃ i, i < rs.length ∧ S i = true ∧ (mk i).lo ≤ q ∧ q < (mk i).hi
theorem Kn.add {S : Nat → Bool} {j q : Nat} (h : Kn rs st mk S q) : Kn rs st mk (add S j) q := by
  rcases h with h | ⟨i, h1, h2, h3⟩
  · exact .inl h
  · exact .inr ⟨i, h1, by simp [Go.Proofs.Ytldmpjoddghdkaa.AI.add, h2], h3⟩
theorem Canon.fresh (C : Canon P ctx N ops rs ah pairs st mk) {S : Nat → Bool} {j : Nat} (h : Ready rs.length ah S j) {q : Nat} (hk : Kn rs st mk S q) : ¬ ((mk j).lo ≤ q ∧ q < (mk j).hi) := by
  have hj : rs[j]? = some (rs[j]'h.lt) := by simp [h.lt]
  rcases hk with hk | ⟨i, h1, h2, h3⟩
  · have := C.mono (i := 0) (j := j) (by omega) (Nat.le_of_lt h.lt)
    rw [(C.lens hj).1]; omega
  · have hi : rs[i]? = some rs[i] := by simp [h1]
    have hne : i ≠ j := fun e => by subst e; rw [h.no] at h2; simp at h2
    rcases Nat.lt_or_ge i j with hh | hh
    · have := C.dis hi hj hh; omega
    · have := C.dis hj hi (by omega); omega
theorem Canon.noNew (C : Canon P ctx N ops rs ah pairs st mk) {S : Nat → Bool} {j : Nat} (h : Ready rs.length ah S j) {rj : Nat × ROp} (hj : rs[j]? = some rj) (hk : rj.1 = 1) {i : Nat} {ri : Nat × ROp} (hi : rs[i]? = some ri) (hc : (i < j ∧ S i = false) ∨ (j < i ∧ S i = true)) : (mk i).lo = (mk i).hi := by
  rcases (C.sepS h hj hi hc).hp with (h1 | h1 | h1) | ⟨h1, h2, _⟩
  · exact (C.quiet hi (.inl h1)).2
  · have := (C.heapy1 hj).1.1 h1; omega
  · exact (C.quiet hi (.inr h1.1)).2
  · omega
theorem Canon.wideLt (C : Canon P ctx N ops rs ah pairs st mk) {S : Nat → Bool} {j : Nat} (h : Ready rs.length ah S j) {rj : Nat × ROp} (hj : rs[j]? = some rj) (hk : rj.1 = 1) {q : Nat} (hq : Kn rs st mk S q) : q < (mk j).lo := by
  rcases hq with hq | ⟨i, h1, h2, h3⟩
  · have := C.mono (i := 0) (j := j) (by omega) (Nat.le_of_lt h.lt)
    rw [(C.lens hj).1]; omega
  · have hi : rs[i]? = some rs[i] := by simp [h1]
    have hne : i ≠ j := fun e => by subst e; rw [h.no] at h2; simp at h2
    rcases Nat.lt_or_ge i j with hh | hh
    · have := C.dis hi hj hh; omega
    · have := C.noNew h hj hk hi (.inr ⟨by omega, h2⟩); omega
theorem Canon.given (C : Canon P ctx N ops rs ah pairs st mk) : ∀ {j : Nat}, j ≤ rs.length → ∀ {q : Nat}, (st 0).hp.length ≤ q → q < (st j).hp.length → ∃ i, i < j ∧ (mk i).lo ≤ q ∧ q < (mk i).hi
  | 0, _, q, h1, h2 => by omega
  | j + 1, hj, q, h1, h2 => by
    have hg : rs[j]? = some rs[j] := by simp
    obtain ⟨h3, h4, h5⟩ := C.lens hg
    by_cases e : q < (st j).hp.length
    · obtain ⟨i, h6, h7⟩ := C.given (j := j) (by omega) h1 e
      exact ⟨i, by omega, h7⟩
    · exact ⟨j, by omega, by omega, by omega⟩
theorem Canon.wideKn (C : Canon P ctx N ops rs ah pairs st mk) {S : Nat → Bool} {j : Nat} (h : Ready rs.length ah S j) {rj : Nat × ROp} (hj : rs[j]? = some rj) (hk : rj.1 = 1) {q : Nat} (hq : q < (mk j).hi) : Kn rs st mk (add S j) q := by
  by_cases h0 : q < (st 0).hp.length
  · exact .inl h0
  · rw [(C.lens hj).2.1] at hq
    obtain ⟨i, h1, h2, h3⟩ := C.given (j := j + 1) (by have := h.lt; omega) (by omega) hq
    refine .inr ⟨i, by have := h.lt; omega, ?_, h2, h3⟩
    by_cases e : i = j
    · subst e; simp [Go.Proofs.Ytldmpjoddghdkaa.AI.add]
    · have hi : rs[i]? = some (rs[i]'(by have := h.lt; omega)) := by simp
      cases hS : S i
      · have := C.noNew h hj hk hi (.inl ⟨by omega, hS⟩); omega
      · simp [Go.Proofs.Ytldmpjoddghdkaa.AI.add, hS]
end
end Go.Proofs.Ytldmpjoddghdkaa.AI
