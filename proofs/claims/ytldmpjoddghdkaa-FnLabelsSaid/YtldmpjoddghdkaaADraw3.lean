import Derived.Test.YtldmpjoddghdkaaADraw2
namespace Go.Proofs.Ytldmpjoddghdkaa.AI
set_option linter.all false
open Go.RowKit
set_option autoImplicit false
set_option linter.unusedVariables false
set_option linter.unusedSimpArgs false
variable [Tabs]
theorem mask_length (F : List Nat) : ∀ (i : Nat) (hp : Hp), (mask F i hp).length = hp.length
  | _, [] => rfl
  | i, b :: bs => by simp [mask, mask_length F (i + 1) bs]
theorem mask_get (F : List Nat) : ∀ (i : Nat) (hp : Hp) (r : Nat), (mask F i hp)[r]? = (hp[r]?).map fun b => if has F (i + r) then b else none
  | _, [], r => by simp [mask]
  | i, b :: bs, 0 => by simp [mask]
  | i, b :: bs, r + 1 => by
    simp only [mask, List.getElem?_cons_succ]
    rw [mask_get F (i + 1) bs r, show i + 1 + r = i + (r + 1) by omega]
theorem mask_root (F : List Nat) (hp : Hp) (r : Nat) : root? (mask F 0 hp) r = if has F r = true then root? hp r else none := by
  unfold root?
  rw [mask_get]
  simp only [Nat.zero_add]
  cases hp[r]? with
  | none => simp
  | some b => by_cases h : has F r = true <;> simp [h]
theorem merge_length (F : List Nat) : ∀ (i : Nat) (hp hp' : Hp), hp.length ≤ hp'.length → (merge F i hp hp').length = hp'.length
  | _, [], hp', _ => by simp [merge]
  | i, b :: bs, [], h => by simp at h
  | i, b :: bs, b' :: bs', h => by simp [merge, merge_length F (i + 1) bs bs' (by simpa using h)]
theorem merge_get (F : List Nat) : ∀ (i : Nat) (hp hp' : Hp) (r : Nat), hp.length ≤ hp'.length → (merge F i hp hp')[r]? = if r < hp.length ∧ has F (i + r) = false then hp[r]? else hp'[r]?
  | i, [], hp', r, _ => by simp [merge]
  | i, b :: bs, [], r, h => by simp at h
  | i, b :: bs, b' :: bs', 0, h => by
    simp only [merge]
    by_cases e : has F i = true <;> simp [e]
  | i, b :: bs, b' :: bs', r + 1, h => by
    simp only [merge, List.getElem?_cons_succ, List.length_cons, Nat.succ_lt_succ_iff]
    rw [merge_get F (i + 1) bs bs' r (by simpa using h), show i + 1 + r = i + (r + 1) by omega]
theorem merge_root (F : List Nat) (hp hp' : Hp) (h : hp.length ≤ hp'.length) (r : Nat) : root? (merge F 0 hp hp') r = if r < hp.length ∧ has F r = false then root? hp r else root? hp' r := by
  unfold root?
  rw [merge_get F 0 hp hp' r h]
  simp only [Nat.zero_add]
  split <;> rfl
theorem rootsH_mem (F : List Nat) : ∀ (i : Nat) (hp : Hp) (r : Nat) (b : Option Blk) (q : Nat), hp[r]? = some b → has F (i + r) = true → q ∈ rootsB b → q ∈ rootsH F i hp
  | _, [], r, b, q, h, _, _ => by simp at h
  | i, b0 :: bs, 0, b, q, h, hf, hq => by
    simp at h
    subst h
    simp only [Nat.add_zero] at hf
    simp [rootsH, hf, hq]
  | i, b0 :: bs, r + 1, b, q, h, hf, hq => by
    simp only [rootsH, List.mem_append]
    exact .inr (rootsH_mem F (i + 1) bs r b q (by simpa using h) (by rw [show i + 1 + r = i + (r + 1) by omega]; exact hf) hq)
theorem root_get {hp : Hp} {r : Nat} {b : Blk} (h : root? hp r = some b) : hp[r]? = some (some b) := by
  unfold root? at h
  cases e : hp[r]? with
  | none => rw [e] at h; simp at h
  | some x => rw [e] at h; simp at h; rw [h]
theorem rootsN_mem {lo : Nat} {hp : Hp} {r : Nat} {b : Blk} {q : Nat} (h : root? hp r = some b) (hr : lo ≤ r) (hq : q ∈ rootsB (some b)) : q ∈ rootsN lo hp := by
  unfold rootsN
  simp only [List.mem_flatten, List.mem_map]
  refine ⟨_, ⟨some b, ?_, rfl⟩, hq⟩
  have := root_get h
  refine List.mem_of_getElem? (i := r - lo) ?_
  rw [List.getElem?_drop, show lo + (r - lo) = r by omega]
  exact this
theorem among_iff {F : List Nat} {lo hi : Nat} {l : List Nat} (h : among F lo hi l = true) {q : Nat} (hq : q ∈ l) : has F q = true ∨ (lo ≤ q ∧ q < hi) := by
  have := List.all_eq_true.1 h q hq
  simpa using this
theorem root_out {hp : Hp} {r : Nat} (h : hp.length ≤ r) : root? hp r = none := by
  unfold root?
  rw [List.getElem?_eq_none h]; rfl
theorem HRel.rootsB_lt {RO : Bx} {w : World} {R : Rf} {nx : Nat} {L : Lf} (h : HRel RO w R nx L) {r : Nat} {b : Blk} (hb : R r = some b) {q : Nat} (hq : q ∈ rootsB (some b)) : q < nx := by
  obtain ⟨bx, g, k, es⟩ := b
  cases bx with
  | false => simp [rootsB] at hq
  | true =>
    simp only [rootsB, List.mem_flatten, List.mem_map] at hq
    obtain ⟨l, ⟨e, he, rfl⟩, hq⟩ := hq
    have hr : row R r none = some (true, k, es) := by rw [row_root hb]
    have hrow := h.rows _ _ _ _ _ hr
    obtain ⟨i, hi, rfl⟩ := List.getElem_of_mem he
    have hc : ∃ c ∈ es[i], q ∈ roots c := by
      have : ∀ l : List AV, q ∈ rootsL l → ∃ c ∈ l, q ∈ roots c := by
        intro l
        induction l with
        | nil => simp [rootsL]
        | cons c l ih =>
          simp only [rootsL, List.mem_append]
          rintro (h | h)
          · exact ⟨c, by simp, h⟩
          · obtain ⟨d, h1, h2⟩ := ih h; exact ⟨d, by simp [h1], h2⟩
      exact this _ hq
    obtain ⟨c, hc, hq⟩ := hc
    obtain ⟨j, hj, rfl⟩ := List.getElem_of_mem hc
    cases hL : L r none with
    | none => have := hrow.no hL; subst this; simp at hi
    | some bot =>
      obtain ⟨b, o, T⟩ := bot
      have hjk : j < k := by rw [← hrow.shape _ he]; exact hj
      obtain ⟨v, _, hv⟩ := (hrow.yes b o T hL).2.2.2 i j hi hjk
      rw [Cl.box] at hv
      have hce : cellAt es i j = es[i][j] := by
        unfold cellAt
        simp [List.getD_eq_getElem?_getD, hi, hj]
      rw [hce] at hv
      exact V_roots _ _ hv q hq
def lastW (S W : Nat → Bool) : Nat → Option Nat
  | 0 => none
  | n + 1 => if S n && W n then some n else lastW S W n
theorem last_congr {S W S' W' : Nat → Bool} : ∀ {n : Nat}, (∀ i, i < n → (S i && W i) = (S' i && W' i)) → lastW S W n = lastW S' W' n
  | 0, _ => rfl
  | n + 1, h => by
    simp only [lastW]
    rw [h n (by omega), last_congr fun i hi => h i (by omega)]
theorem last_top {S W : Nat → Bool} {j : Nat} : ∀ {n : Nat}, j < n → S j = true → W j = true → (∀ i, j < i → i < n → S i = true → W i = false) → lastW S W n = some j
  | 0, h, _, _, _ => by omega
  | n + 1, h, h1, h2, h3 => by
    simp only [lastW]
    by_cases e : j = n
    · subst e; simp [h1, h2]
    · have : (S n && W n) = false := by
        cases hS : S n
        · rfl
        · simp [h3 n (by omega) (by omega) hS]
      rw [this]
      exact last_top (by omega) h1 h2 fun i hi hn => h3 i hi (by omega)
theorem last_some {S W : Nat → Bool} {i : Nat} : ∀ {n : Nat}, lastW S W n = some i → i < n ∧ S i = true ∧ W i = true
  | 0, h => by simp [lastW] at h
  | n + 1, h => by
    simp only [lastW] at h
    split at h
    · rename_i hc
      simp only [Option.some.injEq] at h
      subst h
      simp only [Bool.and_eq_true] at hc
      exact ⟨by omega, hc⟩
    · obtain ⟨h1, h2⟩ := last_some h
      exact ⟨by omega, h2⟩
theorem last_can {α : Type} {W : Nat → Bool} (f : Nat → α) : ∀ {j : Nat}, (∀ i, i < j → W i = false → f (i + 1) = f i) → (match lastW (fun _ => true) W j with | some i => f (i + 1) | none => f 0) = f j
  | 0, _ => rfl
  | j + 1, h => by
    simp only [lastW, Bool.true_and]
    cases hW : W j
    · simp only [Bool.false_eq_true, if_false]
      rw [last_can f fun i hi => h i (by omega)]
      exact (h j (by omega) hW).symm
    · simp
theorem last_upto {W : Nat → Bool} {j : Nat} : ∀ {n : Nat}, j ≤ n → lastW (fun i => decide (i < j)) W n = lastW (fun _ => true) W j
  | 0, h => by have : j = 0 := by omega
               subst this; rfl
  | n + 1, h => by
    by_cases e : j = n + 1
    · subst e
      exact last_congr fun i hi => by simp [hi]
    · have h2 := last_upto (W := W) (n := n) (j := j) (by omega)
      simp only [lastW]
      simpa [show ¬ n < j by omega] using h2
theorem lk_tab (f : Nat → AV) : ∀ (l : List Nat) (t : Nat), lk (l.map fun t => (t, f t)) t = if t ∈ l then f t else .dead
  | [], t => by simp [lk]
  | x :: l, t => by
    simp only [List.map_cons, lk]
    by_cases e : x = t
    · subst e; simp
    · rw [if_neg e, lk_tab f l t]
      have : t ≠ x := fun h => e h.symm
      simp [this]
def tmpX : X → List Nat
  | .t n => [n]
  | _ => []
theorem fillP_roots {e : X → AV} : ∀ {ps : List (Nat × Nat × X)} {cs ds : List AV}, fillP e cs ps = some ds → ∀ q ∈ rootsL ds, q ∈ rootsL cs ∨ q ∈ rootsL ((ps.map (·.2.2)).map e)
  | [], cs, ds, h, q, hq => by simp only [fillP, Option.some.injEq] at h; subst h; exact .inl hq
  | (o, n, x) :: ps, cs, ds, h, q, hq => by
    simp only [fillP] at h
    split at h
    · rename_i us hus
      split at h
      · rename_i hc
        have hsp : ∀ q, q ∈ rootsL (splice cs o us) → q ∈ rootsL cs ∨ q ∈ rootsL us := by
          have mem : ∀ {l : List AV} {q : Nat}, q ∈ rootsL l ↔ ∃ c ∈ l, q ∈ roots c := by
            intro l q
            induction l with
            | nil => simp [rootsL]
            | cons c l ih => simp [rootsL, ih]
          intro q hq
          rw [mem] at hq
          obtain ⟨c, hc, hq⟩ := hq
          simp only [splice, List.mem_append] at hc
          rcases hc with (hc | hc) | hc
          · exact .inl (mem.2 ⟨c, List.mem_of_mem_take hc, hq⟩)
          · exact .inr (mem.2 ⟨c, hc, hq⟩)
          · exact .inl (mem.2 ⟨c, List.mem_of_mem_drop hc, hq⟩)
        rcases fillP_roots h q hq with h1 | h1
        · rcases hsp q h1 with h2 | h2
          · exact .inl h2
          · right
            simp only [List.map_cons, rootsL, List.mem_append]
            left
            have : ∀ v : AV, v.cl = some us → ∀ q ∈ rootsL us, q ∈ roots v := by
              intro v hv q hq
              cases v <;> simp [AV.cl] at hv <;> subst hv <;> simpa [rootsL, roots] using hq
            exact this _ hus q h2
        · right
          simp only [List.map_cons, rootsL, List.mem_append]
          exact .inr h1
      · simp at h
    · simp at h
theorem roots_get {vs : List AV} {i : Nat} {v : AV} (h : vs[i]? = some v) {q : Nat} (hq : q ∈ roots v) : q ∈ rootsL vs := rootsL_mem (List.mem_of_getElem? h) hq
theorem mkv_roots {g : Bool} {cs ds : List AV} {v : AV} (h : mkv g cs = some v) (hs : ∀ c ∈ cs, c ∈ ds) {q : Nat} (hq : q ∈ roots v) : q ∈ rootsL ds := by
  unfold mkv at h
  split at h
  · simp only [Option.some.injEq] at h
    subst h
    simp only [roots] at hq
    have mem : ∀ {l : List AV} {q : Nat}, q ∈ rootsL l ↔ ∃ c ∈ l, q ∈ roots c := by
      intro l q
      induction l with
      | nil => simp [rootsL]
      | cons c l ih => simp [rootsL, ih]
    rw [mem] at hq ⊢
    obtain ⟨c, h1, h2⟩ := hq
    exact ⟨c, hs c h1, h2⟩
  · split at h
    · simp only [Option.some.injEq] at h
      subst h
      exact rootsL_mem (hs _ (by simp)) hq
    · simp at h
theorem binI_roots {op : BinOp} {k : IntKind} {a b : Int} {v : AV} (h : binI op k a b = some v) : roots v = [] := by
  unfold binI at h
  split at h <;> (try split at h) <;> simp at h <;> subst h <;> simp [roots]
theorem bin_roots {op : BinOp} {x y v : AV} (h : bin op x y = some v) : roots v = [] := by
  unfold bin at h
  split at h
  · split at h
    · split at h <;> simp at h; subst h; simp [roots]
    · split at h <;> simp at h; subst h; simp [roots]
    · split at h
      · exact binI_roots h
      · simp at h
  · unfold binS at h
    split at h <;> (try split at h) <;> simp at h <;> subst h <;> simp [roots]
  · simp at h
theorem mxI_roots {f : Int → Int → Int} {k : IntKind} : ∀ {l : List AV} {a : Int} {v : AV}, mxI f k a l = some v → roots v = []
  | [], a, v, h => by simp only [mxI, Option.some.injEq] at h; subst h; simp [roots]
  | x :: l, a, v, h => by
    cases x <;> simp only [mxI] at h <;> first | (simp at h; done) | exact mxI_roots h
theorem nonheapy_roots {e : X → AV} {hp hp' : Hp} {o : Go.Proofs.Ytldmpjoddghdkaa.AI.RO} {v : AV} (h : heapy o = false) (hz : zeroOk o = true) (hs : step e hp o = some (v, hp')) : ∀ q ∈ roots v, q ∈ rootsL ((opnds o).map e) := by
  intro q hq
  cases o with
  | mv x => simp only [step, Option.some.injEq, Prod.mk.injEq] at hs; rw [← hs.1] at hq; simp [opnds, rootsL, hq]
  | pick c a b =>
    simp only [step] at hs
    split at hs
    · rename_i t _
      simp only [Option.some.injEq, Prod.mk.injEq] at hs
      rw [← hs.1] at hq
      cases t <;> simp at hq <;> simp [opnds, rootsL, hq]
    · simp at hs
  | build z ps =>
    simp only [step, Option.map_eq_some_iff, Prod.mk.injEq] at hs
    obtain ⟨cs, h1, rfl, _⟩ := hs
    simp only [roots] at hq
    rcases fillP_roots h1 q hq with h2 | h2
    · simp [zeroOk] at hz; rw [hz] at h2; simp at h2
    · simpa [opnds] using h2
  | nck x =>
    simp only [step] at hs
    split at hs <;> simp at hs <;> (rename_i hx; rw [← hs.1] at hq; simp [opnds, rootsL, hx, hq])
  | fa off x =>
    simp only [step] at hs
    split at hs <;> simp at hs <;> (rename_i hx; rw [← hs.1] at hq; simp only [opnds, List.map_cons, List.map_nil, rootsL, hx, List.append_nil]; exact hq)
  | fl off n g x =>
    simp only [step] at hs
    split at hs
    · rename_i cs hx
      split at hs
      · simp only [Option.map_eq_some_iff, Prod.mk.injEq] at hs
        obtain ⟨u, h1, rfl, _⟩ := hs
        have := mkv_roots h1 (ds := cs) (fun c hc => by unfold seg1 at hc; exact List.mem_of_mem_drop (List.mem_of_mem_take hc)) hq
        simp [opnds, rootsL, hx, roots, this]
      · simp at hs
    · simp at hs
  | ex x i =>
    simp only [step] at hs
    split at hs
    · rename_i vs hx
      simp only [Option.map_eq_some_iff, Prod.mk.injEq] at hs
      obtain ⟨u, h1, rfl, _⟩ := hs
      have := roots_get h1 hq
      simp [opnds, rootsL, hx, roots, this]
    · simp at hs
  | mkf f xs =>
    simp only [step, Option.some.injEq, Prod.mk.injEq] at hs
    rw [← hs.1] at hq
    simpa [roots, opnds] using hq
  | bin op x y =>
    simp only [step, Option.map_eq_some_iff, Prod.mk.injEq] at hs
    obtain ⟨u, h1, rfl, _⟩ := hs
    rw [bin_roots h1] at hq; simp at hq
  | bib op x y =>
    simp only [step, Option.map_eq_some_iff, Prod.mk.injEq] at hs
    obtain ⟨u, h1, rfl, _⟩ := hs
    unfold bib at h1
    split at h1 <;> (try split at h1) <;> simp at h1 <;> subst h1 <;> simp [roots] at hq
  | un op x =>
    simp only [step, Option.map_eq_some_iff, Prod.mk.injEq] at hs
    obtain ⟨u, h1, rfl, _⟩ := hs
    unfold un at h1
    split at h1 <;> simp at h1 <;> subst h1 <;> simp [roots] at hq
  | eqs neg fs x y =>
    simp only [step] at hs
    split at hs
    · simp only [Option.map_eq_some_iff, Prod.mk.injEq] at hs
      obtain ⟨u, h1, rfl, _⟩ := hs
      simp [roots] at hq
    · simp at hs
  | cvi k x => simp only [step] at hs; split at hs <;> simp at hs; rw [← hs.1] at hq; simp [roots] at hq
  | cvs x => simp only [step] at hs; split at hs <;> simp at hs; rw [← hs.1] at hq; simp [roots] at hq
  | ix x i =>
    simp only [step] at hs
    split at hs
    · split at hs
      · simp only [Option.some.injEq, Prod.mk.injEq] at hs; rw [← hs.1] at hq; simp [roots] at hq
      · simp at hs
    · simp at hs
  | len str x => cases str <;> simp only [step] at hs <;> split at hs <;> simp at hs <;> (obtain ⟨h1, _⟩ := hs; subst h1; simp [roots, I64] at hq)
  | mx xs =>
    cases xs <;> simp only [step] at hs
    · simp at hs
    · split at hs
      · simp only [Option.map_eq_some_iff, Prod.mk.injEq] at hs
        obtain ⟨u, h1, rfl, _⟩ := hs
        rw [mxI_roots h1] at hq; simp at hq
      · simp at hs
  | mn xs =>
    cases xs <;> simp only [step] at hs
    · simp at hs
    · split at hs
      · simp only [Option.map_eq_some_iff, Prod.mk.injEq] at hs
        obtain ⟨u, h1, rfl, _⟩ := hs
        rw [mxI_roots h1] at hq; simp at hq
      · simp at hs
  | _ => simp [heapy] at h
end Go.Proofs.Ytldmpjoddghdkaa.AI
