/- Loops of the reckoner. -/
import Derived.Test.YtdhmlhlpdejefaaAMark
namespace Go.Proofs.Ytdhmlhlpdejefaa.AI
set_option linter.all false
open Go.RowKit
set_option autoImplicit false
set_option linter.unusedVariables false
set_option linter.unusedSimpArgs false

/-- A loop whose states are known at its head and behind it. -/
theorem loop_run {α : Type} {ctx : Ctx} {base : Nat} {keep : List Nat} {keepx : List (Nat × List Nat)} {body : RC} (st : α → St) (μ : α → Nat) (res : α → Ex × St)
    (hstep : ∀ a, (∃ a' s1, run ctx base body (st a) = some (.nrm, s1) ∧ gc base keep s1 = st a' ∧ μ a' < μ a ∧ res a' = res a) ∨ (∃ s1, run ctx base body (st a) = some ((res a).1, s1) ∧ (res a).1 ≠ .nrm ∧ gc base (kOf keepx (exN (res a).1)) s1 = (res a).2)) :
    ∀ (a : α) (s : St), gc base keep s = st a → run ctx base (.loop keep keepx body) s = some (res a) := by
  have key : ∀ n a s, μ a ≤ n → gc base keep s = st a → ∃ m s1, iterN (fun s => run ctx base body (gc base keep s)) m s = some ((res a).1, s1) ∧ gc base (kOf keepx (exN (res a).1)) s1 = (res a).2 := by
    have last : ∀ a s, gc base keep s = st a → (∃ s1, run ctx base body (st a) = some ((res a).1, s1) ∧ (res a).1 ≠ .nrm ∧ gc base (kOf keepx (exN (res a).1)) s1 = (res a).2) → ∃ m s1, iterN (fun s => run ctx base body (gc base keep s)) m s = some ((res a).1, s1) ∧ gc base (kOf keepx (exN (res a).1)) s1 = (res a).2 := by
      rintro a s hs ⟨s1, h1, h2, h3⟩
      refine ⟨1, s1, ?_, h3⟩
      simp only [iterN, hs, h1]
      generalize (res a).1 = e at h2
      cases e <;> simp_all
    intro n
    induction n with
    | zero =>
      intro a s hm hs
      rcases hstep a with ⟨a', s1, _, _, h3, _⟩ | h
      · omega
      · exact last a s hs h
    | succ n ih =>
      intro a s hm hs
      rcases hstep a with ⟨a', s1, h1, h2, h3, h4⟩ | h
      · obtain ⟨m, s2, hm', h5⟩ := ih a' s1 (by omega) h2
        exact ⟨m + 1, s2, by simp only [iterN, hs, h1]; rw [hm', h4], by rw [← h4]; exact h5⟩
      · exact last a s hs h
  have mono : ∀ (f : St → Option (Ex × St)) (n m : Nat) (s : St) (r : Ex × St), iterN f n s = some r → n ≤ m → iterN f m s = some r := by
    intro f n
    induction n with
    | zero => intro m s r h _; simp [iterN] at h
    | succ n ih =>
      intro m s r h hle
      cases m with
      | zero => omega
      | succ m =>
        simp only [iterN] at h ⊢
        split at h
        · rename_i s' hs'
          exact ih m s' r h (by omega)
        · exact h
  intro a s hs
  obtain ⟨m, s1, hm, hx⟩ := key (μ a) a s (Nat.le_refl _) hs
  have hex : ∃ n, (iterN (fun s => run ctx base body (gc base keep s)) n s).isSome := ⟨m, by rw [hm]; rfl⟩
  simp only [run, iterW, dif_pos hex]
  have h1 := hex.choose_spec
  obtain ⟨r, hr⟩ := Option.isSome_iff_exists.1 h1
  have e : r = ((res a).1, s1) := by
    rcases Nat.le_total hex.choose m with h | h
    · have := mono _ _ _ _ _ hr h; rw [hm] at this; simpa using this.symm
    · have := mono _ _ _ _ _ hm h; rw [hr] at this; simpa using this
  rw [hr, e]
  simp only [hx]

/-- Through a list, to its end or till it is left. -/
def scan {β α : Type} (f : β → α → α ⊕ (Ex × St)) (fin : α → Ex × St) : List β → α → Ex × St
  | [], a => fin a
  | x :: xs, a => match f x a with | .inl a' => scan f fin xs a' | .inr r => r

/-- A way on which a loop is left. -/
def Leaves (ctx : Ctx) (base : Nat) (keepx : List (Nat × List Nat)) (body : RC) (s : St) (r : Ex × St) : Prop :=
  match run ctx base body s with
  | some (e, s1) => e ≠ .nrm ∧ (e, gc base (kOf keepx (exN e)) s1) = r
  | none => False

def Goes1 (ctx : Ctx) (base : Nat) (keep : List Nat) (body : RC) (s s' : St) : Prop :=
  match run ctx base body s with
  | some (.nrm, s1) => gc base keep s1 = s'
  | _ => False

theorem Leaves.out {ctx : Ctx} {base : Nat} {keepx : List (Nat × List Nat)} {body : RC} {s : St} {r : Ex × St} (h : Leaves ctx base keepx body s r) : ∃ s1, run ctx base body s = some (r.1, s1) ∧ r.1 ≠ .nrm ∧ gc base (kOf keepx (exN r.1)) s1 = r.2 := by
  unfold Leaves at h
  split at h
  · rename_i e s1 hs
    obtain ⟨h1, rfl⟩ := h
    exact ⟨s1, hs, h1, rfl⟩
  · exact h.elim

theorem Goes1.out {ctx : Ctx} {base : Nat} {keep : List Nat} {body : RC} {s s' : St} (h : Goes1 ctx base keep body s s') : ∃ s1, run ctx base body s = some (.nrm, s1) ∧ gc base keep s1 = s' := by
  unfold Goes1 at h
  split at h
  · rename_i s1 hs
    exact ⟨s1, hs, h⟩
  · exact h.elim

/-- A loop through a list by its index. -/
theorem loop_scan {β α : Type} {ctx : Ctx} {base : Nat} {keep : List Nat} {keepx : List (Nat × List Nat)} {body : RC} (xs : List β) (I : Nat → α → Prop) (st : Nat → α → St) (f : β → α → α ⊕ (Ex × St)) (fin : α → Ex × St)
    (hstep : ∀ i (h : i < xs.length) a, I i a → (match f xs[i] a with | .inl a' => Goes1 ctx base keep body (st i a) (st (i + 1) a') ∧ I (i + 1) a' | .inr r => Leaves ctx base keepx body (st i a) r))
    (hend : ∀ a, I xs.length a → Leaves ctx base keepx body (st xs.length a) (fin a)) {a : α} {s : St} (hI : I 0 a) (hs : gc base keep s = st 0 a) :
    run ctx base (.loop keep keepx body) s = some (scan f fin xs a) := by
  refine loop_run (α := { x : Nat × α // x.1 ≤ xs.length ∧ I x.1 x.2 }) (fun x => st x.1.1 x.1.2) (fun x => xs.length - x.1.1) (fun x => scan f fin (xs.drop x.1.1) x.1.2) ?_ ⟨(0, a), by simp [hI]⟩ s hs
  rintro ⟨⟨i, a⟩, hi, hIa⟩
  simp only at hi hIa ⊢
  by_cases h : i < xs.length
  · have hd : xs.drop i = xs[i] :: xs.drop (i + 1) := List.drop_eq_getElem_cons h
    have := hstep i h a hIa
    cases hf : f xs[i] a with
    | inl a' =>
      rw [hf] at this
      obtain ⟨hg, h3⟩ := this
      obtain ⟨s1, h1, h2⟩ := hg.out
      left
      refine ⟨⟨(i + 1, a'), by simp only; omega, h3⟩, s1, h1, h2, by simp only; omega, ?_⟩
      rw [hd]
      simp only [scan, hf]
    | inr r =>
      rw [hf] at this
      obtain ⟨s1, h1, h2, h3⟩ := this.out
      right
      rw [hd]
      simp only [scan, hf]
      exact ⟨s1, h1, h2, h3⟩
  · have e : i = xs.length := by omega
    subst e
    obtain ⟨s1, h1, h2, h3⟩ := (hend a hIa).out
    right
    rw [List.drop_length]
    simp only [scan]
    exact ⟨s1, h1, h2, h3⟩

section
variable {ctx : Ctx} {base : Nat}
theorem run_skip {s : St} : run ctx base .skip s = some (.nrm, s) := by simp only [run]
theorem run_reg {ops : List ROp} {s : St} : run ctx base (.reg ops) s = match runR ctx ops s with | some s' => some (.nrm, s') | none => none := by
  simp only [run]
  rfl
theorem run_regd {ops : List (Nat × ROp)} {ps : List (Nat × Nat)} {s : St} : run ctx base (.regd ops ps) s = match runRD ctx ps ops s [] with | some (s', _) => some (.nrm, s') | none => none := by
  simp only [run]
  rfl
theorem run_seq {a b : RC} {s : St} : run ctx base (.seq a b) s = match run ctx base a s with | some (.nrm, s') => run ctx base b s' | r => r := by
  simp only [run]
  rfl
theorem run_cond {c : X} {a b : RC} {s : St} : run ctx base (.cond c a b) s = match ev s.tm c with | .bool t => if t = true then run ctx base a s else run ctx base b s | _ => none := by
  simp only [run]
  rfl
theorem run_block {i : Nat} {a : RC} {s : St} : run ctx base (.block i a) s = match run ctx base a s with | some (.exit j, s') => if j = i then some (.nrm, s') else some (.exit j, s') | r => r := by
  simp only [run]
  rfl
theorem run_exit {i : Nat} {s : St} : run ctx base (.exit i) s = some (.exit i, s) := by simp only [run]
theorem run_ret {s : St} : run ctx base .ret s = some (.ret, s) := by simp only [run]
end

theorem getRow {α : Type} (f : α → List AV) (xs : List α) {i : Nat} (h : i < xs.length) : (xs.map f).getD i [] = f xs[i] := by simp [List.getD_eq_getElem?_getD, h]

theorem wrapI {n : Int} (h1 : -9223372036854775808 ≤ n) (h2 : n < 9223372036854775808) : IntKind.wrap .i64 n = n := by
  simp [IntKind.wrap, IntKind.bits, IntKind.signed]; omega

/-- A call by value. -/
def byvS (G : ByV) (args : List AV) (hp : Hp) : Option (AV × Hp) :=
  match mapO (packR 5 hp) args with
  | none => none
  | some ps => match G.sem ps with | none => none | some (v, _) => some (unown v hp)

theorem callS_byv {G : ByV} (h1 : G.mt = none) (h2 : G.ro = false) (args : List AV) (hp : Hp) : callS (.byv G) args hp = byvS G args hp := by
  simp only [callS, byvS, h1, h2, Bool.false_eq_true, if_false]
  rfl

end Go.Proofs.Ytdhmlhlpdejefaa.AI
