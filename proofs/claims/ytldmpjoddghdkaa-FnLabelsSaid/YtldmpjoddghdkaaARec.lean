import Derived.Test.YtldmpjoddghdkaaAFrame
namespace Go.Proofs.Ytldmpjoddghdkaa.AI
set_option linter.all false
open Go.RowKit
set_option autoImplicit false
set_option linter.unusedVariables false
set_option linter.unusedSimpArgs false
variable [Tabs]
open Classical in
noncomputable def lim {α β : Type} (f : Nat → α → Option β) (a : α) : Option β := if h : ∃ v, ∃ N, ∀ n, N ≤ n → f n a = some v then some h.choose else none
theorem lim_eq {α β : Type} {f : Nat → α → Option β} {a : α} {v : β} (N : Nat) (h : ∀ n, N ≤ n → f n a = some v) : lim f a = some v := by
  have hex : ∃ v, ∃ N, ∀ n, N ≤ n → f n a = some v := ⟨v, N, h⟩
  unfold lim
  rw [dif_pos hex]
  obtain ⟨M, hM⟩ := hex.choose_spec
  have h1 := hM (max M N) (by omega)
  have h2 := h (max M N) (by omega)
  rw [h1] at h2
  exact h2
theorem lim_some {α β : Type} {f : Nat → α → Option β} {a : α} {v : β} (h : lim f a = some v) : ∃ N, ∀ n, N ≤ n → f n a = some v := by
  unfold lim at h
  split at h
  · rename_i hex
    simp only [Option.some.injEq] at h
    rw [← h]
    exact hex.choose_spec
  · simp at h
noncomputable def limI (f : Nat → List AV → Hp → Option (AV × Hp)) (args : List AV) (hp : Hp) : Option (AV × Hp) := lim (fun n (x : List AV × Hp) => f n x.1 x.2) (args, hp)
theorem limI_eq {f : Nat → List AV → Hp → Option (AV × Hp)} {args : List AV} {hp : Hp} {v : AV × Hp} (N : Nat) (h : ∀ n, N ≤ n → f n args hp = some v) : limI f args hp = some v := lim_eq N h
theorem byv_lim {P : Program} {f : FuncId} {s : Nat → List AV → Option (AV × List (List AV))} (h : ∀ n, InlOk P f (callS (.byv ⟨none, false, s n⟩))) : InlOk P f (callS (.byv ⟨none, false, lim s⟩)) := by
  refine ⟨(h 0).1, ?_⟩
  intro RO w hp L avs args v hp' hrel hV hcall
  simp only [callS] at hcall
  cases hp1 : mapO (packR 5 hp) avs with
  | none => rw [hp1] at hcall; simp at hcall
  | some ps =>
    rw [hp1] at hcall
    simp only at hcall
    cases hl : lim s ps with
    | none => rw [hl] at hcall; simp at hcall
    | some r =>
      rw [hl] at hcall
      obtain ⟨N, hN⟩ := lim_some hl
      refine (h N).2 RO w hp L avs args v hp' hrel hV ?_
      simp only [callS, hp1, hN N (Nat.le_refl _)]
      exact hcall
theorem inl_lim {P : Program} {f : FuncId} {s : Nat → List AV → Hp → Option (AV × Hp)} (h : ∀ n, InlOk P f (s n)) : InlOk P f (limI s) := by
  refine ⟨(h 0).1, ?_⟩
  intro RO w hp L avs args v hp' hrel hV hcall
  obtain ⟨N, hN⟩ := lim_some hcall
  exact (h N).2 RO w hp L avs args v hp' hrel hV (hN N (Nat.le_refl _))
end Go.Proofs.Ytldmpjoddghdkaa.AI
