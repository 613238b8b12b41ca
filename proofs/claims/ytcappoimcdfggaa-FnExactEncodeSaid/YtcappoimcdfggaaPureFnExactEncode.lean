/- The pure statement of the law FnExactEncode holds: what the printed functions compute is what the law says, at every argument. -/
import Derived.Test.YtcappoimcdfggaaOpFnExactEncode
namespace Go.Proofs.Ytcappoimcdfggaa.Pure
open Go.RowKit Go.Proofs.Ytcappoimcdfggaa.PFnExactEncode Go.Proofs.YtcappoimcdfggaaW.PrintWords Go.Proofs.YtcappoimcdfggaaW.PrintLast
set_option linter.unusedSimpArgs false
set_option linter.unusedVariables false
/-- A right word. -/
def insOk (op a b c : Int) : Bool := decide (1 ≤ op ∧ op ≤ 10 ∧ 0 ≤ a ∧ a ≤ 7 ∧ 0 ≤ b ∧ b ≤ 7 ∧ 0 ≤ c ∧ c ≤ 4194303 ∧ (op ≠ 4 → b = 0) ∧ (op = 1 → c ≤ 1000000) ∧ (op = 4 → 1 ≤ c ∧ c ≤ 9) ∧ (op = 5 ∨ op = 6 → c = 0) ∧ (op = 8 → a = 0) ∧ (op = 10 → 1 ≤ a))
theorem l01In_f (a lo hi : Int) : spec_l01In.f a lo hi = some (decide (lo ≤ a ∧ a ≤ hi)) := by
  unfold spec_l01In.f
  split
  · simp; omega
  · simp; omega
theorem within_f (a lo hi : Int) : impl_within.f a lo hi = some (decide (lo ≤ a ∧ a ≤ hi)) := by
  unfold impl_within.f
  split
  · simp; omega
  · simp; omega
theorem spec_insOk_j2 (k : Nat) (y : Bool) (op a b c : Int) : spec_InsOk.j2 (k + 1) op y op a b c = some (if y = true then c == 0 else decide ((op = 8 → a = 0) ∧ (op = 10 → 1 ≤ a ∧ a ≤ 7 ∧ b = 0))) := by
  simp only [spec_InsOk.j2, l01In_f, Option.bind_some]
  by_cases h : y = true
  · simp [h]
  · by_cases h8 : op = 8
    · simp [h, h8]; rw [Bool.eq_iff_iff]; simp
    · by_cases h10 : op = 10
      · by_cases ha : 1 ≤ a ∧ a ≤ 7
        · simp [h, h10, ha]; rw [Bool.eq_iff_iff]; simp
        · simp [h, h10, ha]; omega
      · simp [h, h8, h10]
theorem spec_insOk_j1 (k : Nat) (op a b c : Int) : spec_InsOk.j1 (k + 2) false op a b c = some (decide ((op = 1 → c ≤ 1000000) ∧ (op = 4 → 1 ≤ c ∧ c ≤ 9) ∧ (op = 5 ∨ op = 6 → c = 0) ∧ (op = 8 → a = 0) ∧ (op = 10 → 1 ≤ a ∧ a ≤ 7 ∧ b = 0))) := by
  simp only [spec_InsOk.j1, l01In_f, Option.bind_some, spec_insOk_j2]
  by_cases h1 : op = 1
  · simp [h1]
  · by_cases h4 : op = 4
    · simp [h4]
    · by_cases h5 : op = 5
      · simp [h5]; rw [Bool.eq_iff_iff]; simp
      · by_cases h6 : op = 6
        · simp [h6]; rw [Bool.eq_iff_iff]; simp
        · simp [h1, h4, h5, h6]
theorem spec_insOk (k : Nat) (op a b c : Int) : spec_InsOk.f (k + 4) op a b c = some (insOk op a b c) := by
  unfold insOk spec_InsOk.f
  simp only [l01In_f, Option.bind_some, spec_InsOk.j0, spec_insOk_j1]
  by_cases h1 : 1 ≤ op ∧ op ≤ 10
  · by_cases h2 : 0 ≤ a ∧ a ≤ 7
    · by_cases h3 : 0 ≤ b ∧ b ≤ 7
      · by_cases h4 : 0 ≤ c ∧ c ≤ 4194303
        · by_cases e4 : op = 4
          · simp [h1, h2, h3, h4, e4]
          · by_cases e10 : op = 10
            · by_cases hb : b = 0 <;> simp [h1, h2, h3, h4, e10, hb]
            · by_cases hb : b = 0
              · simp [h1, h2, h3, h4, e4, e10, hb, spec_insOk_j1]
              · have hb' : (b != 0) = true := by simp [hb]
                simp only [e4, e10, if_false, hb', spec_InsOk.j1]
                simp [h1, h2, h3, h4, hb, e4]
        · simp [h1, h2, h3, h4]
          omega
      · simp [h1, h2, h3]
        omega
    · simp [h1, h2]
      omega
  · simp [h1]
    omega
theorem impl_insOk_j1 (k : Nat) (y : Bool) (op a b c : Int) : impl_InsOk.j1 (k + 1) op y op a b c = some (if y = true then c == 0 else decide ((op = 8 → a = 0) ∧ (op = 10 → 1 ≤ a))) := by
  simp only [impl_InsOk.j1]
  by_cases h : y = true
  · simp [h]
  · by_cases h8 : op = 8
    · simp [h, h8]; rw [Bool.eq_iff_iff]; simp
    · by_cases h10 : op = 10
      · simp [h, h10]
      · simp [h, h8, h10]
theorem impl_insOk_j0 (k : Nat) (op a b c : Int) : impl_InsOk.j0 (k + 2) false op a b c = some (decide ((op = 1 → c ≤ 1000000) ∧ (op = 4 → 1 ≤ c ∧ c ≤ 9) ∧ (op = 5 ∨ op = 6 → c = 0) ∧ (op = 8 → a = 0) ∧ (op = 10 → 1 ≤ a))) := by
  simp only [impl_InsOk.j0, within_f, Option.bind_some, impl_insOk_j1]
  by_cases h1 : op = 1
  · simp [h1]
  · by_cases h4 : op = 4
    · simp [h4]
    · by_cases h5 : op = 5
      · simp [h5]; rw [Bool.eq_iff_iff]; simp
      · by_cases h6 : op = 6
        · simp [h6]; rw [Bool.eq_iff_iff]; simp
        · simp [h1, h4, h5, h6]
theorem impl_insOk_no (k : Nat) (op a b c : Int) : impl_InsOk.j0 (k + 1) true op a b c = some false := by
  simp [impl_InsOk.j0]
theorem impl_insOk (k : Nat) (op a b c : Int) : impl_InsOk.f (k + 4) op a b c = some (insOk op a b c) := by
  unfold insOk impl_InsOk.f
  simp only [within_f, Option.bind_some, impl_insOk_no]
  by_cases h1 : 1 ≤ op ∧ op ≤ 10
  · by_cases h2 : 0 ≤ a ∧ a ≤ 7
    · by_cases h3 : 0 ≤ b ∧ b ≤ 7
      · by_cases h4 : 0 ≤ c ∧ c ≤ 4194303
        · by_cases e4 : op = 4
          · simp [h1, h2, h3, h4, e4, impl_insOk_j0]
          · by_cases hb : b = 0
            · simp [h1, h2, h3, h4, e4, hb, impl_insOk_j0]
            · have hb' : (b != 0) = true := by simp [hb]
              simp only [hb', impl_insOk_no]
              simp [h1, h2, h3, h4, e4, hb]
        · simp [h1, h2, h3, h4]
          omega
      · simp [h1, h2, h3]
        omega
    · simp [h1, h2]
      omega
  · simp [h1]
    omega
theorem FnExactEncode : laws_FnExactEncode.Says := by
  intro a b c d ha hb hc hd
  refine ⟨4, ?_⟩
  have h1 := spec_insOk 0 a b c d
  have h2 := impl_insOk 0 a b c d
  simp only [Nat.zero_add] at h1 h2
  cases h : insOk a b c d <;> rw [h] at h1 h2 <;> simp [laws_FnExactEncode.f, laws_toIns.f, spec_Encode.f, impl_Encode.f, h1, h2]

end Go.Proofs.Ytcappoimcdfggaa.Pure
