/- The pure statement of the law FnExactTouchOf holds: what the printed functions compute is what the law says, at every argument. -/
import Derived.Test.YtcappoimcdfggaaOpFnExactTouchOf
namespace Go.Proofs.Ytcappoimcdfggaa.Pure
open Go.RowKit Go.Proofs.Ytcappoimcdfggaa.PFnExactTouchOf Go.Proofs.YtcappoimcdfggaaW.PrintWords Go.Proofs.YtcappoimcdfggaaW.PrintLast
set_option linter.unusedSimpArgs false
set_option linter.unusedVariables false
/-! plain words -/
theorem wrap_nat (i : Nat) (h : i ≤ 9223372036854775806) : wrap64 ((i : Int) + 1) = ((i + 1 : Nat) : Int) := by
  unfold wrap64; omega
theorem wrap_in (x : Int) (h1 : -9223372036854775808 ≤ x) (h2 : x ≤ 9223372036854775807) : wrap64 x = x := by
  unfold wrap64; omega
theorem rd_nat (xs : List Int) (i : Nat) : rd xs (i : Int) = xs.getD i 0 := rfl
theorem ev_now {α : Type} {g : Nat → Option α} {r : α} (h : ∀ k, g (k + 1) = some r) : Ev g r := Ev.step (f := fun _ => some r) h (Ev.now r)
theorem ev_eq {α : Type} {g : Nat → Option α} {r q : α} (h : Ev g r) (e : r = q) : Ev g q := e ▸ h
theorem ev_of {α : Type} {g : Nat → Option α} {r : α} (h : ∀ k, g k = some r) : Ev g r := ⟨0, fun k _ => h k⟩
theorem ev_from {α : Type} {g : Nat → Option α} {r : α} (n : Nat) (h : ∀ k, g (k + n) = some r) : Ev g r := ⟨n, fun k hk => by
  have := h (k - n)
  rwa [Nat.sub_add_cancel hk] at this⟩
theorem ev_pos {α : Type} {c : Prop} [Decidable c] {g f : Nat → Option α} {r : α} (hc : c) (h : Ev g r) : Ev (fun k => if c then g k else f k) r := by
  simp only [if_pos hc]; exact h
theorem ev_neg {α : Type} {c : Prop} [Decidable c] {g f : Nat → Option α} {r : α} (hc : ¬ c) (h : Ev f r) : Ev (fun k => if c then g k else f k) r := by
  simp only [if_neg hc]; exact h
theorem getD_drop {α : Type} (xs : List α) (i : Nat) (d : α) (h : i < xs.length) : xs.drop i = xs.getD i d :: xs.drop (i + 1) := by
  rw [List.getD_eq_getElem?_getD, List.getElem?_eq_getElem h]
  exact List.drop_eq_getElem_cons h
theorem rd_drop (xs : List Int) (i : Nat) (h : i < xs.length) : xs.drop i = rd xs (i : Int) :: xs.drop (i + 1) := getD_drop xs i 0 h
/-- A right word. -/
def insOk (op a b c : Int) : Bool := decide (1 ≤ op ∧ op ≤ 10 ∧ 0 ≤ a ∧ a ≤ 7 ∧ 0 ≤ b ∧ b ≤ 7 ∧ 0 ≤ c ∧ c ≤ 4194303 ∧ (op ≠ 4 → b = 0) ∧ (op = 1 → c ≤ 1000000) ∧ (op = 4 → 1 ≤ c ∧ c ≤ 9) ∧ (op = 5 ∨ op = 6 → c = 0) ∧ (op = 8 → a = 0) ∧ (op = 10 → 1 ≤ a))
theorem l01In_f (a lo hi : Int) : spec_l01In.f a lo hi = some (decide (lo ≤ a ∧ a ≤ hi)) := by
  unfold spec_l01In.f
  split
  · simp; omega
  · simp; omega
theorem within_f (a lo hi : Int) : impl_within.f a lo hi = some (decide (lo ≤ a ∧ a ≤ hi)) := by
  unfold impl_within.f
  split
  · simp; omega
  · simp; omega
theorem spec_insOk_j2 (k : Nat) (y : Bool) (op a b c : Int) : spec_InsOk.j2 (k + 1) op y op a b c = some (if y = true then c == 0 else decide ((op = 8 → a = 0) ∧ (op = 10 → 1 ≤ a ∧ a ≤ 7 ∧ b = 0))) := by
  simp only [spec_InsOk.j2, l01In_f, Option.bind_some]
  by_cases h : y = true
  · simp [h]
  · by_cases h8 : op = 8
    · simp [h, h8]; rw [Bool.eq_iff_iff]; simp
    · by_cases h10 : op = 10
      · by_cases ha : 1 ≤ a ∧ a ≤ 7
        · simp [h, h10, ha]; rw [Bool.eq_iff_iff]; simp
        · simp [h, h10, ha]; omega
      · simp [h, h8, h10]
theorem spec_insOk_j1 (k : Nat) (op a b c : Int) : spec_InsOk.j1 (k + 2) false op a b c = some (decide ((op = 1 → c ≤ 1000000) ∧ (op = 4 → 1 ≤ c ∧ c ≤ 9) ∧ (op = 5 ∨ op = 6 → c = 0) ∧ (op = 8 → a = 0) ∧ (op = 10 → 1 ≤ a ∧ a ≤ 7 ∧ b = 0))) := by
  simp only [spec_InsOk.j1, l01In_f, Option.bind_some, spec_insOk_j2]
  by_cases h1 : op = 1
  · simp [h1]
  · by_cases h4 : op = 4
    · simp [h4]
    · by_cases h5 : op = 5
      · simp [h5]; rw [Bool.eq_iff_iff]; simp
      · by_cases h6 : op = 6
        · simp [h6]; rw [Bool.eq_iff_iff]; simp
        · simp [h1, h4, h5, h6]
theorem spec_insOk (k : Nat) (op a b c : Int) : spec_InsOk.f (k + 4) op a b c = some (insOk op a b c) := by
  unfold insOk spec_InsOk.f
  simp only [l01In_f, Option.bind_some, spec_InsOk.j0, spec_insOk_j1]
  by_cases h1 : 1 ≤ op ∧ op ≤ 10
  · by_cases h2 : 0 ≤ a ∧ a ≤ 7
    · by_cases h3 : 0 ≤ b ∧ b ≤ 7
      · by_cases h4 : 0 ≤ c ∧ c ≤ 4194303
        · by_cases e4 : op = 4
          · simp [h1, h2, h3, h4, e4]
          · by_cases e10 : op = 10
            · by_cases hb : b = 0 <;> simp [h1, h2, h3, h4, e10, hb]
            · by_cases hb : b = 0
              · simp [h1, h2, h3, h4, e4, e10, hb, spec_insOk_j1]
              · have hb' : (b != 0) = true := by simp [hb]
                simp only [e4, e10, if_false, hb', spec_InsOk.j1]
                simp [h1, h2, h3, h4, hb, e4]
        · simp [h1, h2, h3, h4]
          omega
      · simp [h1, h2, h3]
        omega
    · simp [h1, h2]
      omega
  · simp [h1]
    omega
theorem impl_insOk_j1 (k : Nat) (y : Bool) (op a b c : Int) : impl_InsOk.j1 (k + 1) op y op a b c = some (if y = true then c == 0 else decide ((op = 8 → a = 0) ∧ (op = 10 → 1 ≤ a))) := by
  simp only [impl_InsOk.j1]
  by_cases h : y = true
  · simp [h]
  · by_cases h8 : op = 8
    · simp [h, h8]; rw [Bool.eq_iff_iff]; simp
    · by_cases h10 : op = 10
      · simp [h, h10]
      · simp [h, h8, h10]
theorem impl_insOk_j0 (k : Nat) (op a b c : Int) : impl_InsOk.j0 (k + 2) false op a b c = some (decide ((op = 1 → c ≤ 1000000) ∧ (op = 4 → 1 ≤ c ∧ c ≤ 9) ∧ (op = 5 ∨ op = 6 → c = 0) ∧ (op = 8 → a = 0) ∧ (op = 10 → 1 ≤ a))) := by
  simp only [impl_InsOk.j0, within_f, Option.bind_some, impl_insOk_j1]
  by_cases h1 : op = 1
  · simp [h1]
  · by_cases h4 : op = 4
    · simp [h4]
    · by_cases h5 : op = 5
      · simp [h5]; rw [Bool.eq_iff_iff]; simp
      · by_cases h6 : op = 6
        · simp [h6]; rw [Bool.eq_iff_iff]; simp
        · simp [h1, h4, h5, h6]
theorem impl_insOk_no (k : Nat) (op a b c : Int) : impl_InsOk.j0 (k + 1) true op a b c = some false := by
  simp [impl_InsOk.j0]
theorem impl_insOk (k : Nat) (op a b c : Int) : impl_InsOk.f (k + 4) op a b c = some (insOk op a b c) := by
  unfold insOk impl_InsOk.f
  simp only [within_f, Option.bind_some, impl_insOk_no]
  by_cases h1 : 1 ≤ op ∧ op ≤ 10
  · by_cases h2 : 0 ≤ a ∧ a ≤ 7
    · by_cases h3 : 0 ≤ b ∧ b ≤ 7
      · by_cases h4 : 0 ≤ c ∧ c ≤ 4194303
        · by_cases e4 : op = 4
          · simp [h1, h2, h3, h4, e4, impl_insOk_j0]
          · by_cases hb : b = 0
            · simp [h1, h2, h3, h4, e4, hb, impl_insOk_j0]
            · have hb' : (b != 0) = true := by simp [hb]
              simp only [hb', impl_insOk_no]
              simp [h1, h2, h3, h4, e4, hb]
        · simp [h1, h2, h3, h4]
          omega
      · simp [h1, h2, h3]
        omega
    · simp [h1, h2]
      omega
  · simp [h1]
    omega
theorem ev_spec_insOk (op a b c : Int) : Ev (fun k => spec_InsOk.f k op a b c) (insOk op a b c) := ev_from 4 (fun k => spec_insOk k op a b c)
theorem ev_impl_insOk (op a b c : Int) : Ev (fun k => impl_InsOk.f k op a b c) (insOk op a b c) := ev_from 4 (fun k => impl_insOk k op a b c)
/-- What a word is read as. -/
def decoded (n : Int) : Int × Int × Int × Int × Bool := if 0 ≤ n ∧ insOk (n / 268435456) (Go.bits .and .i64 (n / 33554432) 7) (Go.bits .and .i64 (n / 4194304) 7) (Go.bits .and .i64 n 4194303) = true then (n / 268435456, Go.bits .and .i64 (n / 33554432) 7, Go.bits .and .i64 (n / 4194304) 7, Go.bits .and .i64 n 4194303, true) else (0, 0, 0, 0, false)
theorem insOk_op {op a b c : Int} (h : insOk op a b c = true) : 1 ≤ op ∧ op ≤ 10 := by
  unfold insOk at h
  have := of_decide_eq_true h
  omega
theorem spec_decoded (n : Int) : Ev (fun k => spec_Decode.f k n) (decoded n) := by
  refine ev_from 4 (fun k => ?_)
  unfold spec_Decode.f decoded
  simp only [l01In_f, Option.bind_some, spec_insOk]
  by_cases h : 0 ≤ n ∧ n ≤ 8589934592
  · cases hi : insOk (n / 268435456) (Go.bits .and .i64 (n / 33554432) 7) (Go.bits .and .i64 (n / 4194304) 7) (Go.bits .and .i64 n 4194303) <;> simp [h]
  · by_cases hi : insOk (n / 268435456) (Go.bits .and .i64 (n / 33554432) 7) (Go.bits .and .i64 (n / 4194304) 7) (Go.bits .and .i64 n 4194303) = true
    · have := insOk_op hi
      have h0 : ¬ 0 ≤ n := by omega
      simp [h, h0]
    · simp [h, hi]
theorem impl_decoded (n : Int) : Ev (fun k => impl_Decode.f k n) (decoded n) := by
  refine ev_from 4 (fun k => ?_)
  unfold impl_Decode.f decoded
  simp only [Option.bind_some, impl_insOk]
  by_cases h : n < 0
  · have h0 : ¬ 0 ≤ n := by omega
    simp [h, h0]
  · have h0 : 0 ≤ n := by omega
    cases hi : insOk (n / 268435456) (Go.bits .and .i64 (n / 33554432) 7) (Go.bits .and .i64 (n / 4194304) 7) (Go.bits .and .i64 n 4194303) <;> simp [h, h0]
/-! slices of whole numbers: eq, to -/
theorem eqIntS_l0 (xs ys : List Int) (hl : xs.length = ys.length) (hb : xs.length ≤ 9000000000000000000) : ∀ d i : Nat, i + d = xs.length → Ev (fun k => laws_eqIntS.l0 k xs ys (i : Int)) (decide (xs.drop i = ys.drop i))
  | 0, i, h => by
    refine ev_now (fun k => ?_)
    simp (disch := omega) only [laws_eqIntS.l0, if_neg]
    rw [List.drop_of_length_le (by omega), List.drop_of_length_le (by omega)]
    simp
  | d + 1, i, h => by
    have ih := eqIntS_l0 xs ys hl hb d (i + 1) (by omega)
    rw [rd_drop xs i (by omega), rd_drop ys i (by omega)]
    by_cases e : rd xs (i : Int) = rd ys (i : Int)
    · refine Ev.step (f := fun k => laws_eqIntS.l0 k xs ys ((i + 1 : Nat) : Int)) (fun k => ?_) (ev_eq ih ?_)
      · simp (disch := omega) only [laws_eqIntS.l0, if_pos, wrap_nat]
      · simp only [List.cons.injEq, e, true_and]
    · refine ev_now (fun k => ?_)
      simp (disch := omega) only [laws_eqIntS.l0, if_pos]
      rw [if_neg e]
      simp [e]
theorem eqIntS_ev (xs ys : List Int) (hb : xs.length ≤ 9000000000000000000) : Ev (fun k => laws_eqIntS.f k xs ys) (decide (xs = ys)) := by
  by_cases hl : xs.length = ys.length
  · refine Ev.congr (f := fun k => laws_eqIntS.l0 k xs ys ((0 : Nat) : Int)) (fun k => ?_) (eqIntS_l0 xs ys hl hb xs.length 0 (by omega))
    simp (disch := omega) only [laws_eqIntS.f, if_pos]
    rfl
  · refine ev_of (fun k => ?_)
    simp (disch := omega) only [laws_eqIntS.f, if_neg]
    have : xs ≠ ys := fun e => hl (by rw [e])
    simp [this]
theorem eqIntS_self (xs : List Int) (hb : xs.length ≤ 9000000000000000000) : Ev (fun k => laws_eqIntS.f k xs xs) true := ev_eq (eqIntS_ev xs xs hb) (by simp)
theorem toIntS_l0 (xs : List Int) (hb : xs.length ≤ 9000000000000000000) : ∀ (d i : Nat) (ys : List Int), i + d = xs.length → ys.length = xs.length → ys.take i = xs.take i → Ev (fun k => laws_toIntS.l0 k xs ys (i : Int)) xs
  | 0, i, ys, h, hl, ht => by
    refine ev_now (fun k => ?_)
    simp (disch := omega) only [laws_toIntS.l0, if_neg]
    rw [List.take_of_length_le (by omega), List.take_of_length_le (by omega)] at ht
    rw [ht]
  | d + 1, i, ys, h, hl, ht => by
    have ih := toIntS_l0 xs hb d (i + 1) (ys.set i (xs.getD i 0)) (by omega) (by simp [hl]) (by
      apply List.ext_getElem?
      intro j
      by_cases hj : j < i + 1
      · rw [List.getElem?_take_of_lt hj, List.getElem?_take_of_lt hj]
        by_cases e : i = j
        · subst e
          rw [List.getElem?_set_self (by omega), List.getD_eq_getElem?_getD, List.getElem?_eq_getElem (by omega)]
          rfl
        · rw [List.getElem?_set_ne e]
          have := congrArg (fun l => l[j]?) ht
          simp only [List.getElem?_take_of_lt (show j < i by omega)] at this
          exact this
      · rw [List.getElem?_eq_none (by simp; omega), List.getElem?_eq_none (by simp; omega)])
    refine Ev.step (f := fun k => laws_toIntS.l0 k xs (ys.set i (xs.getD i 0)) ((i + 1 : Nat) : Int)) (fun k => ?_) ih
    simp (disch := omega) only [laws_toIntS.l0, if_pos, wrap_nat, rd_nat, Int.toNat_natCast]
theorem toIntS_ev (xs : List Int) (hb : xs.length ≤ 35184372088832) : Ev (fun k => laws_toIntS.f k xs) xs := by
  refine Ev.congr (f := fun k => laws_toIntS.l0 k xs (List.replicate xs.length 0) ((0 : Nat) : Int)) (fun k => ?_) (toIntS_l0 xs (by omega) xs.length 0 _ (by omega) (by simp) (by simp))
  simp (disch := omega) only [laws_toIntS.f, if_pos, Int.toNat_natCast]
  rfl
/-- C of a word that is about a place of memory. -/
def touched (xs : List Int) (pc : Int) : Int := if 0 ≤ pc ∧ pc < (xs.length : Int) ∧ (decoded (rd xs pc)).2.2.2.2 = true ∧ ((decoded (rd xs pc)).1 = 2 ∨ (decoded (rd xs pc)).1 = 3 ∨ (decoded (rd xs pc)).1 = 9) then (decoded (rd xs pc)).2.2.2.1 else -1
theorem spec_touched (xs : List Int) (pc : Int) (hl : xs.length ≤ 35184372088832) : Ev (fun k => spec_TouchOf.f k xs pc) (touched xs pc) := by
  unfold spec_TouchOf.f touched
  rw [wrap_in _ (by omega) (by omega)]
  simp only [l01In_f, Option.bind_some]
  by_cases h : 0 ≤ pc ∧ pc ≤ (xs.length : Int) - 1
  · have h1 : 0 ≤ pc := h.1
    have h2 : pc < (xs.length : Int) := by omega
    simp only [h, h1, h2, decide_true, if_true, and_self, true_and]
    refine Ev.bind (spec_decoded _) (ev_of fun k => ?_)
    repeat' split
    all_goals simp_all
  · have h2 : ¬ (0 ≤ pc ∧ pc < (xs.length : Int)) := by omega
    refine ev_of fun k => ?_
    rw [if_neg (by simpa using h), if_neg (by rintro ⟨a, b, _⟩; exact h2 ⟨a, b⟩)]
theorem impl_touched (xs : List Int) (pc : Int) (hl : xs.length ≤ 35184372088832) : Ev (fun k => impl_TouchOf.f k xs pc) (touched xs pc) := by
  unfold impl_TouchOf.f impl_wordAt.f touched
  rw [wrap_in _ (by omega) (by omega)]
  simp only [within_f, Option.bind_some]
  by_cases h : 0 ≤ pc ∧ pc ≤ (xs.length : Int) - 1
  · have h1 : 0 ≤ pc := h.1
    have h2 : pc < (xs.length : Int) := by omega
    simp only [h, h1, h2, decide_true, if_true, and_self, true_and]
    refine Ev.bind (Ev.bind (impl_decoded _) (Ev.now _)) (ev_of fun k => ?_)
    simp only [impl_usesMem.f]
    by_cases ho : (decoded (rd xs pc)).2.2.2.2 = true
    · by_cases e2 : (decoded (rd xs pc)).1 = 2
      · simp [ho, e2]
      · by_cases e3 : (decoded (rd xs pc)).1 = 3
        · simp [ho, e3]
        · by_cases e9 : (decoded (rd xs pc)).1 = 9
          · simp [ho, e9]
          · simp [ho, e2, e3, e9]
    · simp [ho]
  · have h2 : ¬ (0 ≤ pc ∧ pc < (xs.length : Int)) := by omega
    refine ev_of fun k => ?_
    rw [if_neg (by simpa using h), if_neg (by rintro ⟨a, b, _⟩; exact h2 ⟨a, b⟩)]
    simp
theorem FnExactTouchOf : laws_FnExactTouchOf.Says := by
  rintro xs pc ⟨hm, hs, hw⟩ hp
  have hl : xs.length ≤ 35184372088832 := by omega
  refine Ev.rounds (r := true) ?_
  unfold laws_FnExactTouchOf.f
  by_cases hg : (xs.length : Int) > 1048576
  · exact ev_pos hg (Ev.now _)
  · refine ev_neg hg ?_
    refine Ev.bind (toIntS_ev xs hl) (Ev.bind (spec_touched xs pc hl) (Ev.bind (toIntS_ev xs hl) (Ev.bind (impl_touched xs pc hl) (ev_pos rfl (Ev.bind (toIntS_ev xs hl) (Ev.bind (eqIntS_self xs (by omega)) (ev_of fun k => by simp)))))))

end Go.Proofs.Ytcappoimcdfggaa.Pure
