/- The pure statement of the law FnExactImageOk holds: what the printed functions compute is what the law says, at every argument. -/
import Derived.Test.YtcappoimcdfggaaOpFnExactImageOk
import Derived.Test.YtcappoimcdfggaaPlFnExactImageOk
namespace Go.Proofs.Ytcappoimcdfggaa.Pure
open Go.RowKit Go.Proofs.Ytcappoimcdfggaa.PFnExactImageOk Go.Proofs.YtcappoimcdfggaaW.PrintWords Go.Proofs.YtcappoimcdfggaaW.PrintLast Go.Proofs.Ytcappoimcdfggaa.Pl
set_option linter.unusedSimpArgs false
set_option linter.unusedVariables false
theorem szIntS_ev (xs : List Int) (m : Int) (hx : xs.length ≤ 140737488351232) (h0 : 0 ≤ m) (hm : m ≤ 4611686018427387904) : Ev (fun _ => laws_szIntS.f xs m) (lft m xs.length) := sz_end h0 hm (by omega)
theorem szImage_ev (x0 : List Int) (x1 : List Int) (x2 : Int) (m : Int) (hx0 : x0.length ≤ 140737488351232) (hx1 : x1.length ≤ 140737488351232) (h0 : 0 ≤ m) (hm : m ≤ 4611686018427387904) : Ev (fun _ => laws_szImage.f x0 x1 x2 m) (lft m (x0.length + (x1.length))) := by
  unfold laws_szImage.f
  refine sz_chain (szIntS_ev x0 _ hx0 h0 hm) (fun c => ?_)
  have hc := lft_le c h0 hm
  exact sz_last (szIntS_ev x1 _ hx1 hc.1 hc.2)
theorem toIntS_ev (xs : List Int) (hb : xs.length ≤ 2000000000000) : Ev (fun k => laws_toIntS.f k xs) xs := by
  refine ev_eq (Ev.congr (f := fun k => laws_toIntS.l0 k xs (List.replicate xs.length 0) ((0 : Nat) : Int)) (fun k => ?_) (fill_ev (fun k ys i => laws_toIntS.l0 k xs ys i) (fun x => x) xs 0 (fun i ys r hi hy h => ev_succ ?_) (fun ys hy => ev_now (fun k => ?_)) xs.length 0 _ (by omega) (by simp) (by simp))) (by simp)
  · simp (disch := omega) only [laws_toIntS.f, if_pos, Int.toNat_natCast]; rfl
  · simp (disch := omega) only [laws_toIntS.l0, if_pos, wrap_nat, Int.toNat_natCast]; exact h
  · simp (disch := omega) only [laws_toIntS.l0, if_neg]
theorem toImage_ev (x0 : List Int) (x1 : List Int) (x2 : Int) (hx0 : x0.length ≤ 2000000000000) (hx1 : x1.length ≤ 2000000000000) : Ev (fun k => laws_toImage.f k x0 x1 x2) (x0, x1, x2) := by
  unfold laws_toImage.f
  exact Ev.bind (toIntS_ev x0 hx0) (Ev.bind (toIntS_ev x1 hx1) (Ev.now _))
theorem eqIntS_self (xs : List Int) (hb : xs.length ≤ 9000000000000000000) : Ev (fun k => laws_eqIntS.f k xs xs) true := by
  refine Ev.congr (f := fun k => laws_eqIntS.l0 k xs xs ((0 : Nat) : Int)) (fun k => ?_) (up_ev (fun k i => laws_eqIntS.l0 k xs xs i) xs.length true (fun i hi h => ev_succ ?_) (ev_now (fun k => ?_)) xs.length 0 (by omega))
  · simp (disch := omega) only [laws_eqIntS.f, if_pos]; rfl
  · simp (disch := omega) only [laws_eqIntS.l0, if_pos, wrap_nat, eq_self, if_true, bne_self_eq_false, Bool.false_eq_true, if_false]; exact h
  · simp (disch := omega) only [laws_eqIntS.l0, if_neg]
theorem eqImage_self (x0 : List Int) (x1 : List Int) (x2 : Int) (hx0 : x0.length ≤ 9000000000000000000) (hx1 : x1.length ≤ 9000000000000000000) : Ev (fun k => laws_eqImage.f k x0 x1 x2 x0 x1 x2) true := by
  unfold laws_eqImage.f
  exact Ev.bind (eqIntS_self x0 hx0) (ev_pos rfl (Ev.bind (eqIntS_self x1 hx1) (ev_pos rfl (ev_pos rfl (Ev.now _)))))
/-- A right word. -/
def insOk (op a b c : Int) : Bool := decide (1 ≤ op ∧ op ≤ 10 ∧ 0 ≤ a ∧ a ≤ 7 ∧ 0 ≤ b ∧ b ≤ 7 ∧ 0 ≤ c ∧ c ≤ 4194303 ∧ (op ≠ 4 → b = 0) ∧ (op = 1 → c ≤ 1000000) ∧ (op = 4 → 1 ≤ c ∧ c ≤ 9) ∧ (op = 5 ∨ op = 6 → c = 0) ∧ (op = 8 → a = 0) ∧ (op = 10 → 1 ≤ a))
theorem l01In_f (a lo hi : Int) : spec_l01In.f a lo hi = some (decide (lo ≤ a ∧ a ≤ hi)) := by
  unfold spec_l01In.f
  split
  · simp; omega
  · simp; omega
theorem within_f (a lo hi : Int) : impl_within.f a lo hi = some (decide (lo ≤ a ∧ a ≤ hi)) := by
  unfold impl_within.f
  split
  · simp; omega
  · simp; omega
theorem spec_insOk_j2 (k : Nat) (y : Bool) (op a b c : Int) : spec_InsOk.j2 (k + 1) op y op a b c = some (if y = true then c == 0 else decide ((op = 8 → a = 0) ∧ (op = 10 → 1 ≤ a ∧ a ≤ 7 ∧ b = 0))) := by
  simp only [spec_InsOk.j2, l01In_f, Option.bind_some]
  by_cases h : y = true
  · simp [h]
  · by_cases h8 : op = 8
    · simp [h, h8]; rw [Bool.eq_iff_iff]; simp
    · by_cases h10 : op = 10
      · by_cases ha : 1 ≤ a ∧ a ≤ 7
        · simp [h, h10, ha]; rw [Bool.eq_iff_iff]; simp
        · simp [h, h10, ha]; omega
      · simp [h, h8, h10]
theorem spec_insOk_j1 (k : Nat) (op a b c : Int) : spec_InsOk.j1 (k + 2) false op a b c = some (decide ((op = 1 → c ≤ 1000000) ∧ (op = 4 → 1 ≤ c ∧ c ≤ 9) ∧ (op = 5 ∨ op = 6 → c = 0) ∧ (op = 8 → a = 0) ∧ (op = 10 → 1 ≤ a ∧ a ≤ 7 ∧ b = 0))) := by
  simp only [spec_InsOk.j1, l01In_f, Option.bind_some, spec_insOk_j2]
  by_cases h1 : op = 1
  · simp [h1]
  · by_cases h4 : op = 4
    · simp [h4]
    · by_cases h5 : op = 5
      · simp [h5]; rw [Bool.eq_iff_iff]; simp
      · by_cases h6 : op = 6
        · simp [h6]; rw [Bool.eq_iff_iff]; simp
        · simp [h1, h4, h5, h6]
theorem spec_insOk (k : Nat) (op a b c : Int) : spec_InsOk.f (k + 4) op a b c = some (insOk op a b c) := by
  unfold insOk spec_InsOk.f
  simp only [l01In_f, Option.bind_some, spec_InsOk.j0, spec_insOk_j1]
  by_cases h1 : 1 ≤ op ∧ op ≤ 10
  · by_cases h2 : 0 ≤ a ∧ a ≤ 7
    · by_cases h3 : 0 ≤ b ∧ b ≤ 7
      · by_cases h4 : 0 ≤ c ∧ c ≤ 4194303
        · by_cases e4 : op = 4
          · simp [h1, h2, h3, h4, e4]
          · by_cases e10 : op = 10
            · by_cases hb : b = 0 <;> simp [h1, h2, h3, h4, e10, hb]
            · by_cases hb : b = 0
              · simp [h1, h2, h3, h4, e4, e10, hb, spec_insOk_j1]
              · have hb' : (b != 0) = true := by simp [hb]
                simp only [e4, e10, if_false, hb', spec_InsOk.j1]
                simp [h1, h2, h3, h4, hb, e4]
        · simp [h1, h2, h3, h4]
          omega
      · simp [h1, h2, h3]
        omega
    · simp [h1, h2]
      omega
  · simp [h1]
    omega
theorem impl_insOk_j1 (k : Nat) (y : Bool) (op a b c : Int) : impl_InsOk.j1 (k + 1) op y op a b c = some (if y = true then c == 0 else decide ((op = 8 → a = 0) ∧ (op = 10 → 1 ≤ a))) := by
  simp only [impl_InsOk.j1]
  by_cases h : y = true
  · simp [h]
  · by_cases h8 : op = 8
    · simp [h, h8]; rw [Bool.eq_iff_iff]; simp
    · by_cases h10 : op = 10
      · simp [h, h10]
      · simp [h, h8, h10]
theorem impl_insOk_j0 (k : Nat) (op a b c : Int) : impl_InsOk.j0 (k + 2) false op a b c = some (decide ((op = 1 → c ≤ 1000000) ∧ (op = 4 → 1 ≤ c ∧ c ≤ 9) ∧ (op = 5 ∨ op = 6 → c = 0) ∧ (op = 8 → a = 0) ∧ (op = 10 → 1 ≤ a))) := by
  simp only [impl_InsOk.j0, within_f, Option.bind_some, impl_insOk_j1]
  by_cases h1 : op = 1
  · simp [h1]
  · by_cases h4 : op = 4
    · simp [h4]
    · by_cases h5 : op = 5
      · simp [h5]; rw [Bool.eq_iff_iff]; simp
      · by_cases h6 : op = 6
        · simp [h6]; rw [Bool.eq_iff_iff]; simp
        · simp [h1, h4, h5, h6]
theorem impl_insOk_no (k : Nat) (op a b c : Int) : impl_InsOk.j0 (k + 1) true op a b c = some false := by
  simp [impl_InsOk.j0]
theorem impl_insOk (k : Nat) (op a b c : Int) : impl_InsOk.f (k + 4) op a b c = some (insOk op a b c) := by
  unfold insOk impl_InsOk.f
  simp only [within_f, Option.bind_some, impl_insOk_no]
  by_cases h1 : 1 ≤ op ∧ op ≤ 10
  · by_cases h2 : 0 ≤ a ∧ a ≤ 7
    · by_cases h3 : 0 ≤ b ∧ b ≤ 7
      · by_cases h4 : 0 ≤ c ∧ c ≤ 4194303
        · by_cases e4 : op = 4
          · simp [h1, h2, h3, h4, e4, impl_insOk_j0]
          · by_cases hb : b = 0
            · simp [h1, h2, h3, h4, e4, hb, impl_insOk_j0]
            · have hb' : (b != 0) = true := by simp [hb]
              simp only [hb', impl_insOk_no]
              simp [h1, h2, h3, h4, e4, hb]
        · simp [h1, h2, h3, h4]
          omega
      · simp [h1, h2, h3]
        omega
    · simp [h1, h2]
      omega
  · simp [h1]
    omega
theorem ev_spec_insOk (op a b c : Int) : Ev (fun k => spec_InsOk.f k op a b c) (insOk op a b c) := ev_from 4 (fun k => spec_insOk k op a b c)
theorem ev_impl_insOk (op a b c : Int) : Ev (fun k => impl_InsOk.f k op a b c) (insOk op a b c) := ev_from 4 (fun k => impl_insOk k op a b c)
/-- What a word is read as. -/
def decoded (n : Int) : Int × Int × Int × Int × Bool := if 0 ≤ n ∧ insOk (n / 268435456) (Go.bits .and .i64 (n / 33554432) 7) (Go.bits .and .i64 (n / 4194304) 7) (Go.bits .and .i64 n 4194303) = true then (n / 268435456, Go.bits .and .i64 (n / 33554432) 7, Go.bits .and .i64 (n / 4194304) 7, Go.bits .and .i64 n 4194303, true) else (0, 0, 0, 0, false)
theorem insOk_op {op a b c : Int} (h : insOk op a b c = true) : 1 ≤ op ∧ op ≤ 10 := by
  unfold insOk at h
  have := of_decide_eq_true h
  omega
theorem spec_decoded (n : Int) : Ev (fun k => spec_Decode.f k n) (decoded n) := by
  refine ev_from 4 (fun k => ?_)
  unfold spec_Decode.f decoded
  simp only [l01In_f, Option.bind_some, spec_insOk]
  by_cases h : 0 ≤ n ∧ n ≤ 8589934592
  · cases hi : insOk (n / 268435456) (Go.bits .and .i64 (n / 33554432) 7) (Go.bits .and .i64 (n / 4194304) 7) (Go.bits .and .i64 n 4194303) <;> simp [h]
  · by_cases hi : insOk (n / 268435456) (Go.bits .and .i64 (n / 33554432) 7) (Go.bits .and .i64 (n / 4194304) 7) (Go.bits .and .i64 n 4194303) = true
    · have := insOk_op hi
      have h0 : ¬ 0 ≤ n := by omega
      simp [h, h0]
    · simp [h, hi]
theorem impl_decoded (n : Int) : Ev (fun k => impl_Decode.f k n) (decoded n) := by
  refine ev_from 4 (fun k => ?_)
  unfold impl_Decode.f decoded
  simp only [Option.bind_some, impl_insOk]
  by_cases h : n < 0
  · have h0 : ¬ 0 ≤ n := by omega
    simp [h, h0]
  · have h0 : 0 ≤ n := by omega
    cases hi : insOk (n / 268435456) (Go.bits .and .i64 (n / 33554432) 7) (Go.bits .and .i64 (n / 4194304) 7) (Go.bits .and .i64 n 4194303) <;> simp [h, h0]
/-- C of a word that is about a place of memory. -/
def touched (xs : List Int) (pc : Int) : Int := if 0 ≤ pc ∧ pc < (xs.length : Int) ∧ (decoded (rd xs pc)).2.2.2.2 = true ∧ ((decoded (rd xs pc)).1 = 2 ∨ (decoded (rd xs pc)).1 = 3 ∨ (decoded (rd xs pc)).1 = 9) then (decoded (rd xs pc)).2.2.2.1 else -1
theorem spec_touched (xs : List Int) (pc : Int) (hl : xs.length ≤ 35184372088832) : Ev (fun k => spec_TouchOf.f k xs pc) (touched xs pc) := by
  unfold spec_TouchOf.f touched
  rw [wrap_in _ (by omega) (by omega)]
  simp only [l01In_f, Option.bind_some]
  by_cases h : 0 ≤ pc ∧ pc ≤ (xs.length : Int) - 1
  · have h1 : 0 ≤ pc := h.1
    have h2 : pc < (xs.length : Int) := by omega
    simp only [h, h1, h2, decide_true, if_true, and_self, true_and]
    refine Ev.bind (spec_decoded _) (ev_of fun k => ?_)
    repeat' split
    all_goals simp_all
  · have h2 : ¬ (0 ≤ pc ∧ pc < (xs.length : Int)) := by omega
    refine ev_of fun k => ?_
    rw [if_neg (by simpa using h), if_neg (by rintro ⟨a, b, _⟩; exact h2 ⟨a, b⟩)]
/-! an image -/
def usesM (op : Int) : Bool := decide (op = 2 ∨ op = 3 ∨ op = 9)
def wordOk (n size : Int) (x : Int) : Bool := (decoded x).2.2.2.2 && (decide (usesM (decoded x).1 = true → (decoded x).2.2.2.1 < size) && decide ((decoded x).1 = 7 ∨ (decoded x).1 = 8 → (decoded x).2.2.2.1 < n))
def endOk (n size : Int) (o a : Int) : List Int → Bool
  | [] => decide (o = 10) && (a == 7)
  | x :: xs => wordOk n size x && endOk n size (decoded x).1 (decoded x).2.1 xs
def startS (n : Int) (ss : List Int) (i : Nat) : Bool := decide (0 ≤ rd ss (i : Int) ∧ rd ss (i : Int) ≤ n - 1) && (decide (i = 0 → rd ss 0 = 0) && decide (0 < i → rd ss ((i - 1 : Nat) : Int) < rd ss (i : Int)))
def startI (n : Int) (ss : List Int) (i : Nat) : Bool := decide (rd ss (i : Int) < n) && decide (0 < i → rd ss ((i - 1 : Nat) : Int) < rd ss (i : Int))
def imageOk (xs ss : List Int) (size : Int) : Bool := decide (1 ≤ ss.length ∧ ss.length ≤ 4) && (decide (1 ≤ xs.length ∧ xs.length ≤ 800) && (decide (1 ≤ size ∧ size ≤ 100) && ((List.range ss.length).all (startS xs.length ss) && endOk xs.length size 0 0 xs)))
theorem starts_eq (n : Nat) (ss : List Int) (h : 1 ≤ ss.length) : (decide (rd ss 0 = 0) && (List.range ss.length).all (startI n ss)) = (List.range ss.length).all (startS n ss) := by
  rw [Bool.eq_iff_iff]
  simp only [Bool.and_eq_true, decide_eq_true_eq, List.all_eq_true, List.mem_range, startI, startS]
  constructor
  · rintro ⟨h0, hi⟩
    have hn : ∀ i : Nat, i < ss.length → 0 ≤ rd ss (i : Int) := by
      intro i
      induction i with
      | zero => intro _; show 0 ≤ rd ss 0; omega
      | succ j ih =>
        intro hj
        have h1 := (hi (j + 1) hj).2 (by omega)
        have h2 := ih (by omega)
        simp only [Nat.add_sub_cancel] at h1
        omega
    intro i hil
    have h1 := hi i hil
    have h2 := hn i hil
    exact ⟨⟨h2, by omega⟩, fun _ => h0, h1.2⟩
  · intro hs
    exact ⟨(hs 0 (by omega)).2.1 rfl, fun i hil => ⟨by have := (hs i hil).1; omega, (hs i hil).2.2⟩⟩
theorem wrap_pred (i : Nat) (h0 : 0 < i) (h : i ≤ 9000000000000000000) : wrap64 ((i : Int) - 1) = ((i - 1 : Nat) : Int) := by
  rw [wrap_in _ (by omega) (by omega)]
  omega
theorem range_getD (n i : Nat) (h : i < n) : (List.range n).getD i 0 = i := by
  rw [List.getD_eq_getElem?_getD, List.getElem?_range h]
  rfl
theorem image_touch (xs : List Int) (i : Nat) (size : Int) (h : i < xs.length) (hs : 1 ≤ size) (ho : (decoded (rd xs (i : Int))).2.2.2.2 = true) : touched xs (i : Int) ≥ size ↔ ¬ (usesM (decoded (rd xs (i : Int))).1 = true → (decoded (rd xs (i : Int))).2.2.2.1 < size) := by
  unfold touched usesM
  by_cases hu : (decoded (rd xs (i : Int))).1 = 2 ∨ (decoded (rd xs (i : Int))).1 = 3 ∨ (decoded (rd xs (i : Int))).1 = 9
  · rw [if_pos ⟨by omega, by omega, ho, hu⟩]
    simp only [hu, decide_true, forall_const]
    omega
  · rw [if_neg (fun hh => hu hh.2.2.2)]
    simp only [hu, decide_false, Bool.false_eq_true, false_implies, not_true, iff_false]
    omega
theorem spec_image_l1 (xs ss : List Int) (size : Int) (hl : xs.length ≤ 800) (hs : 1 ≤ size) : ∀ (d i : Nat) (o a b c : Int), i + d = xs.length → Ev (fun k => spec_ImageOk.l1 k (xs.length : Int) (i : Int) xs ss size o a b c) (endOk xs.length size o a (xs.drop i))
  | 0, i, o, a, b, c, h => by
    refine ev_now (fun k => ?_)
    simp (disch := omega) only [spec_ImageOk.l1, if_neg]
    rw [List.drop_of_length_le (by omega)]
    unfold endOk
    by_cases ho : o = 10 <;> simp [ho]
  | d + 1, i, o, a, b, c, h => by
    have ih := spec_image_l1 xs ss size hl hs d (i + 1) (decoded (rd xs (i : Int))).1 (decoded (rd xs (i : Int))).2.1 (decoded (rd xs (i : Int))).2.2.1 (decoded (rd xs (i : Int))).2.2.2.1 (by omega)
    rw [rd_drop xs i (by omega)]
    refine ev_succ ?_
    unfold endOk
    simp (disch := omega) only [spec_ImageOk.l1, if_pos, wrap_nat]
    refine Ev.bind (spec_decoded _) ?_
    unfold wordOk
    cases ho : (decoded (rd xs (i : Int))).2.2.2.2 with
    | false =>
      simp only [Bool.false_eq_true, if_false, Bool.false_and]
      exact Ev.now _
    | true =>
      simp only [if_true, Bool.true_and]
      refine Ev.bind (spec_touched xs (i : Int) (by omega)) ?_
      have ht := image_touch xs i size (by omega) hs ho
      by_cases h1 : touched xs (i : Int) ≥ size
      · refine ev_pos h1 ?_
        simp only [ht.1 h1, decide_false, Bool.false_and]
        exact Ev.now _
      · refine ev_neg h1 ?_
        have h1' := Decidable.not_not.1 (fun hh => h1 (ht.2 hh))
        simp only [decide_eq_true h1', Bool.true_and]
        by_cases h7 : (decoded (rd xs (i : Int))).1 = 7
        · refine ev_pos h7 ?_
          by_cases h2 : (decoded (rd xs (i : Int))).2.2.2.1 ≥ (xs.length : Int)
          · refine ev_pos h2 ?_
            have : ¬ (decoded (rd xs (i : Int))).2.2.2.1 < (xs.length : Int) := by omega
            simp only [h7, this, true_or, true_implies, decide_false, Bool.false_and]
            exact Ev.now _
          · refine ev_neg h2 (ev_eq ih ?_)
            have : (decoded (rd xs (i : Int))).2.2.2.1 < (xs.length : Int) := by omega
            simp only [h7, this, implies_true, decide_true, Bool.true_and]
        · refine ev_neg h7 ?_
          by_cases h8 : (decoded (rd xs (i : Int))).1 = 8
          · refine ev_pos h8 ?_
            by_cases h2 : (decoded (rd xs (i : Int))).2.2.2.1 ≥ (xs.length : Int)
            · refine ev_pos h2 ?_
              have : ¬ (decoded (rd xs (i : Int))).2.2.2.1 < (xs.length : Int) := by omega
              simp only [h8, this, or_true, true_implies, decide_false, Bool.false_and]
              exact Ev.now _
            · refine ev_neg h2 (ev_eq ih ?_)
              have : (decoded (rd xs (i : Int))).2.2.2.1 < (xs.length : Int) := by omega
              simp only [h8, this, implies_true, decide_true, Bool.true_and]
          · refine ev_neg h8 (ev_eq ih ?_)
            simp only [h7, h8, or_self, false_implies, decide_true, Bool.true_and]
theorem spec_imageOk (xs ss : List Int) (size : Int) (hxs : xs.length ≤ 2000000000000) (hss : ss.length ≤ 2000000000000) : Ev (fun k => spec_ImageOk.f k xs ss size) (imageOk xs ss size) := by
  unfold spec_ImageOk.f imageOk
  simp only [l01In_f, Option.bind_some]
  have hno : Ev (fun k => spec_ImageOk.j0 k (xs.length : Int) true xs ss size) false := ev_now fun k => by simp only [spec_ImageOk.j0, if_true]
  by_cases h1 : 1 ≤ ss.length ∧ ss.length ≤ 4
  · have h1' : (1 : Int) ≤ (ss.length : Int) ∧ (ss.length : Int) ≤ 4 := by omega
    simp only [h1, h1', and_self, decide_true, if_true, Bool.true_and]
    by_cases h2 : 1 ≤ xs.length ∧ xs.length ≤ 800
    · have h2' : (1 : Int) ≤ (xs.length : Int) ∧ (xs.length : Int) ≤ 800 := by omega
      simp only [h2, h2', and_self, decide_true, if_true, Bool.true_and]
      by_cases h3 : 1 ≤ size ∧ size ≤ 100
      · simp only [h3, and_self, decide_true, Bool.not_true, Bool.true_and]
        refine ev_succ ?_
        simp only [spec_ImageOk.j0, Bool.false_eq_true, if_false]
        refine ev_eq (all_ev (fun k i => spec_ImageOk.l0 k (xs.length : Int) i xs ss size) (startS xs.length ss) (List.range ss.length) 0 (endOk xs.length size 0 0 xs) (fun i r hi hp hh => ev_succ ?_) (fun i hi hp => ev_succ ?_) (ev_succ ?_) ss.length 0 (by simp)) rfl
        · rw [List.length_range] at hi
          rw [range_getD _ _ hi] at hp
          simp only [startS, Bool.and_eq_true, decide_eq_true_eq] at hp
          obtain ⟨hp1, hp2, hp3⟩ := hp
          have hw : wrap64 ((xs.length : Int) - 1) = (xs.length : Int) - 1 := wrap_in _ (by omega) (by omega)
          simp (disch := omega) only [spec_ImageOk.l0, if_pos, l01In_f, Option.bind_some, hw, hp1, and_self, decide_true, if_true, wrap_nat]
          by_cases hz : i = 0
          · subst hz
            have h0 := hp2 rfl
            have e0 : rd ss 0 = 0 := h0
            refine ev_pos (by simp) ?_
            exact ev_neg (by simp) hh
          · refine ev_neg (by omega) ?_
            have hq := hp3 (by omega)
            rw [wrap_pred i (by omega) (by omega)]
            simp (disch := omega) only [if_pos, if_neg]
            exact hh
        · rw [List.length_range] at hi
          rw [range_getD _ _ hi] at hp
          simp only [startS, Bool.and_eq_false_iff, decide_eq_false_iff_not] at hp
          have hw : wrap64 ((xs.length : Int) - 1) = (xs.length : Int) - 1 := wrap_in _ (by omega) (by omega)
          simp (disch := omega) only [spec_ImageOk.l0, if_pos, l01In_f, Option.bind_some, hw]
          by_cases hb : 0 ≤ rd ss (i : Int) ∧ rd ss (i : Int) ≤ (xs.length : Int) - 1
          · simp only [hb, and_self, decide_true, if_true]
            by_cases hz : i = 0
            · subst hz
              refine ev_pos (by simp) ?_
              have h0 : ¬ rd ss 0 = 0 := by
                intro e0
                rcases hp with hp | hp | hp
                · exact hp hb
                · exact hp (fun _ => e0)
                · exact hp (fun hh => absurd hh (by omega))
              simp (disch := omega) only [if_pos, if_neg]
              exact Ev.now _
            · refine ev_neg (by omega) ?_
              have hq : rd ss ((i - 1 : Nat) : Int) ≥ rd ss (i : Int) := by
                rcases hp with hp | hp | hp
                · exact absurd hb hp
                · exact absurd (fun hh => absurd hh hz) hp
                · exact Int.not_lt.1 (fun hh => hp (fun _ => hh))
              rw [wrap_pred i (by omega) (by omega)]
              simp (disch := omega) only [if_pos, if_neg]
              exact Ev.now _
          · simp only [hb, decide_false, Bool.false_eq_true, if_false]
            exact Ev.now _
        · rw [List.length_range]
          simp (disch := omega) only [spec_ImageOk.l0, if_neg]
          exact spec_image_l1 xs ss size h2.2 h3.1 xs.length 0 0 0 0 0 (by omega)
      · simp only [h3, decide_false, Bool.not_false, Bool.false_and]
        exact hno
    · have h2' : ¬ ((1 : Int) ≤ (xs.length : Int) ∧ (xs.length : Int) ≤ 800) := by omega
      simp only [h2, h2', decide_false, Bool.false_eq_true, if_false, Bool.false_and]
      exact hno
  · have h1' : ¬ ((1 : Int) ≤ (ss.length : Int) ∧ (ss.length : Int) ≤ 4) := by omega
    simp only [h1, h1', decide_false, Bool.false_eq_true, if_false, Bool.false_and]
    exact hno
theorem uses_f (op a b c : Int) : impl_usesMem.f op a b c = some (usesM op) := by
  unfold impl_usesMem.f usesM
  by_cases h2 : op = 2
  · simp [h2]
  · by_cases h3 : op = 3
    · simp [h3]
    · simp [h2, h3, Bool.beq_eq_decide_eq]
theorem impl_image_l1 (xs ss : List Int) (size : Int) (hl : xs.length ≤ 800) : ∀ (d i : Nat) (o a b c : Int), i + d = xs.length → Ev (fun k => impl_ImageOk.l1 k xs (xs.length : Int) (i : Int) xs ss size o a b c) (endOk xs.length size o a (xs.drop i))
  | 0, i, o, a, b, c, h => by
    refine ev_now (fun k => ?_)
    simp (disch := omega) only [impl_ImageOk.l1, if_neg]
    rw [List.drop_of_length_le (by omega)]
    unfold endOk
    by_cases ho : o = 10 <;> simp [ho]
  | d + 1, i, o, a, b, c, h => by
    have ih := impl_image_l1 xs ss size hl d (i + 1) (decoded (rd xs (i : Int))).1 (decoded (rd xs (i : Int))).2.1 (decoded (rd xs (i : Int))).2.2.1 (decoded (rd xs (i : Int))).2.2.2.1 (by omega)
    rw [rd_drop xs i (by omega)]
    refine ev_succ ?_
    unfold endOk
    simp (disch := omega) only [impl_ImageOk.l1, if_pos, wrap_nat]
    refine Ev.bind (impl_decoded _) ?_
    unfold wordOk
    simp only [uses_f, Option.bind_some]
    cases ho : (decoded (rd xs (i : Int))).2.2.2.2 with
    | false =>
      simp only [Bool.false_eq_true, if_false, Bool.false_and]
      exact Ev.now _
    | true =>
      simp only [if_true, Bool.true_and]
      have rest : Ev (fun k => if (decoded (rd xs (i : Int))).1 = 7 then (if (decoded (rd xs (i : Int))).2.2.2.1 ≥ (xs.length : Int) then (some false) else (impl_ImageOk.l1 k xs (xs.length : Int) ((i + 1 : Nat) : Int) xs ss size (decoded (rd xs (i : Int))).1 (decoded (rd xs (i : Int))).2.1 (decoded (rd xs (i : Int))).2.2.1 (decoded (rd xs (i : Int))).2.2.2.1)) else (if (decoded (rd xs (i : Int))).1 = 8 then (if (decoded (rd xs (i : Int))).2.2.2.1 ≥ (xs.length : Int) then (some false) else (impl_ImageOk.l1 k xs (xs.length : Int) ((i + 1 : Nat) : Int) xs ss size (decoded (rd xs (i : Int))).1 (decoded (rd xs (i : Int))).2.1 (decoded (rd xs (i : Int))).2.2.1 (decoded (rd xs (i : Int))).2.2.2.1)) else (impl_ImageOk.l1 k xs (xs.length : Int) ((i + 1 : Nat) : Int) xs ss size (decoded (rd xs (i : Int))).1 (decoded (rd xs (i : Int))).2.1 (decoded (rd xs (i : Int))).2.2.1 (decoded (rd xs (i : Int))).2.2.2.1))) (decide ((decoded (rd xs (i : Int))).1 = 7 ∨ (decoded (rd xs (i : Int))).1 = 8 → (decoded (rd xs (i : Int))).2.2.2.1 < (xs.length : Int)) && endOk xs.length size (decoded (rd xs (i : Int))).1 (decoded (rd xs (i : Int))).2.1 (xs.drop (i + 1))) := by
        by_cases h7 : (decoded (rd xs (i : Int))).1 = 7
        · refine ev_pos h7 ?_
          by_cases h2 : (decoded (rd xs (i : Int))).2.2.2.1 ≥ (xs.length : Int)
          · refine ev_pos h2 ?_
            have : ¬ (decoded (rd xs (i : Int))).2.2.2.1 < (xs.length : Int) := by omega
            simp only [h7, this, true_or, true_implies, decide_false, Bool.false_and]
            exact Ev.now _
          · refine ev_neg h2 (ev_eq ih ?_)
            have : (decoded (rd xs (i : Int))).2.2.2.1 < (xs.length : Int) := by omega
            simp only [h7, this, implies_true, decide_true, Bool.true_and]
        · refine ev_neg h7 ?_
          by_cases h8 : (decoded (rd xs (i : Int))).1 = 8
          · refine ev_pos h8 ?_
            by_cases h2 : (decoded (rd xs (i : Int))).2.2.2.1 ≥ (xs.length : Int)
            · refine ev_pos h2 ?_
              have : ¬ (decoded (rd xs (i : Int))).2.2.2.1 < (xs.length : Int) := by omega
              simp only [h8, this, or_true, true_implies, decide_false, Bool.false_and]
              exact Ev.now _
            · refine ev_neg h2 (ev_eq ih ?_)
              have : (decoded (rd xs (i : Int))).2.2.2.1 < (xs.length : Int) := by omega
              simp only [h8, this, implies_true, decide_true, Bool.true_and]
          · refine ev_neg h8 (ev_eq ih ?_)
            simp only [h7, h8, or_self, false_implies, decide_true, Bool.true_and]
      cases hu : usesM (decoded (rd xs (i : Int))).1 with
      | false =>
        simp only [Bool.false_eq_true, if_false, false_implies, decide_true, Bool.true_and]
        exact rest
      | true =>
        simp only [if_true, true_implies]
        by_cases h1 : (decoded (rd xs (i : Int))).2.2.2.1 ≥ size
        · refine ev_pos h1 ?_
          have : ¬ (decoded (rd xs (i : Int))).2.2.2.1 < size := by omega
          simp only [this, decide_false, Bool.false_and]
          exact Ev.now _
        · refine ev_neg h1 ?_
          have : (decoded (rd xs (i : Int))).2.2.2.1 < size := by omega
          simp only [this, decide_true, Bool.true_and]
          exact rest
theorem impl_imageOk (xs ss : List Int) (size : Int) (hxs : xs.length ≤ 2000000000000) (hss : ss.length ≤ 2000000000000) : Ev (fun k => impl_ImageOk.f k xs ss size) (imageOk xs ss size) := by
  unfold impl_ImageOk.f imageOk
  simp only [within_f, Option.bind_some]
  have hno : Ev (fun k => impl_ImageOk.j0 k true xs ss size) false := ev_now fun k => by simp only [impl_ImageOk.j0, if_true]
  by_cases h1 : 1 ≤ ss.length ∧ ss.length ≤ 4
  · have h1' : (1 : Int) ≤ (ss.length : Int) ∧ (ss.length : Int) ≤ 4 := by omega
    simp only [h1, h1', and_self, decide_true, if_true, Bool.true_and]
    by_cases h2 : 1 ≤ xs.length ∧ xs.length ≤ 800
    · have h2' : (1 : Int) ≤ (xs.length : Int) ∧ (xs.length : Int) ≤ 800 := by omega
      simp only [h2, h2', and_self, decide_true, if_true, Bool.true_and]
      by_cases h3 : 1 ≤ size ∧ size ≤ 100
      · simp only [h3, and_self, decide_true, if_true, Bool.true_and]
        rw [← starts_eq xs.length ss h1.1]
        refine ev_pos (by omega) (ev_succ ?_)
        by_cases h0 : rd ss 0 = 0
        · simp only [impl_ImageOk.j0, h0, bne_self_eq_false, Bool.false_eq_true, if_false, decide_true, Bool.true_and]
          refine ev_eq (all_ev (fun k i => impl_ImageOk.l0 k ss (ss.length : Int) i xs ss size) (startI xs.length ss) (List.range ss.length) 0 (endOk xs.length size 0 0 xs) (fun i r hi hp hh => ev_succ ?_) (fun i hi hp => ev_succ ?_) (ev_succ ?_) ss.length 0 (by simp)) rfl
          · rw [List.length_range] at hi
            rw [range_getD _ _ hi] at hp
            simp only [startI, Bool.and_eq_true, decide_eq_true_eq] at hp
            obtain ⟨hp1, hp3⟩ := hp
            simp (disch := omega) only [impl_ImageOk.l0, if_pos, if_neg, wrap_nat]
            by_cases hz : i = 0
            · exact ev_neg (by omega) hh
            · refine ev_pos (by omega) ?_
              have hq := hp3 (by omega)
              rw [wrap_pred i (by omega) (by omega)]
              simp (disch := omega) only [if_pos, if_neg]
              exact hh
          · rw [List.length_range] at hi
            rw [range_getD _ _ hi] at hp
            simp only [startI, Bool.and_eq_false_iff, decide_eq_false_iff_not] at hp
            simp (disch := omega) only [impl_ImageOk.l0, if_pos]
            by_cases hb : rd ss (i : Int) < (xs.length : Int)
            · refine ev_neg (by omega) ?_
              have hz : 0 < i ∧ rd ss ((i - 1 : Nat) : Int) ≥ rd ss (i : Int) := by
                rcases hp with hp | hp
                · exact absurd hb hp
                · exact ⟨Nat.pos_of_ne_zero (fun e => hp (fun hh => absurd hh (by omega))), Int.not_lt.1 (fun hh => hp (fun _ => hh))⟩
              obtain ⟨hz1, hz2⟩ := hz
              rw [wrap_pred i (by omega) (by omega)]
              simp (disch := omega) only [if_pos]
              exact Ev.now _
            · exact ev_pos (by omega) (Ev.now _)
          · rw [List.length_range]
            simp (disch := omega) only [impl_ImageOk.l0, if_neg]
            exact impl_image_l1 xs ss size h2.2 xs.length 0 0 0 0 0 (by omega)
        · have h0' : (rd ss 0 != 0) = true := by simp [h0]
          simp only [impl_ImageOk.j0, h0', h0, if_true, decide_false, Bool.false_and]
          exact Ev.now _
      · simp only [h3, decide_false, Bool.false_eq_true, if_false, Bool.false_and]
        exact hno
    · have h2' : ¬ ((1 : Int) ≤ (xs.length : Int) ∧ (xs.length : Int) ≤ 800) := by omega
      simp only [h2, h2', decide_false, Bool.false_eq_true, if_false, Bool.false_and]
      exact hno
  · have h1' : ¬ ((1 : Int) ≤ (ss.length : Int) ∧ (ss.length : Int) ≤ 4) := by omega
    simp only [h1, h1', decide_false, Bool.false_eq_true, if_false, Bool.false_and]
    exact hno
theorem FnExactImageOk : laws_FnExactImageOk.Says := by
  rintro xs ss size ⟨hx1, hx2, hx3⟩ ⟨hs1, hs2, hs3⟩ _
  refine Ev.rounds (r := true) ?_
  unfold laws_FnExactImageOk.f
  refine Ev.bind (szImage_ev xs ss size 1048576 (by omega) (by omega) (by omega) (by omega)) ?_
  by_cases hl : lft 1048576 (xs.length + ss.length) < 0
  · exact ev_pos hl (Ev.now _)
  · refine ev_neg hl ?_
    have hp := (lft_pos hl).1
    have t := toImage_ev xs ss size (by omega) (by omega)
    exact Ev.bind t (Ev.bind (spec_imageOk xs ss size (by omega) (by omega)) (Ev.bind t (Ev.bind (impl_imageOk xs ss size (by omega) (by omega)) (ev_neg (by simp) (Ev.bind t (Ev.bind (eqImage_self xs ss size (by omega) (by omega)) (ev_pos rfl (Ev.now _))))))))

end Go.Proofs.Ytcappoimcdfggaa.Pure
