/- Plain lemmas: rounds, and lists that are filled, measured, marked and held, element by element. -/
import Derived.Test.YtcappoimcdfggaaTFnExactImageOk
namespace Go.Proofs.Ytcappoimcdfggaa.Pl
open Go.RowKit Go.Proofs.YtcappoimcdfggaaW.PrintWords
set_option linter.unusedSimpArgs false
set_option linter.unusedVariables false

theorem wrap_nat (i : Nat) (h : i ≤ 9223372036854775806) : wrap64 ((i : Int) + 1) = ((i + 1 : Nat) : Int) := by
  unfold wrap64; omega
theorem wrap_in (x : Int) (h1 : -9223372036854775808 ≤ x) (h2 : x ≤ 9223372036854775807) : wrap64 x = x := by
  unfold wrap64; omega
theorem rd_nat (xs : List Int) (i : Nat) : rd xs (i : Int) = xs.getD i 0 := rfl
theorem ev_now {α : Type} {g : Nat → Option α} {r : α} (h : ∀ k, g (k + 1) = some r) : Ev g r := Ev.step (f := fun _ => some r) h (Ev.now r)
theorem ev_eq {α : Type} {g : Nat → Option α} {r q : α} (h : Ev g r) (e : r = q) : Ev g q := e ▸ h
theorem ev_of {α : Type} {g : Nat → Option α} {r : α} (h : ∀ k, g k = some r) : Ev g r := ⟨0, fun k _ => h k⟩
theorem ev_from {α : Type} {g : Nat → Option α} {r : α} (n : Nat) (h : ∀ k, g (k + n) = some r) : Ev g r := ⟨n, fun k hk => by
  have := h (k - n)
  rwa [Nat.sub_add_cancel hk] at this⟩
theorem ev_succ {α : Type} {g : Nat → Option α} {r : α} (h : Ev (fun k => g (k + 1)) r) : Ev g r := Ev.step (f := fun k => g (k + 1)) (fun _ => rfl) h
theorem ev_pos {α : Type} {c : Prop} [Decidable c] {g f : Nat → Option α} {r : α} (hc : c) (h : Ev g r) : Ev (fun k => if c then g k else f k) r := by
  simp only [if_pos hc]; exact h
theorem ev_neg {α : Type} {c : Prop} [Decidable c] {g f : Nat → Option α} {r : α} (hc : ¬ c) (h : Ev f r) : Ev (fun k => if c then g k else f k) r := by
  simp only [if_neg hc]; exact h
theorem ev_det {α : Type} {g : Nat → Option α} {r q : α} (h : Ev g r) (h' : Ev g q) : r = q := by
  obtain ⟨K, h⟩ := h
  obtain ⟨K', h'⟩ := h'
  have h1 := h (max K K') (by omega)
  rw [h' (max K K') (by omega)] at h1
  exact (Option.some.inj h1).symm
theorem getD_drop {α : Type} (xs : List α) (i : Nat) (d : α) (h : i < xs.length) : xs.drop i = xs.getD i d :: xs.drop (i + 1) := by
  rw [List.getD_eq_getElem?_getD, List.getElem?_eq_getElem h]
  exact List.drop_eq_getElem_cons h
theorem getD_mem {α : Type} (xs : List α) (i : Nat) (d : α) (h : i < xs.length) : xs.getD i d ∈ xs := by
  rw [List.getD_eq_getElem?_getD, List.getElem?_eq_getElem h]
  exact List.getElem_mem h
theorem getD_set_self {α : Type} (xs : List α) (i : Nat) (d y : α) (h : i < xs.length) : (xs.set i y).getD i d = y := by
  rw [List.getD_eq_getElem?_getD, List.getElem?_set_self h]; rfl
theorem getD_set_ne {α : Type} (xs : List α) (i j : Nat) (d y : α) (h : i ≠ j) : (xs.set i y).getD j d = xs.getD j d := by
  rw [List.getD_eq_getElem?_getD, List.getElem?_set_ne h, List.getD_eq_getElem?_getD]
theorem rd_drop (xs : List Int) (i : Nat) (h : i < xs.length) : xs.drop i = rd xs (i : Int) :: xs.drop (i + 1) := getD_drop xs i 0 h
theorem take_set {α : Type} (xs ys : List α) (i : Nat) (y : α) (h : ys.take i = xs.take i) (hy : xs[i]? = some y) (hl : i < ys.length) : (ys.set i y).take (i + 1) = xs.take (i + 1) := by
  apply List.ext_getElem?
  intro j
  by_cases hj : j < i + 1
  · rw [List.getElem?_take_of_lt hj, List.getElem?_take_of_lt hj]
    by_cases e : i = j
    · subst e
      rw [List.getElem?_set_self hl, hy]
    · rw [List.getElem?_set_ne e]
      have := congrArg (fun l => l[j]?) h
      simp only [List.getElem?_take_of_lt (show j < i by omega)] at this
      exact this
  · rw [List.getElem?_eq_none (by simp; omega), List.getElem?_eq_none (by simp; omega)]

/-- A list is filled, element by element. -/
theorem fill_ev {β γ : Type} (l0 : Nat → List γ → Int → Option (List γ)) (cv : β → γ) (xs : List β) (z : β)
    (step : ∀ (i : Nat) (ys r : List γ), i < xs.length → ys.length = xs.length → Ev (fun k => l0 k (ys.set i (cv (xs.getD i z))) ((i + 1 : Nat) : Int)) r → Ev (fun k => l0 k ys (i : Int)) r)
    (stop : ∀ ys : List γ, ys.length = xs.length → Ev (fun k => l0 k ys (xs.length : Int)) ys) :
    ∀ (d i : Nat) (ys : List γ), i + d = xs.length → ys.length = xs.length → ys.take i = (xs.map cv).take i → Ev (fun k => l0 k ys (i : Int)) (xs.map cv)
  | 0, i, ys, h, hl, ht => by
    have e : i = xs.length := by omega
    subst e
    rw [List.take_of_length_le (by omega), List.take_of_length_le (by simp)] at ht
    rw [← ht]
    exact stop ys hl
  | d + 1, i, ys, h, hl, ht => by
    refine step i ys _ (by omega) hl (fill_ev l0 cv xs z step stop d (i + 1) _ (by omega) (by simp [hl]) ?_)
    refine take_set _ _ _ _ ht ?_ (by omega)
    rw [List.getElem?_map, List.getD_eq_getElem?_getD, List.getElem?_eq_getElem (by omega)]
    rfl

/-- What is left of m behind n; -1 when that is too much. -/
def lft (m : Int) (n : Nat) : Int := if (n : Int) ≤ m then m - n else -1
theorem lft_lft {m : Int} {a b : Nat} : (if lft m a < 0 then (-1 : Int) else lft (lft m a) b) = lft m (a + b) := by
  unfold lft
  by_cases h : (a : Int) ≤ m
  · rw [if_pos h, if_neg (by omega)]
    by_cases h2 : (b : Int) ≤ m - a
    · rw [if_pos h2, if_pos (by omega)]; omega
    · rw [if_neg h2, if_neg (by omega)]
  · rw [if_neg h, if_pos (by omega), if_neg (by omega)]
theorem lft_neg {m : Int} {a : Nat} (h : lft m a < 0) : ∀ b, lft m (a + b) = -1 := by
  intro b
  rw [← lft_lft, if_pos h]
theorem lft_pos {m : Int} {a : Nat} (h : ¬ lft m a < 0) : (a : Int) ≤ m ∧ lft m a = m - a := by
  unfold lft at *
  split at h
  · rename_i h'; exact ⟨h', by rw [if_pos h']⟩
  · omega
def total {γ : Type} (sz : γ → Nat) (xs : List γ) : Nat := (xs.map sz).sum
theorem total_nil {γ : Type} (sz : γ → Nat) : total sz [] = 0 := rfl
theorem total_cons {γ : Type} (sz : γ → Nat) (x : γ) (xs : List γ) : total sz (x :: xs) = sz x + total sz xs := by simp [total]
theorem total_one {γ : Type} : ∀ xs : List γ, total (fun _ => 1) xs = xs.length
  | [] => rfl
  | x :: xs => by rw [total_cons, total_one xs, List.length_cons]; omega
theorem total_mem {γ : Type} (sz : γ → Nat) : ∀ (xs : List γ) (x : γ), x ∈ xs → sz x ≤ total sz xs
  | y :: ys, x, h => by
    rw [total_cons]
    rcases List.mem_cons.1 h with rfl | h
    · omega
    · have := total_mem sz ys x h; omega
/-- A list is measured, element by element. -/
theorem sz_ev {γ : Type} (l0 : Nat → Int → Int → Option Int) (sz : γ → Nat) (xs : List γ) (z : γ)
    (step : ∀ (i : Nat) (m r : Int), i < xs.length → 0 ≤ m → m ≤ 4611686018427387904 → ¬ lft m (sz (xs.getD i z)) < 0 → Ev (fun k => l0 k (lft m (sz (xs.getD i z))) ((i + 1 : Nat) : Int)) r → Ev (fun k => l0 k m (i : Int)) r)
    (fall : ∀ (i : Nat) (m : Int), i < xs.length → 0 ≤ m → m ≤ 4611686018427387904 → lft m (sz (xs.getD i z)) < 0 → Ev (fun k => l0 k m (i : Int)) (-1))
    (stop : ∀ m : Int, Ev (fun k => l0 k m (xs.length : Int)) m) :
    ∀ (d i : Nat) (m : Int), i + d = xs.length → 0 ≤ m → m ≤ 4611686018427387904 → Ev (fun k => l0 k m (i : Int)) (lft m (total sz (xs.drop i)))
  | 0, i, m, h, h0, hm => by
    have e : i = xs.length := by omega
    subst e
    rw [List.drop_length, total_nil]
    exact ev_eq (stop m) (by unfold lft; rw [if_pos (by omega)]; omega)
  | d + 1, i, m, h, h0, hm => by
    rw [getD_drop xs i z (by omega), total_cons]
    by_cases hl : lft m (sz (xs.getD i z)) < 0
    · exact ev_eq (fall i m (by omega) h0 hm hl) (lft_neg hl _).symm
    · have hp := lft_pos hl
      refine step i m _ (by omega) h0 hm hl (ev_eq (sz_ev l0 sz xs z step fall stop d (i + 1) _ (by omega) (by omega) (by omega)) ?_)
      rw [← lft_lft, if_neg hl]

/-- A list is marked, element by element, and then held. E x m y m1: x marked from m on is y, and m1 comes next. -/
theorem markheld {γ : Type} (mk : Nat → List γ → Int → Int → Option (Int × List γ)) (hd : Nat → List γ → Int → Int → Option Int) (E : γ → Int → γ → Int → Prop) (sz : γ → Nat) (z : γ)
    (each : ∀ (x : γ) (m : Int), 0 ≤ m → m + sz x ≤ 4611686018427387904 → ∃ y m1, E x m y m1 ∧ m ≤ m1 ∧ m1 ≤ m + sz x)
    (mkstep : ∀ (i : Nat) (xs : List γ) (m : Int) (y : γ) (m1 : Int) (r : Int × List γ), i < xs.length → xs.length ≤ 4611686018427387904 → 0 ≤ m → m + sz (xs.getD i z) ≤ 4611686018427387904 → E (xs.getD i z) m y m1 → Ev (fun k => mk k (xs.set i y) m1 ((i + 1 : Nat) : Int)) r → Ev (fun k => mk k xs m (i : Int)) r)
    (mkstop : ∀ (xs : List γ) (m : Int), Ev (fun k => mk k xs m (xs.length : Int)) (m, xs))
    (hdstep : ∀ (i : Nat) (ys : List γ) (x : γ) (m m1 r : Int), i < ys.length → ys.length ≤ 4611686018427387904 → 0 ≤ m → m + sz x ≤ 4611686018427387904 → E x m (ys.getD i z) m1 → Ev (fun k => hd k ys m1 ((i + 1 : Nat) : Int)) r → Ev (fun k => hd k ys m (i : Int)) r)
    (hdstop : ∀ (ys : List γ) (m : Int), Ev (fun k => hd k ys m (ys.length : Int)) m) :
    ∀ (d i : Nat) (xs : List γ) (m : Int), i + d = xs.length → xs.length ≤ 4611686018427387904 → 0 ≤ m → m + total sz (xs.drop i) ≤ 4611686018427387904 →
      ∃ (ys : List γ) (m' : Int), ys.length = xs.length ∧ ys.take i = xs.take i ∧ Ev (fun k => mk k xs m (i : Int)) (m', ys) ∧ Ev (fun k => hd k ys m (i : Int)) m' ∧ m ≤ m' ∧ m' ≤ m + total sz (xs.drop i)
  | 0, i, xs, m, h, hx, h0, hm => by
    have e : i = xs.length := by omega
    subst e
    exact ⟨xs, m, rfl, rfl, mkstop xs m, hdstop xs m, Int.le_refl _, by rw [List.drop_length, total_nil]; omega⟩
  | d + 1, i, xs, m, h, hx, h0, hm => by
    rw [getD_drop xs i z (by omega), total_cons] at hm ⊢
    obtain ⟨y, m1, hE, h1, h2⟩ := each (xs.getD i z) m h0 (by omega)
    have hdr : (xs.set i y).drop (i + 1) = xs.drop (i + 1) := by
      rw [List.drop_set_of_lt (by omega)]
    obtain ⟨ys, m', hl, ht, hmk, hhd, h3, h4⟩ := markheld mk hd E sz z each mkstep mkstop hdstep hdstop d (i + 1) (xs.set i y) m1 (by simp; omega) (by simpa using hx) (by omega) (by rw [hdr]; omega)
    rw [hdr] at h4
    rw [List.length_set] at hl
    have hyi : ys[i]? = some y := by
      have := congrArg (fun l => l[i]?) ht
      simp only [List.getElem?_take_of_lt (show i < i + 1 by omega)] at this
      rw [this, List.getElem?_set_self (by omega)]
    refine ⟨ys, m', hl, ?_, mkstep i xs m y m1 _ (by omega) hx h0 (by omega) hE hmk, ?_, by omega, by omega⟩
    · apply List.ext_getElem?
      intro j
      by_cases hj : j < i
      · rw [List.getElem?_take_of_lt hj, List.getElem?_take_of_lt hj]
        have := congrArg (fun l => l[j]?) ht
        simp only [List.getElem?_take_of_lt (show j < i + 1 by omega)] at this
        rw [this, List.getElem?_set_ne (by omega)]
      · rw [List.getElem?_eq_none (by simp; omega), List.getElem?_eq_none (by simp; omega)]
    · refine hdstep i ys (xs.getD i z) m m1 m' (by omega) (by omega) h0 (by omega) ?_ hhd
      have : ys.getD i z = y := by rw [List.getD_eq_getElem?_getD, hyi]; rfl
      rw [this]
      exact hE
/-- A loop that only counts up, and comes to r whenever it goes on. -/
theorem up_ev {ρ : Type} (l0 : Nat → Int → Option ρ) (n : Nat) (r : ρ) (step : ∀ i : Nat, i < n → Ev (fun k => l0 k ((i + 1 : Nat) : Int)) r → Ev (fun k => l0 k (i : Int)) r) (stop : Ev (fun k => l0 k (n : Int)) r) :
    ∀ d i : Nat, i + d = n → Ev (fun k => l0 k (i : Int)) r
  | 0, i, h => by
    have e : i = n := by omega
    subst e
    exact stop
  | d + 1, i, h => step i (by omega) (up_ev l0 n r step stop d (i + 1) (by omega))
theorem sz_chain {g : Nat → Option Int} {f : Nat → Int → Option Int} {m : Int} {a b : Nat} (h : Ev g (lft m a)) (h2 : ¬ lft m a < 0 → Ev (fun k => f k (lft m a)) (lft (lft m a) b)) :
    Ev (fun k => (g k).bind fun t => if t < 0 then some (-1) else f k t) (lft m (a + b)) := by
  refine Ev.bind h ?_
  by_cases c : lft m a < 0
  · simp only [if_pos c, lft_neg c]
    exact Ev.now _
  · simp only [if_neg c]
    rw [← lft_lft, if_neg c]
    exact h2 c
theorem sz_last {g : Nat → Option Int} {m : Int} {a : Nat} (h : Ev g (lft m a)) : Ev (fun k => (g k).bind fun t => if t < 0 then some (-1) else some t) (lft m a) := by
  refine Ev.bind h ?_
  by_cases c : lft m a < 0
  · simp only [if_pos c]
    have := lft_neg c 0
    rw [Nat.add_zero] at this
    rw [this]
    exact Ev.now _
  · simp only [if_neg c]
    exact Ev.now _
/-- 'm - n', when that is below 0, is -1. -/
theorem lft_wrap {m : Int} {n : Nat} (h0 : 0 ≤ m) (hm : m ≤ 4611686018427387904) (hn : n ≤ 4611686018427387904) : wrap64 (m - (n : Int)) = m - n := wrap_in _ (by omega) (by omega)
theorem sz_step {f : Nat → Int → Option Int} {m : Int} {n b : Nat} (h0 : 0 ≤ m) (hm : m ≤ 4611686018427387904) (hn : n ≤ 4611686018427387904) (h : ¬ lft m n < 0 → Ev (fun k => f k (lft m n)) (lft (lft m n) b)) :
    Ev (fun k => if wrap64 (m - (n : Int)) < 0 then some (-1) else f k (wrap64 (m - (n : Int)))) (lft m (n + b)) := by
  rw [lft_wrap h0 hm hn]
  by_cases c : lft m n < 0
  · have c' : m - (n : Int) < 0 := by unfold lft at c; split at c <;> omega
    simp only [if_pos c', lft_neg c]
    exact Ev.now _
  · have e := lft_pos c
    have c' : ¬ m - (n : Int) < 0 := by omega
    simp only [if_neg c']
    rw [← lft_lft, if_neg c]
    rw [← e.2]
    exact h c
theorem sz_end {m : Int} {n : Nat} (h0 : 0 ≤ m) (hm : m ≤ 4611686018427387904) (hn : n ≤ 4611686018427387904) : Ev (fun _ => if wrap64 (m - (n : Int)) < 0 then some (-1) else some (wrap64 (m - (n : Int)))) (lft m n) := by
  have := sz_step (f := fun _ t => some t) (m := m) (n := n) (b := 0) h0 hm hn (fun c => ev_eq (Ev.now _) (by have := lft_pos c; unfold lft at *; split at c <;> omega))
  rwa [Nat.add_zero] at this
theorem lft_le {m : Int} {n : Nat} (h : ¬ lft m n < 0) (h0 : 0 ≤ m) (hm : m ≤ 4611686018427387904) : 0 ≤ lft m n ∧ lft m n ≤ 4611686018427387904 := by
  have := lft_pos h
  omega
/-- The first place, counted from i on, whose element p takes. -/
def ixFrom {α : Type} (p : α → Bool) : List α → Nat → Option Nat
  | [], _ => none
  | x :: xs, i => if p x = true then some i else ixFrom p xs (i + 1)
theorem ixFrom_ge {α : Type} (p : α → Bool) : ∀ (xs : List α) (i j : Nat), ixFrom p xs i = some j → i ≤ j ∧ j < i + xs.length
  | [], i, j, h => by simp [ixFrom] at h
  | x :: xs, i, j, h => by
    unfold ixFrom at h
    split at h
    · injection h with h; subst h; simp
    · have := ixFrom_ge p xs (i + 1) j h
      simp only [List.length_cons]
      omega
theorem ixFrom_none {α : Type} (p : α → Bool) : ∀ (xs : List α) (i : Nat), ixFrom p xs i = none ↔ ∀ x ∈ xs, p x = false
  | [], i => by simp [ixFrom]
  | x :: xs, i => by
    unfold ixFrom
    by_cases h : p x = true
    · simp [h]
    · have h' : p x = false := by simpa using h
      simp [h', ixFrom_none p xs (i + 1)]
theorem ixFrom_some {α : Type} (p : α → Bool) : ∀ (xs : List α) (i j : Nat), ixFrom p xs i = some j → ∃ x, xs[j - i]? = some x ∧ p x = true
  | [], i, j, h => by simp [ixFrom] at h
  | x :: xs, i, j, h => by
    unfold ixFrom at h
    split at h
    · rename_i hp
      injection h with h; subst h
      exact ⟨x, by simp, hp⟩
    · have h1 := ixFrom_ge p xs (i + 1) j h
      obtain ⟨y, hy, hp⟩ := ixFrom_some p xs (i + 1) j h
      refine ⟨y, ?_, hp⟩
      have e : j - i = (j - (i + 1)) + 1 := by omega
      rw [e, List.getElem?_cons_succ]
      exact hy
theorem ixFrom_congr {α : Type} {p q : α → Bool} : ∀ (xs : List α) (i : Nat), (∀ x ∈ xs, p x = q x) → ixFrom p xs i = ixFrom q xs i
  | [], _, _ => rfl
  | x :: xs, i, h => by
    unfold ixFrom
    rw [h x (by simp), ixFrom_congr xs (i + 1) (fun y hy => h y (by simp [hy]))]
/-- A loop that looks for the first element that p takes. -/
theorem find_ev {α ρ : Type} (l0 : Nat → Int → Option ρ) (p : α → Bool) (xs : List α) (z : α) (hit : Nat → ρ) (miss : ρ)
    (no : ∀ (i : Nat) (r : ρ), i < xs.length → p (xs.getD i z) = false → Ev (fun k => l0 k ((i + 1 : Nat) : Int)) r → Ev (fun k => l0 k (i : Int)) r)
    (yes : ∀ i : Nat, i < xs.length → p (xs.getD i z) = true → Ev (fun k => l0 k (i : Int)) (hit i))
    (stop : Ev (fun k => l0 k (xs.length : Int)) miss) :
    ∀ d i : Nat, i + d = xs.length → Ev (fun k => l0 k (i : Int)) (match ixFrom p (xs.drop i) i with | some j => hit j | none => miss)
  | 0, i, h => by
    have e : i = xs.length := by omega
    subst e
    rw [List.drop_length]
    exact stop
  | d + 1, i, h => by
    rw [getD_drop xs i z (by omega)]
    unfold ixFrom
    by_cases hp : p (xs.getD i z) = true
    · simp only [hp, if_true]
      exact yes i (by omega) hp
    · have hp' : p (xs.getD i z) = false := by simpa using hp
      simp only [hp', Bool.false_eq_true, if_false]
      exact no i _ (by omega) hp' (find_ev l0 p xs z hit miss no yes stop d (i + 1) (by omega))
/-- Where p first takes an element, as a whole number; -1 where it takes none. -/
def ixI {α : Type} (p : α → Bool) (xs : List α) : Int := match ixFrom p xs 0 with | some j => (j : Int) | none => -1
def anyP {α : Type} (p : α → Bool) (xs : List α) : Bool := match ixFrom p xs 0 with | some _ => true | none => false
theorem ixI_any {α : Type} (p : α → Bool) (xs : List α) : decide (ixI p xs ≥ 0) = anyP p xs := by
  unfold ixI anyP
  cases ixFrom p xs 0 <;> simp
theorem anyP_iff {α : Type} (p : α → Bool) (xs : List α) : anyP p xs = true ↔ ∃ x ∈ xs, p x = true := by
  unfold anyP
  cases h : ixFrom p xs 0 with
  | none =>
    have := (ixFrom_none p xs 0).1 h
    simp only [Bool.false_eq_true, false_iff]
    rintro ⟨x, hx, hp⟩
    rw [this x hx] at hp
    cases hp
  | some j =>
    obtain ⟨x, hx, hp⟩ := ixFrom_some p xs 0 j h
    simp only [true_iff]
    exact ⟨x, List.mem_of_getElem? hx, hp⟩
theorem anyP_false {α : Type} (p : α → Bool) (xs : List α) : anyP p xs = false ↔ ∀ x ∈ xs, p x = false := by
  unfold anyP
  cases h : ixFrom p xs 0 with
  | none => simp only [true_iff]; exact (ixFrom_none p xs 0).1 h
  | some j =>
    obtain ⟨x, hx, hp⟩ := ixFrom_some p xs 0 j h
    simp only [Bool.true_eq_false, false_iff]
    intro hn
    rw [hn x (List.mem_of_getElem? hx)] at hp
    cases hp
theorem total_append {γ : Type} (f : γ → Nat) (xs ys : List γ) : total f (xs ++ ys) = total f xs + total f ys := by simp [total]
theorem total_take {γ : Type} (f : γ → Nat) (xs : List γ) (n : Nat) : total f (xs.take n) ≤ total f xs := by
  have h := total_append f (xs.take n) (xs.drop n)
  rw [List.take_append_drop] at h
  omega
theorem total_map {γ δ : Type} (f : δ → Nat) (g : γ → δ) (xs : List γ) : total f (xs.map g) = total (fun x => f (g x)) xs := by
  unfold total
  rw [List.map_map]
  rfl
theorem total_le {γ : Type} (f g : γ → Nat) : ∀ xs : List γ, (∀ x ∈ xs, f x ≤ g x) → total f xs ≤ total g xs
  | [], _ => Nat.le_refl _
  | x :: xs, h => by
    rw [total_cons, total_cons]
    have := total_le f g xs (fun y hy => h y (by simp [hy]))
    have := h x (by simp)
    omega
theorem total_plus {γ : Type} (f : γ → Nat) (c : Nat) : ∀ xs : List γ, total (fun x => f x + c) xs = total f xs + c * xs.length
  | [] => rfl
  | x :: xs => by
    rw [total_cons, total_cons, total_plus f c xs, List.length_cons, Nat.mul_add]
    omega
theorem getD_take {γ : Type} (xs : List γ) (n i : Nat) (z : γ) (h : i < n) : (xs.take n).getD i z = xs.getD i z := by
  rw [List.getD_eq_getElem?_getD, List.getElem?_take_of_lt h, List.getD_eq_getElem?_getD]
/-- A loop that sums up, element by element. -/
theorem sum_ev {γ : Type} (l0 : Nat → Int → Int → Option Int) (f : γ → Nat) (xs : List γ) (z : γ)
    (step : ∀ (i : Nat) (m r : Int), i < xs.length → 0 ≤ m → m + f (xs.getD i z) ≤ 4611686018427387904 → Ev (fun k => l0 k (m + f (xs.getD i z)) ((i + 1 : Nat) : Int)) r → Ev (fun k => l0 k m (i : Int)) r)
    (stop : ∀ m : Int, Ev (fun k => l0 k m (xs.length : Int)) m) :
    ∀ (d i : Nat) (m : Int), i + d = xs.length → 0 ≤ m → m + total f (xs.drop i) ≤ 4611686018427387904 → Ev (fun k => l0 k m (i : Int)) (m + total f (xs.drop i))
  | 0, i, m, h, h0, hm => by
    have e : i = xs.length := by omega
    subst e
    rw [List.drop_length, total_nil]
    exact ev_eq (stop m) (by omega)
  | d + 1, i, m, h, h0, hm => by
    rw [getD_drop xs i z (by omega), total_cons] at hm ⊢
    exact ev_eq (step i m _ (by omega) h0 (by omega) (sum_ev l0 f xs z step stop d (i + 1) _ (by omega) (by omega) (by omega))) (by omega)
/-- The same, where something is made of the sum at the end. -/
theorem sum_fin {γ ρ : Type} (l0 : Nat → Int → Int → Option ρ) (fin : Int → ρ) (f : γ → Nat) (xs : List γ) (z : γ)
    (step : ∀ (i : Nat) (m : Int) (r : ρ), i < xs.length → 0 ≤ m → m + f (xs.getD i z) ≤ 4611686018427387904 → Ev (fun k => l0 k (m + f (xs.getD i z)) ((i + 1 : Nat) : Int)) r → Ev (fun k => l0 k m (i : Int)) r)
    (stop : ∀ m : Int, Ev (fun k => l0 k m (xs.length : Int)) (fin m)) :
    ∀ (d i : Nat) (m : Int), i + d = xs.length → 0 ≤ m → m + total f (xs.drop i) ≤ 4611686018427387904 → Ev (fun k => l0 k m (i : Int)) (fin (m + total f (xs.drop i)))
  | 0, i, m, h, h0, hm => by
    have e : i = xs.length := by omega
    subst e
    rw [List.drop_length, total_nil]
    exact ev_eq (stop m) (by congr 1; omega)
  | d + 1, i, m, h, h0, hm => by
    rw [getD_drop xs i z (by omega), total_cons] at hm ⊢
    exact ev_eq (step i m _ (by omega) h0 (by omega) (sum_fin l0 fin f xs z step stop d (i + 1) _ (by omega) (by omega) (by omega))) (by congr 1; omega)
/-- A loop that ends with false at the first element that p does not take, and goes on behind the last one. -/
theorem all_ev {γ : Type} (l0 : Nat → Int → Option Bool) (p : γ → Bool) (xs : List γ) (z : γ) (q : Bool)
    (yes : ∀ (i : Nat) (r : Bool), i < xs.length → p (xs.getD i z) = true → Ev (fun k => l0 k ((i + 1 : Nat) : Int)) r → Ev (fun k => l0 k (i : Int)) r)
    (no : ∀ i : Nat, i < xs.length → p (xs.getD i z) = false → Ev (fun k => l0 k (i : Int)) false)
    (stop : Ev (fun k => l0 k (xs.length : Int)) q) :
    ∀ d i : Nat, i + d = xs.length → Ev (fun k => l0 k (i : Int)) ((xs.drop i).all p && q)
  | 0, i, h => by
    have e : i = xs.length := by omega
    subst e
    rw [List.drop_length]
    exact stop
  | d + 1, i, h => by
    rw [getD_drop xs i z (by omega), List.all_cons]
    cases hp : p (xs.getD i z) with
    | true =>
      rw [Bool.true_and]
      exact yes i _ (by omega) hp (all_ev l0 p xs z q yes no stop d (i + 1) (by omega))
    | false =>
      rw [Bool.false_and, Bool.false_and]
      exact no i (by omega) hp
theorem anyP_not {γ : Type} (p : γ → Bool) (xs : List γ) : anyP (fun x => !p x) xs = !xs.all p := by
  rw [Bool.eq_iff_iff, anyP_iff]
  simp [List.all_eq_true]
end Go.Proofs.Ytcappoimcdfggaa.Pl
