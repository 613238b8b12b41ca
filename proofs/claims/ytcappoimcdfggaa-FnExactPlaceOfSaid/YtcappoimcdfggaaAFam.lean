/- Words for the functions that go through data: sizes, copies, comparisons. -/
import Derived.Test.YtcappoimcdfggaaABun
namespace Go.Proofs.Ytcappoimcdfggaa.AI
set_option linter.all false
set_option autoImplicit false
set_option linter.unusedVariables false

/-- What is left of n. -/
def lft (n : Int) (a : Nat) : Int := if n - a < 0 then -1 else n - a
def tot {α : Type} (f : α → Nat) : List α → Nat
  | [] => 0
  | x :: xs => f x + tot f xs
theorem le_tot {α : Type} (f : α → Nat) {xs : List α} {x : α} (h : x ∈ xs) : f x ≤ tot f xs := by
  induction xs with
  | nil => simp at h
  | cons y ys ih =>
    simp only [tot]
    rcases List.mem_cons.1 h with rfl | h
    · omega
    · have := ih h; omega
theorem lft_ge {n : Int} {a : Nat} (h : -1 ≤ n) : -1 ≤ lft n a := by unfold lft; split <;> omega
theorem lft_le {n : Int} {a : Nat} (h : -1 ≤ n) : lft n a ≤ n := by unfold lft; split <;> omega
theorem lft_lt {n : Int} {a : Nat} (h : ¬ lft n a < 0) : lft n a = n - a ∧ 0 ≤ n - a := by unfold lft at *; split at * <;> omega

abbrev cI (n : Int) : List AV := [.int .i64 n]
abbrev cS (s : ByteArray) : List AV := [.str s]
abbrev cB (b : Bool) : List AV := [.bool b]
/-- Whole numbers of 64 bits. -/
def i64 (n : Int) : Prop := -9223372036854775808 ≤ n ∧ n < 9223372036854775808
def gdS (s : ByteArray) : Prop := s.size ≤ 140737488351232
def wtS (s : ByteArray) : Nat := s.size

theorem getRowD {α : Type} {f : α → List AV} {xs : List α} {i : Nat} (h : i < xs.length) : (xs.map f).getD i [] = f xs[i] := getRow f xs h
theorem take_map_len {α β : Type} {f : α → β} {xs : List α} : (xs.map f).take xs.length = xs.map f := List.take_of_length_le (by simp)
theorem take_len {α : Type} {xs : List α} : xs.take xs.length = xs := List.take_length
theorem seg_full {es : List (List AV)} : seg es 0 es.length = es := seg_all rfl
theorem seg_map {α : Type} {f : α → List AV} {xs : List α} : seg (xs.map f) 0 xs.length = xs.map f := seg_all (by simp)
theorem flat_map {α : Type} {f : α → List AV} {xs : List α} (h : ∀ x, scals (f x) = true) : flat (xs.map f) = true := by
  induction xs with
  | nil => rfl
  | cons x xs ih => simp only [List.map_cons, flat, h, ih, Bool.and_self]
theorem solid_map {α : Type} {f : α → List AV} {xs : List α} (h : ∀ x, (f x).all solC = true) : solid (xs.map f) = true := by
  induction xs with
  | nil => rfl
  | cons x xs ih => simp only [List.map_cons, solid_cons, h, ih, Bool.and_self]
theorem flat_cI {xs : List Int} : flat (xs.map cI) = true := flat_map fun _ => rfl
theorem flat_cS {xs : List ByteArray} : flat (xs.map cS) = true := flat_map fun _ => rfl
theorem flat_cB {xs : List Bool} : flat (xs.map cB) = true := flat_map fun _ => rfl
theorem solid_cI {xs : List Int} : solid (xs.map cI) = true := solid_map fun _ => rfl
theorem solid_cS {xs : List ByteArray} : solid (xs.map cS) = true := solid_map fun _ => rfl
theorem solid_cB {xs : List Bool} : solid (xs.map cB) = true := solid_map fun _ => rfl

/-- A row that is filled from its beginning on. -/
def fillR {α : Type} (c : α → List AV) (z : List AV) (xs : List α) (i : Nat) : List (List AV) := (xs.take i).map c ++ List.replicate (xs.length - i) z
theorem fillR_zero {α : Type} (c : α → List AV) (z : List AV) (xs : List α) : List.replicate xs.length z = fillR c z xs 0 := by simp [fillR]
theorem fillR_end {α : Type} {c : α → List AV} {z : List AV} {xs : List α} : fillR c z xs xs.length = xs.map c := by simp [fillR]
theorem fillR_length {α : Type} {c : α → List AV} {z : List AV} {xs : List α} {i : Nat} (h : i ≤ xs.length) : (fillR c z xs i).length = xs.length := by simp [fillR]; omega
theorem fillR_get {α : Type} {c : α → List AV} {z : List AV} {xs : List α} {i : Nat} (h : i < xs.length) : (fillR c z xs i).getD i [] = z := by
  have h1 : ((xs.take i).map c).length = i := by simp; omega
  rw [fillR, List.getD_eq_getElem?_getD, List.getElem?_append_right (by omega), h1]
  rw [List.getElem?_replicate, if_pos (by omega)]
  rfl
theorem fillR_set {α : Type} {c : α → List AV} {z : List AV} {xs : List α} {i : Nat} (h : i < xs.length) {e : List AV} (he : e = c xs[i]) : (fillR c z xs i).set i e = fillR c z xs (i + 1) := by
  subst he
  have h1 : ((xs.take i).map c).length = i := by simp; omega
  have h2 : xs.length - i = (xs.length - (i + 1)) + 1 := by omega
  unfold fillR
  rw [List.set_append_right _ _ (by omega), h1, h2, List.replicate_succ, Nat.sub_self, List.set_cons_zero, List.take_succ_eq_append_getElem h, List.map_append, List.append_assoc]
  rfl

/-- What a loop that takes sizes off gives. -/
def szR (t : Nat) (n : Int) (a : Nat) : Option (Ex × St) := if n - a < 0 then some (.ret, ⟨[(t, .int .i64 (-1))], []⟩) else some (.exit 0, ⟨[(1, .int .i64 (n - a))], []⟩)
theorem szR_zero {t : Nat} {n : Int} (h : 0 ≤ n) : some (Ex.exit 0, (⟨[(1, .int .i64 n)], []⟩ : St)) = szR t n 0 := by
  unfold szR; rw [if_neg (by omega)]; simp
theorem szR_neg {t : Nat} {n : Int} {a b : Nat} (h : n - (a : Int) < 0) : some (Ex.ret, (⟨[(t, .int .i64 (-1))], []⟩ : St)) = szR t n (a + b) := by
  unfold szR; rw [if_pos (by omega)]
theorem szR_pos {t : Nat} {n : Int} {a b : Nat} : szR t (n - (a : Int)) b = szR t n (a + b) := by
  unfold szR; rw [show n - (a : Int) - (b : Int) = n - ((a + b : Nat) : Int) by omega]
theorem goE_szR {ctx : Ctx} {base : Nat} {t : Nat} {n : Int} {a : Nat} {K : List Fr} : goE ctx base (szR t n a) K = if n - (a : Int) < 0 then unw ctx base K .ret ⟨[(t, .int .i64 (-1))], []⟩ else unw ctx base K (.exit 0) ⟨[(1, .int .i64 (n - (a : Int)))], []⟩ := by
  unfold szR; split <;> rfl
theorem neg1_lt : ((-1 : Int) < 0) = True := by simp

theorem loopV_by {ctx : Ctx} {base : Nat} {keep : List Nat} {keepx : List (Nat × List Nat)} {a a' : RC} (h : a = a') (s : St) : loopV ctx base keep keepx a s = rnd ctx base keep keepx a (go ctx base [.c a'] s) := by
  rw [← h]; exact loopV_eq _ _ _ _ _ _

theorem nat_lt {a b : Nat} : ((a : Int) < (b : Int)) = (a < b) := by simp
theorem nat_le {a b : Nat} : ((a : Int) ≤ (b : Int)) = (a ≤ b) := by simp
theorem wrap_succ {i : Nat} (h : i < 4611686018427387904) : IntKind.wrap .i64 ((i : Int) + 1) = ((i + 1 : Nat) : Int) := by rw [wrapI (by omega) (by omega)]; omega
theorem int_lt_irrefl {a : Int} : ¬ a < a := Int.lt_irrefl a

/-! where the first one is; how many there are -/
def fIx {α : Type} (p : α → Bool) : List α → Nat → Int
  | [], _ => -1
  | x :: xs, i => if p x = true then (i : Int) else fIx p xs (i + 1)
def cnt {α : Type} (p : α → Bool) : List α → Nat
  | [] => 0
  | x :: xs => (if p x = true then 1 else 0) + cnt p xs
theorem fIx_ge {α : Type} {p : α → Bool} : ∀ {xs : List α} {i : Nat}, fIx p xs i = -1 ∨ ((i : Int) ≤ fIx p xs i ∧ fIx p xs i < ((i + xs.length : Nat) : Int))
  | [], i => .inl rfl
  | x :: xs, i => by
    simp only [fIx, List.length_cons]
    split
    · right; omega
    · rcases @fIx_ge α p xs (i + 1) with h | h
      · exact .inl h
      · right; omega
theorem cnt_le {α : Type} {p : α → Bool} : ∀ {xs : List α}, cnt p xs ≤ xs.length
  | [] => Nat.le_refl _
  | x :: xs => by
    have := @cnt_le α p xs
    simp only [cnt, List.length_cons]
    split <;> omega
/-- What a loop that seeks gives. -/
def fixR (t : Nat) (n : Int) : Option (Ex × St) := if n < 0 then some (.exit 0, ⟨[], []⟩) else some (.ret, ⟨[(t, .int .i64 n)], []⟩)
theorem fixR_nil {α : Type} {t : Nat} {p : α → Bool} {i : Nat} : some (Ex.exit 0, (⟨[], []⟩ : St)) = fixR t (fIx p [] i) := rfl
theorem fixR_yes {α : Type} {t : Nat} {p : α → Bool} {x : α} {xs : List α} {i : Nat} (h : p x = true) : some (Ex.ret, (⟨[(t, .int .i64 (i : Int))], []⟩ : St)) = fixR t (fIx p (x :: xs) i) := by
  simp only [fIx, h, if_true, fixR]
  rw [if_neg (by omega)]
theorem fixR_no {α : Type} {t : Nat} {p : α → Bool} {x : α} {xs : List α} {i : Nat} (h : ¬ p x = true) : fixR t (fIx p xs (i + 1)) = fixR t (fIx p (x :: xs) i) := by
  simp only [fIx, if_neg h]
theorem goE_fixR {ctx : Ctx} {base : Nat} {t : Nat} {n : Int} {K : List Fr} : goE ctx base (fixR t n) K = if n < 0 then unw ctx base K (.exit 0) ⟨[], []⟩ else unw ctx base K .ret ⟨[(t, .int .i64 n)], []⟩ := by
  unfold fixR; split <;> rfl
end Go.Proofs.Ytcappoimcdfggaa.AI
