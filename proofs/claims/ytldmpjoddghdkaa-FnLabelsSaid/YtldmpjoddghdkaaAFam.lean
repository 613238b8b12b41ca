import Derived.Test.YtldmpjoddghdkaaABun
namespace Go.Proofs.Ytldmpjoddghdkaa.AI
set_option linter.all false
set_option autoImplicit false
set_option linter.unusedVariables false
def lft (n : Int) (a : Nat) : Int := if n - a < 0 then -1 else n - a
def tot {α : Type} (f : α → Nat) : List α → Nat
  | [] => 0
  | x :: xs => f x + tot f xs
theorem le_tot {α : Type} (f : α → Nat) {xs : List α} {x : α} (h : x ∈ xs) : f x ≤ tot f xs := by
  induction xs with
  | nil => simp at h
  | cons y ys ih =>
    simp only [tot]
    rcases List.mem_cons.1 h with rfl | h
    · omega
    · have := ih h; omega
theorem lft_ge {n : Int} {a : Nat} (h : -1 ≤ n) : -1 ≤ lft n a := by unfold lft; split <;> omega
theorem lft_le {n : Int} {a : Nat} (h : -1 ≤ n) : lft n a ≤ n := by unfold lft; split <;> omega
theorem lft_or (m : Int) (a : Nat) : (lft m a = -1 ∧ m - (a : Int) < 0) ∨ (lft m a = m - (a : Int) ∧ 0 ≤ m - (a : Int)) := by unfold lft; split <;> omega
theorem lft_lt {n : Int} {a : Nat} (h : ¬ lft n a < 0) : lft n a = n - a ∧ 0 ≤ n - a := by unfold lft at *; split at * <;> omega
abbrev cI (n : Int) : List AV := [.int .i64 n]
abbrev cS (s : ByteArray) : List AV := [.str s]
abbrev cB (b : Bool) : List AV := [.bool b]
def i64 (n : Int) : Prop := -9223372036854775808 ≤ n ∧ n < 9223372036854775808
def gdS (s : ByteArray) : Prop := s.size ≤ 140737488351232
def wtS (s : ByteArray) : Nat := s.size
theorem getRowD {α : Type} {f : α → List AV} {xs : List α} {i : Nat} (h : i < xs.length) : (xs.map f).getD i [] = f xs[i] := getRow f xs h
theorem take_map_len {α β : Type} {f : α → β} {xs : List α} : (xs.map f).take xs.length = xs.map f := List.take_of_length_le (by simp)
theorem take_len {α : Type} {xs : List α} : xs.take xs.length = xs := List.take_length
theorem seg_full {es : List (List AV)} : seg es 0 es.length = es := seg_all rfl
theorem seg_map {α : Type} {f : α → List AV} {xs : List α} : seg (xs.map f) 0 xs.length = xs.map f := seg_all (by simp)
theorem seg_nil {a b : Nat} : seg [] a b = [] := by simp [seg]
theorem seg_one {e : List AV} : seg [e] 0 1 = [e] := rfl
theorem seg_take {α : Type} {f : α → List AV} {xs : List α} {n : Nat} : seg (xs.map f) 0 n = (xs.take n).map f := by simp [seg, List.map_take]
theorem seg_tail {e : List AV} {es : List (List AV)} : seg (e :: es) 1 es.length = es := by simp [seg]
theorem seg_tailM {α : Type} {f : α → List AV} {e : List AV} {xs : List α} : seg (e :: xs.map f) 1 xs.length = xs.map f := by simp [seg, List.take_of_length_le]
theorem pos_succ {n : Nat} : 0 < n + 1 := Nat.succ_pos n
theorem set_cI {xs : List Int} {n : Nat} {v : Int} : (xs.map cI).set n [.int .i64 v] = (xs.set n v).map cI := by rw [List.map_set]
theorem set_cS {xs : List ByteArray} {n : Nat} {v : ByteArray} : (xs.map cS).set n [.str v] = (xs.set n v).map cS := by rw [List.map_set]
theorem set_cB {xs : List Bool} {n : Nat} {v : Bool} : (xs.map cB).set n [.bool v] = (xs.set n v).map cB := by rw [List.map_set]
theorem flat_map {α : Type} {f : α → List AV} {xs : List α} (h : ∀ x, scals (f x) = true) : flat (xs.map f) = true := by
  induction xs with
  | nil => rfl
  | cons x xs ih => simp only [List.map_cons, flat, h, ih, Bool.and_self]
theorem solid_map {α : Type} {f : α → List AV} {xs : List α} (h : ∀ x, (f x).all solC = true) : solid (xs.map f) = true := by
  induction xs with
  | nil => rfl
  | cons x xs ih => simp only [List.map_cons, solid_cons, h, ih, Bool.and_self]
theorem flat_cI {xs : List Int} : flat (xs.map cI) = true := flat_map fun _ => rfl
theorem flat_cS {xs : List ByteArray} : flat (xs.map cS) = true := flat_map fun _ => rfl
theorem flat_cB {xs : List Bool} : flat (xs.map cB) = true := flat_map fun _ => rfl
theorem solid_cI {xs : List Int} : solid (xs.map cI) = true := solid_map fun _ => rfl
theorem solid_cS {xs : List ByteArray} : solid (xs.map cS) = true := solid_map fun _ => rfl
theorem solid_cB {xs : List Bool} : solid (xs.map cB) = true := solid_map fun _ => rfl
def fillR {α : Type} (c : α → List AV) (z : List AV) (xs : List α) (i : Nat) : List (List AV) := (xs.take i).map c ++ List.replicate (xs.length - i) z
theorem fillR_zero {α : Type} (c : α → List AV) (z : List AV) (xs : List α) : List.replicate xs.length z = fillR c z xs 0 := by simp [fillR]
theorem fillR_end {α : Type} {c : α → List AV} {z : List AV} {xs : List α} : fillR c z xs xs.length = xs.map c := by simp [fillR]
theorem fillR_length {α : Type} {c : α → List AV} {z : List AV} {xs : List α} {i : Nat} (h : i ≤ xs.length) : (fillR c z xs i).length = xs.length := by simp [fillR]; omega
theorem fillR_get {α : Type} {c : α → List AV} {z : List AV} {xs : List α} {i : Nat} (h : i < xs.length) : (fillR c z xs i).getD i [] = z := by
  have h1 : ((xs.take i).map c).length = i := by simp; omega
  rw [fillR, List.getD_eq_getElem?_getD, List.getElem?_append_right (by omega), h1]
  rw [List.getElem?_replicate, if_pos (by omega)]
  rfl
theorem fillR_set {α : Type} {c : α → List AV} {z : List AV} {xs : List α} {i : Nat} (h : i < xs.length) {e : List AV} (he : e = c xs[i]) : (fillR c z xs i).set i e = fillR c z xs (i + 1) := by
  subst he
  have h1 : ((xs.take i).map c).length = i := by simp; omega
  have h2 : xs.length - i = (xs.length - (i + 1)) + 1 := by omega
  unfold fillR
  rw [List.set_append_right _ _ (by omega), h1, h2, List.replicate_succ, Nat.sub_self, List.set_cons_zero, List.take_succ_eq_append_getElem h, List.map_append, List.append_assoc]
  rfl
def szR (t : Nat) (n : Int) (a : Nat) : Option (Ex × St) := if n - a < 0 then some (.ret, ⟨[(t, .int .i64 (-1))], []⟩) else some (.exit 0, ⟨[(1, .int .i64 (n - a))], []⟩)
theorem szR_zero {t : Nat} {n : Int} (h : 0 ≤ n) : some (Ex.exit 0, (⟨[(1, .int .i64 n)], []⟩ : St)) = szR t n 0 := by
  unfold szR; rw [if_neg (by omega)]; simp
theorem szR_neg {t : Nat} {n : Int} {a b : Nat} (h : n - (a : Int) < 0) : some (Ex.ret, (⟨[(t, .int .i64 (-1))], []⟩ : St)) = szR t n (a + b) := by
  unfold szR; rw [if_pos (by omega)]
theorem szR_pos {t : Nat} {n : Int} {a b : Nat} : szR t (n - (a : Int)) b = szR t n (a + b) := by
  unfold szR; rw [show n - (a : Int) - (b : Int) = n - ((a + b : Nat) : Int) by omega]
theorem goE_szR {ctx : Ctx} {base : Nat} {t : Nat} {n : Int} {a : Nat} {K : List Fr} : goE ctx base (szR t n a) K = if n - (a : Int) < 0 then unw ctx base K .ret ⟨[(t, .int .i64 (-1))], []⟩ else unw ctx base K (.exit 0) ⟨[(1, .int .i64 (n - (a : Int)))], []⟩ := by
  unfold szR; split <;> rfl
theorem neg1_lt : ((-1 : Int) < 0) = True := by simp
theorem loopV_by {ctx : Ctx} {base : Nat} {keep : List Nat} {keepx : List (Nat × List Nat)} {a a' : RC} (h : a = a') (s : St) : loopV ctx base keep keepx a s = rnd ctx base keep keepx a (go ctx base [.c a'] s) := by
  rw [← h]; exact loopV_eq _ _ _ _ _ _
theorem nat_lt {a b : Nat} : ((a : Int) < (b : Int)) = (a < b) := by simp
theorem nat_le {a b : Nat} : ((a : Int) ≤ (b : Int)) = (a ≤ b) := by simp
theorem wrap_succ {i : Nat} (h : i < 4611686018427387904) : IntKind.wrap .i64 ((i : Int) + 1) = ((i + 1 : Nat) : Int) := by rw [wrapI (by omega) (by omega)]; omega
theorem int_lt_irrefl {a : Int} : ¬ a < a := Int.lt_irrefl a
def fIx {α : Type} (p : α → Bool) : List α → Nat → Int
  | [], _ => -1
  | x :: xs, i => if p x = true then (i : Int) else fIx p xs (i + 1)
def cnt {α : Type} (p : α → Bool) : List α → Nat
  | [] => 0
  | x :: xs => (if p x = true then 1 else 0) + cnt p xs
theorem fIx_ge {α : Type} {p : α → Bool} : ∀ {xs : List α} {i : Nat}, fIx p xs i = -1 ∨ ((i : Int) ≤ fIx p xs i ∧ fIx p xs i < ((i + xs.length : Nat) : Int))
  | [], i => .inl rfl
  | x :: xs, i => by
    simp only [fIx, List.length_cons]
    split
    · right; omega
    · rcases @fIx_ge α p xs (i + 1) with h | h
      · exact .inl h
      · right; omega
theorem cnt_le {α : Type} {p : α → Bool} : ∀ {xs : List α}, cnt p xs ≤ xs.length
  | [] => Nat.le_refl _
  | x :: xs => by
    have := @cnt_le α p xs
    simp only [cnt, List.length_cons]
    split <;> omega
def fixR (t : Nat) (n : Int) : Option (Ex × St) := if n < 0 then some (.exit 0, ⟨[], []⟩) else some (.ret, ⟨[(t, .int .i64 n)], []⟩)
theorem fixR_nil {α : Type} {t : Nat} {p : α → Bool} {i : Nat} : some (Ex.exit 0, (⟨[], []⟩ : St)) = fixR t (fIx p [] i) := rfl
theorem fixR_yes {α : Type} {t : Nat} {p : α → Bool} {x : α} {xs : List α} {i : Nat} (h : p x = true) : some (Ex.ret, (⟨[(t, .int .i64 (i : Int))], []⟩ : St)) = fixR t (fIx p (x :: xs) i) := by
  simp only [fIx, h, if_true, fixR]
  rw [if_neg (by omega)]
theorem fixR_no {α : Type} {t : Nat} {p : α → Bool} {x : α} {xs : List α} {i : Nat} (h : ¬ p x = true) : fixR t (fIx p xs (i + 1)) = fixR t (fIx p (x :: xs) i) := by
  simp only [fIx, if_neg h]
theorem goE_fixR {ctx : Ctx} {base : Nat} {t : Nat} {n : Int} {K : List Fr} : goE ctx base (fixR t n) K = if n < 0 then unw ctx base K (.exit 0) ⟨[], []⟩ else unw ctx base K .ret ⟨[(t, .int .i64 n)], []⟩ := by
  unfold fixR; split <;> rfl
def mkL {α : Type} (mk : α → Int → α) (ct : α → Nat) : List α → Int → List α
  | [], _ => []
  | x :: xs, k => mk x k :: mkL mk ct xs (k + ct x)
theorem mkL_length {α : Type} {mk : α → Int → α} {ct : α → Nat} : ∀ {xs : List α} {k : Int}, (mkL mk ct xs k).length = xs.length
  | [], _ => rfl
  | x :: xs, k => by simp only [mkL, List.length_cons, mkL_length]
theorem mkL_get {α : Type} {mk : α → Int → α} {ct : α → Nat} : ∀ {xs : List α} {k : Int} {i : Nat} (h : i < xs.length) (h' : i < (mkL mk ct xs k).length), (mkL mk ct xs k)[i] = mk xs[i] (k + tot ct (xs.take i))
  | x :: xs, k, 0, _, _ => by simp [mkL, tot]
  | x :: xs, k, i + 1, h, h' => by
    simp only [mkL, List.getElem_cons_succ, List.take_succ_cons, tot]
    rw [mkL_get (by simpa using h)]
    congr 1; omega
theorem tot_take {α : Type} {f : α → Nat} {xs : List α} {i : Nat} (h : i < xs.length) : tot f (xs.take i) + f xs[i] + tot f (xs.drop (i + 1)) = tot f xs := by
  induction xs generalizing i with
  | nil => simp at h
  | cons x xs ih =>
    cases i with
    | zero => simp [tot]
    | succ i =>
      simp only [List.take_succ_cons, tot, List.getElem_cons_succ, List.drop_succ_cons]
      have := @ih i (by simpa using h)
      omega
theorem tot_one {α : Type} {xs : List α} : tot (fun _ => 1) xs = xs.length := by
  induction xs with
  | nil => rfl
  | cons x xs ih => simp only [tot, ih, List.length_cons]; omega
theorem mid_get {α : Type} {c : α → List AV} {ys : List α} {xs : List α} {i : Nat} (hy : ys.length = i) (h : i < xs.length) : ((ys ++ xs.drop i).map c).getD i [] = c xs[i] := by
  subst hy
  rw [List.getD_eq_getElem?_getD, List.map_append, List.getElem?_append_right (by simp), List.drop_eq_getElem_cons h, List.length_map, Nat.sub_self, List.map_cons, List.getElem?_cons_zero, Option.getD_some]
theorem mid_set {α : Type} {c : α → List AV} {ys : List α} {xs : List α} {i : Nat} (hy : ys.length = i) (h : i < xs.length) {x : α} {e : List AV} (he : e = c x) : ((ys ++ xs.drop i).map c).set i e = ((ys ++ [x]) ++ xs.drop (i + 1)).map c := by
  subst hy he
  rw [List.drop_eq_getElem_cons h, List.map_append, List.set_append_right _ _ (by simp), List.length_map, Nat.sub_self, List.map_cons, List.set_cons_zero, List.map_append, List.map_append, List.map_cons, List.map_nil, List.append_assoc]
  rfl
theorem mid_len {α : Type} {c : α → List AV} {ys : List α} {xs : List α} {i : Nat} (hy : ys.length = i) (h : i < xs.length) : ((ys ++ xs.drop i).map c).length = xs.length := by simp; omega
theorem len_add_drop {α : Type} {ys xs : List α} {i : Nat} (hy : ys.length = i) (h : i ≤ xs.length) : ys.length + (xs.length - i) = xs.length := by omega
theorem set_getD {es : List (List AV)} {i : Nat} {e : List AV} (h : i < es.length) : (es.set i e).getD i [] = e := by simp [List.getD_eq_getElem?_getD, h]
theorem set_set {α : Type} {es : List α} {i : Nat} {e e' : α} : (es.set i e).set i e' = es.set i e' := List.set_set ..
theorem seg_mkL {α : Type} {c : α → List AV} {mk : α → Int → α} {ct : α → Nat} {xs : List α} {k : Int} : seg ((mkL mk ct xs k).map c) 0 xs.length = (mkL mk ct xs k).map c := seg_all (by simp [mkL_length])
def dig (n : Nat) (s : ByteArray) : ByteArray :=
  if h : n = 0 then s else dig (n / 10) (⟨#[UInt8.ofNat (IntKind.wrap .u8 (IntKind.wrap .i64 (48 + Int.tmod n 10))).toNat]⟩ ++ s)
termination_by n
decreasing_by omega
def mT (k : Int) : ByteArray := ⟨#[109]⟩ ++ dig k.toNat ⟨#[]⟩
theorem dig_zero {s : ByteArray} : dig 0 s = s := by rw [dig]; simp
theorem dig_pos {n : Nat} (h : n ≠ 0) {s : ByteArray} : dig n s = dig (n / 10) (⟨#[UInt8.ofNat (IntKind.wrap .u8 (IntKind.wrap .i64 (48 + Int.tmod n 10))).toNat]⟩ ++ s) := by rw [dig]; simp [h]
theorem dig_size : ∀ (n : Nat) (s : ByteArray), (dig n s).size ≤ s.size + n := by
  intro n
  induction n using Nat.strongRecOn with
  | _ n ih =>
    intro s
    by_cases h : n = 0
    · subst h; rw [dig_zero]; omega
    · rw [dig_pos h]
      have := ih (n / 10) (by omega) (⟨#[UInt8.ofNat (IntKind.wrap .u8 (IntKind.wrap .i64 (48 + Int.tmod n 10))).toNat]⟩ ++ s)
      rw [ByteArray.size_append, show (⟨#[UInt8.ofNat (IntKind.wrap .u8 (IntKind.wrap .i64 (48 + Int.tmod n 10))).toNat]⟩ : ByteArray).size = 1 from rfl] at this
      omega
def mkI (_ : Int) (k : Int) : Int := k
def mkS (_ : ByteArray) (k : Int) : ByteArray := mT k
def mkB (_ : Bool) (k : Int) : Bool := decide (Int.tmod k 3 = 0)
def ct1 {α : Type} (_ : α) : Nat := 1
theorem len_tot {α : Type} {ct : α → Nat} (h : ∀ x, 1 ≤ ct x) : ∀ {xs : List α}, xs.length ≤ tot ct xs
  | [] => Nat.le_refl _
  | x :: xs => by have := h x; have := @len_tot α ct h xs; simp only [tot, List.length_cons]; omega
theorem len_ct1 {α : Type} {xs : List α} : xs.length ≤ tot ct1 xs := len_tot fun _ => Nat.le_refl _
theorem tot_ct1 {α : Type} (xs : List α) : tot ct1 xs = xs.length := tot_one
theorem tot_ct_le {α : Type} {ct wt : α → Nat} {M : Nat} (h : ∀ x, ct x ≤ M * (1 + wt x)) : ∀ xs : List α, tot ct xs ≤ M * (xs.length + tot wt xs)
  | [] => by simp [tot]
  | x :: xs => by
    have h1 := h x
    have h2 := tot_ct_le h xs
    simp only [tot, List.length_cons]
    rw [show xs.length + 1 + (wt x + tot wt xs) = (1 + wt x) + (xs.length + tot wt xs) by omega, Nat.mul_add]
    omega
theorem tot_ct_le0 {α : Type} {ct : α → Nat} {M : Nat} (h : ∀ x, ct x ≤ M) : ∀ xs : List α, tot ct xs ≤ M * xs.length
  | [] => by simp [tot]
  | x :: xs => by
    have h1 := h x
    have h2 := tot_ct_le0 h xs
    simp only [tot, List.length_cons]
    rw [Nat.mul_add]
    omega
theorem tot_set_le {α : Type} {f : α → Nat} {v : α} : ∀ {xs : List α} {n : Nat}, tot f (xs.set n v) ≤ tot f xs + f v
  | [], _ => by simp [tot]
  | x :: xs, 0 => by simp only [List.set_cons_zero, tot]; omega
  | x :: xs, n + 1 => by have := @tot_set_le α f v xs n; simp only [List.set_cons_succ, tot]; omega
theorem tot_append {α : Type} {f : α → Nat} : ∀ {xs ys : List α}, tot f (xs ++ ys) = tot f xs + tot f ys
  | [], ys => by simp [tot]
  | x :: xs, ys => by have := @tot_append α f xs ys; simp only [List.cons_append, tot]; omega
theorem flat_mkI {xs : List Int} {k : Int} : flat ((mkL mkI ct1 xs k).map cI) = true := flat_cI
theorem tot_take0 {α : Type} {f : α → Nat} {xs : List α} : tot f (xs.take 0) = 0 := rfl
theorem tot_take1 {α : Type} {f : α → Nat} {xs : List α} {i : Nat} (h : i < xs.length) : tot f (xs.take (i + 1)) = tot f (xs.take i) + f xs[i] := by
  have h1 := tot_take (f := f) h
  have h2 : ∀ (n : Nat), n ≤ xs.length → tot f (xs.take n) + tot f (xs.drop n) = tot f xs := by
    intro n hn
    clear h1 h
    induction xs generalizing n with
    | nil => simp [tot]
    | cons x xs ih =>
      cases n with
      | zero => simp [tot]
      | succ n => simp only [List.take_succ_cons, List.drop_succ_cons, tot]; have := ih n (by simpa using hn); omega
  have h3 := h2 (i + 1) h
  omega
theorem tot_take_le {α : Type} {f : α → Nat} {xs : List α} {i : Nat} (h : i < xs.length) : tot f (xs.take i) + f xs[i] ≤ tot f xs := by
  have := tot_take (f := f) h; omega
theorem tot_take_end {α : Type} {f : α → Nat} {xs : List α} : tot f (xs.take xs.length) = tot f xs := by rw [List.take_length]
end Go.Proofs.Ytldmpjoddghdkaa.AI
