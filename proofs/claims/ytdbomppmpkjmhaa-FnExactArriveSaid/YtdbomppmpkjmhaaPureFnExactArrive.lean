/- The pure statement of the law FnExactArrive holds: what the printed functions compute is what the law says, at every argument. -/
import Derived.Test.YtdbomppmpkjmhaaOpFnExactArrive
import Derived.Test.YtdbomppmpkjmhaaPlFnExactArrive
namespace Go.Proofs.Ytdbomppmpkjmhaa.Pure
open Go.RowKit Go.Proofs.Ytdbomppmpkjmhaa.PFnExactArrive Go.Proofs.YtdbomppmpkjmhaaW.PrintWords Go.Proofs.YtdbomppmpkjmhaaW.PrintLast Go.Proofs.Ytdbomppmpkjmhaa.Pl
set_option linter.unusedSimpArgs false
set_option linter.unusedVariables false
theorem szIntS_ev (xs : List Int) (m : Int) (hx : xs.length ≤ 140737488351232) (h0 : 0 ≤ m) (hm : m ≤ 4611686018427387904) : Ev (fun _ => laws_szIntS.f xs m) (lft m xs.length) := sz_end h0 hm (by omega)
theorem szGate_ev (x0 : Int) (x1 : List Int) (x2 : List Int) (m : Int) (hx1 : x1.length ≤ 140737488351232) (hx2 : x2.length ≤ 140737488351232) (h0 : 0 ≤ m) (hm : m ≤ 4611686018427387904) : Ev (fun _ => laws_szGate.f x0 x1 x2 m) (lft m (x1.length + (x2.length))) := by
  unfold laws_szGate.f
  refine sz_chain (szIntS_ev x1 _ hx1 h0 hm) (fun c => ?_)
  have hc := lft_le c h0 hm
  exact sz_last (szIntS_ev x2 _ hx2 hc.1 hc.2)
theorem toIntS_ev (xs : List Int) (hb : xs.length ≤ 2000000000000) : Ev (fun k => laws_toIntS.f k xs) xs := by
  refine ev_eq (Ev.congr (f := fun k => laws_toIntS.l0 k xs (List.replicate xs.length 0) ((0 : Nat) : Int)) (fun k => ?_) (fill_ev (fun k ys i => laws_toIntS.l0 k xs ys i) (fun x => x) xs 0 (fun i ys r hi hy h => ev_succ ?_) (fun ys hy => ev_now (fun k => ?_)) xs.length 0 _ (by omega) (by simp) (by simp))) (by simp)
  · simp (disch := omega) only [laws_toIntS.f, if_pos, Int.toNat_natCast]; rfl
  · simp (disch := omega) only [laws_toIntS.l0, if_pos, wrap_nat, Int.toNat_natCast]; exact h
  · simp (disch := omega) only [laws_toIntS.l0, if_neg]
theorem toGate_ev (x0 : Int) (x1 : List Int) (x2 : List Int) (hx1 : x1.length ≤ 2000000000000) (hx2 : x2.length ≤ 2000000000000) : Ev (fun k => laws_toGate.f k x0 x1 x2) (x0, x1, x2) := by
  unfold laws_toGate.f
  exact Ev.bind (toIntS_ev x1 hx1) (Ev.bind (toIntS_ev x2 hx2) (Ev.now _))
theorem eqIntS_self (xs : List Int) (hb : xs.length ≤ 9000000000000000000) : Ev (fun k => laws_eqIntS.f k xs xs) true := by
  refine Ev.congr (f := fun k => laws_eqIntS.l0 k xs xs ((0 : Nat) : Int)) (fun k => ?_) (up_ev (fun k i => laws_eqIntS.l0 k xs xs i) xs.length true (fun i hi h => ev_succ ?_) (ev_now (fun k => ?_)) xs.length 0 (by omega))
  · simp (disch := omega) only [laws_eqIntS.f, if_pos]; rfl
  · simp (disch := omega) only [laws_eqIntS.l0, if_pos, wrap_nat, eq_self, if_true, bne_self_eq_false, Bool.false_eq_true, if_false]; exact h
  · simp (disch := omega) only [laws_eqIntS.l0, if_neg]
theorem eqGate_self (x0 : Int) (x1 : List Int) (x2 : List Int) (hx1 : x1.length ≤ 9000000000000000000) (hx2 : x2.length ≤ 9000000000000000000) : Ev (fun k => laws_eqGate.f k x0 x1 x2 x0 x1 x2) true := by
  unfold laws_eqGate.f
  exact ev_pos rfl (Ev.bind (eqIntS_self x1 hx1) (ev_pos rfl (Ev.bind (eqIntS_self x2 hx2) (ev_pos rfl (Ev.now _)))))
theorem mhIntS (xs : List Int) (m : Int) (hx : xs.length ≤ 1000000000000) (h0 : 0 ≤ m) (hm : m ≤ 1000000000000) : ∃ (ys : List Int) (m' : Int), ys.length = xs.length ∧ Ev (fun k => laws_markIntS.f k xs m) (m', ys) ∧ Ev (fun k => laws_heldIntS.f k ys m) m' ∧ m ≤ m' ∧ m' ≤ m + xs.length := by
  have ht : total (fun _ : Int => 1) (xs.drop 0) = xs.length := total_one _
  obtain ⟨ys, m', hl, _, h1, h2, h3, h4⟩ := markheld (fun k ys t i => laws_markIntS.l0 k ys t i) (fun k ys t i => laws_heldIntS.l0 k ys t i) (fun _ t y t1 => y = t ∧ t1 = t + 1) (fun _ => 1) 0
    (fun x t ht0 hb => ⟨t, t + 1, ⟨rfl, rfl⟩, by omega, by omega⟩)
    (fun i zs t y t1 r hi hz ht0 hb hE h => by
      obtain ⟨rfl, rfl⟩ := hE
      refine ev_succ ?_
      simp (disch := omega) only [laws_markIntS.l0, if_pos, wrap_nat, Int.toNat_natCast]
      rw [wrap_in _ (by omega) (by omega)]
      exact h)
    (fun zs t => ev_now (fun k => by simp (disch := omega) only [laws_markIntS.l0, if_neg]))
    (fun i zs x t t1 r hi hz ht0 hb hE h => by
      obtain ⟨hy, rfl⟩ := hE
      have hy' : rd zs (i : Int) = t := hy
      refine ev_succ ?_
      simp (disch := omega) only [laws_heldIntS.l0, if_pos, wrap_nat]
      rw [wrap_in _ (by omega) (by omega)]
      exact h)
    (fun zs t => ev_now (fun k => by simp (disch := omega) only [laws_heldIntS.l0, if_neg]))
    xs.length 0 xs m (by omega) (by omega) h0 (by rw [ht]; omega)
  rw [ht] at h4
  exact ⟨ys, m', hl, h1, h2, h3, h4⟩
/-- In line, each in 0 .. 3 and none of those seen. -/
def freshB (seen : List Int) : List Int → Bool
  | [] => true
  | x :: xs => decide (0 ≤ x ∧ x ≤ 3) && (decide (x ∉ seen) && freshB (seen ++ [x]) xs)
def qfreshB (seen : List Int) : List Int → Bool
  | [] => true
  | x :: xs => if x = -1 then qfreshB (seen ++ [x]) xs else decide (0 ≤ x ∧ x ≤ 3) && (decide (x ∉ seen) && qfreshB (seen ++ [x]) xs)
def somebody (xs : List Int) : List Int := xs.filter (fun x => decide (x ≠ -1))
theorem freshB_app : ∀ (xs ys seen : List Int), freshB seen (xs ++ ys) = (freshB seen xs && freshB (seen ++ xs) ys)
  | [], ys, seen => by simp [freshB]
  | x :: xs, ys, seen => by
    simp only [List.cons_append, freshB, freshB_app xs ys (seen ++ [x]), List.append_assoc, List.singleton_append, List.nil_append, Bool.and_assoc]
theorem freshB_mem : ∀ (xs seen : List Int), freshB seen xs = true → ∀ x ∈ xs, 0 ≤ x ∧ x ≤ 3
  | [], _, _, x, hx => by simp at hx
  | y :: ys, seen, h, x, hx => by
    unfold freshB at h
    simp only [Bool.and_eq_true, decide_eq_true_eq] at h
    rcases List.mem_cons.1 hx with rfl | hx
    · exact h.1
    · exact freshB_mem ys _ h.2.2 x hx
theorem qfreshB_eq : ∀ (xs seen : List Int), qfreshB seen xs = freshB (somebody seen) (somebody xs)
  | [], seen => rfl
  | x :: xs, seen => by
    unfold qfreshB
    rw [qfreshB_eq xs (seen ++ [x])]
    by_cases h : x = -1
    · subst h
      simp [somebody]
    · have hm : x ∈ somebody seen ↔ x ∈ seen := by simp [somebody, h]
      rw [if_neg h]
      have e : somebody (x :: xs) = x :: somebody xs := by simp [somebody, h]
      rw [e]
      have e2 : somebody (seen ++ [x]) = somebody seen ++ [x] := by simp [somebody, h]
      rw [e2]
      conv => rhs; unfold freshB
      simp only [hm]
/-- A right gate. -/
def gateOk (owner : Int) (waits queues : List Int) : Bool :=
  decide (queues.length ≤ 2) && (freshB [] ((if owner = -1 then [] else [owner]) ++ waits ++ somebody queues) && decide (owner ≠ -1 ∨ waits.length = 0))
/-! what the reference computes -/
theorem l01In_g (a lo hi : Int) : spec_l01In.f a lo hi = some (decide (lo ≤ a ∧ a ≤ hi)) := by
  unfold spec_l01In.f
  split
  · simp; omega
  · simp; omega
theorem within_g (a lo hi : Int) : impl_within.f a lo hi = some (decide (lo ≤ a ∧ a ≤ hi)) := by
  unfold impl_within.f
  split
  · simp; omega
  · simp; omega
theorem l12In_ev (xs : List Int) (x : Int) (hb : xs.length ≤ 2000000000000) : Ev (fun k => spec_l12In.f k xs x) (decide (x ∈ xs)) := by
  refine ev_eq (find_ev (fun k i => spec_l12In.l0 k xs x i) (fun y => decide (y = x)) xs 0 (fun _ => true) false (fun i r hi hp h => ev_succ ?_) (fun i hi hp => ev_now (fun k => ?_)) (ev_now (fun k => ?_)) xs.length 0 (by omega)) ?_
  · have hp' : ¬ rd xs (i : Int) = x := of_decide_eq_false hp
    simp (disch := omega) only [spec_l12In.l0, if_pos, wrap_nat]
    try simp only [if_neg hp']
    exact h
  · have hp' : rd xs (i : Int) = x := of_decide_eq_true hp
    simp (disch := omega) only [spec_l12In.l0, if_pos]
  · simp (disch := omega) only [spec_l12In.l0, if_neg]
  · rw [List.drop_zero]
    show anyP _ _ = _
    rw [Bool.eq_iff_iff, anyP_iff]
    simp
theorem containsI_ev (xs : List Int) (x : Int) (hb : xs.length ≤ 2000000000000) : Ev (fun k => slices_Contains_int_int.f k xs x) (decide (x ∈ xs)) := by
  have h1 : Ev (fun k => slices_Index_int_int.f k xs x) (ixI (fun y => decide (x = y)) xs) := by
    refine Ev.congr (f := fun k => slices_Index_int_int.l0 k xs x (xs.length : Int) ((0 : Nat) : Int)) (fun k => rfl) ?_
    refine ev_eq (find_ev (fun k i => slices_Index_int_int.l0 k xs x (xs.length : Int) i) (fun y => decide (x = y)) xs 0 (fun j => (j : Int)) (-1) (fun i r hi hp h => ev_succ ?_) (fun i hi hp => ev_now (fun k => ?_)) (ev_now (fun k => ?_)) xs.length 0 (by omega)) rfl
    · have hp' : ¬ x = rd xs (i : Int) := of_decide_eq_false hp
      simp (disch := omega) only [slices_Index_int_int.l0, if_pos, wrap_nat]
      try simp only [if_neg hp']
      exact h
    · have hp' : x = rd xs (i : Int) := of_decide_eq_true hp
      simp (disch := omega) only [slices_Index_int_int.l0, if_pos]
    · simp (disch := omega) only [slices_Index_int_int.l0, if_neg]
  refine Ev.bind h1 (ev_eq (Ev.now _) ?_)
  rw [ixI_any, Bool.eq_iff_iff, anyP_iff]
  simp
theorem spec_gate_l1 (owner : Int) (waits queues : List Int) (hb : queues.length ≤ 2000000000000) : ∀ (d i : Nat) (seen : List Int), i + d = queues.length → seen.length + d ≤ 2000000000000 → Ev (fun k => spec_GateOk.l1 k seen (i : Int) owner waits queues) (qfreshB seen (queues.drop i))
  | 0, i, seen, h, hs => by
    refine ev_now (fun k => ?_)
    simp (disch := omega) only [spec_GateOk.l1, if_neg]
    rw [List.drop_of_length_le (by omega)]
    rfl
  | d + 1, i, seen, h, hs => by
    have ih := spec_gate_l1 owner waits queues hb d (i + 1) (seen ++ [rd queues (i : Int)]) (by omega) (by simp; omega)
    rw [rd_drop queues i (by omega)]
    refine ev_succ ?_
    unfold qfreshB
    have hi : (i : Int) < (queues.length : Int) := by omega
    by_cases h1 : rd queues (i : Int) = -1
    · have hd : decide (-1 ≤ rd queues (i : Int) ∧ rd queues (i : Int) ≤ 3) = true := decide_eq_true (by omega)
      simp (disch := omega) only [spec_GateOk.l1, if_pos, if_neg, wrap_nat, l01In_g, Option.bind_some, hd, if_true]
      exact ih
    · by_cases h2 : 0 ≤ rd queues (i : Int) ∧ rd queues (i : Int) ≤ 3
      · have hd : decide (-1 ≤ rd queues (i : Int) ∧ rd queues (i : Int) ≤ 3) = true := decide_eq_true (by omega)
        simp (disch := omega) only [spec_GateOk.l1, if_pos, if_neg, wrap_nat, l01In_g, Option.bind_some, hd, if_true]
        refine Ev.bind (l12In_ev seen _ (by omega)) ?_
        by_cases h3 : rd queues (i : Int) ∈ seen
        · simp only [h3, decide_true, if_true, not_true, decide_false, Bool.false_and, Bool.and_false]
          exact Ev.now _
        · simp only [h3, h2, and_self, decide_false, Bool.false_eq_true, if_false, not_false_eq_true, decide_true, Bool.true_and]
          exact ih
      · have hd : decide (-1 ≤ rd queues (i : Int) ∧ rd queues (i : Int) ≤ 3) = false := decide_eq_false (by omega)
        simp (disch := omega) only [spec_GateOk.l1, if_pos, if_neg, l01In_g, Option.bind_some, hd, Bool.false_eq_true, if_false, h2, decide_false, Bool.false_and]
        exact Ev.now _
theorem spec_gate_l0 (owner : Int) (waits queues : List Int) (hb : queues.length ≤ 100000000000) (hw : waits.length ≤ 100000000000) : ∀ (d i : Nat) (seen : List Int), i + d = waits.length → seen.length + d ≤ 1000000000000 → Ev (fun k => spec_GateOk.l0 k seen (i : Int) owner waits queues) (freshB seen (waits.drop i) && qfreshB (seen ++ waits.drop i) queues)
  | 0, i, seen, h, hs => by
    refine ev_succ ?_
    simp (disch := omega) only [spec_GateOk.l0, if_neg]
    rw [List.drop_of_length_le (by omega)]
    simp only [freshB, Bool.true_and, List.append_nil]
    exact spec_gate_l1 owner waits queues (by omega) queues.length 0 seen (by omega) (by omega)
  | d + 1, i, seen, h, hs => by
    have ih := spec_gate_l0 owner waits queues hb hw d (i + 1) (seen ++ [rd waits (i : Int)]) (by omega) (by simp; omega)
    rw [rd_drop waits i (by omega)]
    refine ev_succ ?_
    unfold freshB
    rw [List.append_assoc, List.singleton_append] at ih
    by_cases h2 : 0 ≤ rd waits (i : Int) ∧ rd waits (i : Int) ≤ 3
    · simp (disch := omega) only [spec_GateOk.l0, if_pos, wrap_nat, l01In_g, Option.bind_some, h2, decide_true, and_self, if_true, Bool.true_and]
      refine Ev.bind (l12In_ev seen _ (by omega)) ?_
      by_cases h3 : rd waits (i : Int) ∈ seen
      · simp only [h3, decide_true, if_true, not_true, decide_false, Bool.false_and]
        exact Ev.now _
      · simp only [h3, decide_false, Bool.false_eq_true, if_false, not_false_eq_true, decide_true, Bool.true_and]
        exact ih
    · simp (disch := omega) only [spec_GateOk.l0, if_pos, l01In_g, Option.bind_some, h2, decide_false, Bool.false_eq_true, if_false, Bool.false_and]
      exact Ev.now _
theorem gateOk_low {owner : Int} {waits queues : List Int} (h : ¬ (-1 ≤ owner ∧ owner ≤ 3)) : gateOk owner waits queues = false := by
  unfold gateOk
  rw [if_neg (by omega)]
  simp only [List.cons_append, List.nil_append]
  unfold freshB
  have : ¬ (0 ≤ owner ∧ owner ≤ 3) := by omega
  simp [this]
theorem spec_gateOk (owner : Int) (waits queues : List Int) (hb : queues.length ≤ 100000000000) (hw : waits.length ≤ 100000000000) : Ev (fun k => spec_GateOk.f k owner waits queues) (gateOk owner waits queues) := by
  unfold spec_GateOk.f
  simp only [l01In_g, Option.bind_some]
  by_cases h1 : -1 ≤ owner ∧ owner ≤ 3
  · simp only [h1, and_self, decide_true, if_true]
    by_cases h2 : (queues.length : Int) > 2
    · refine ev_pos h2 (ev_now fun k => ?_)
      have : ¬ queues.length ≤ 2 := by omega
      simp [spec_GateOk.j0, gateOk, this]
    · have h2' : queues.length ≤ 2 := by omega
      refine ev_neg h2 ?_
      by_cases h3 : owner < 0
      · have ho : owner = -1 := by omega
        refine ev_pos h3 ?_
        by_cases h4 : (waits.length : Int) > 0
        · refine ev_now fun k => ?_
          have : ¬ waits.length = 0 := by omega
          simp [spec_GateOk.j0, h4, gateOk, ho, this]
        · have hw0 : waits = [] := List.length_eq_zero_iff.1 (by omega)
          refine ev_succ ?_
          simp (disch := omega) only [spec_GateOk.j0, h4, decide_false, Bool.false_eq_true, if_false, Option.bind_some, if_neg]
          refine ev_succ ?_
          simp only [spec_GateOk.j1]
          refine ev_eq (spec_gate_l0 owner waits queues hb hw waits.length 0 [] (by omega) (by simp; omega)) ?_
          subst hw0
          rw [qfreshB_eq]
          simp [gateOk, ho, h2', freshB, somebody]
      · refine ev_neg h3 (ev_succ ?_)
        simp (disch := omega) only [spec_GateOk.j0, Bool.false_eq_true, if_false, Option.bind_some, if_pos, List.length_nil]
        refine ev_succ ?_
        simp only [spec_GateOk.j1]
        refine ev_eq (spec_gate_l0 owner waits queues hb hw waits.length 0 _ (by omega) (by simp; omega)) ?_
        have ho : ¬ owner = -1 := by omega
        have ho2 : 0 ≤ owner ∧ owner ≤ 3 := by omega
        rw [List.drop_zero, qfreshB_eq]
        unfold gateOk
        rw [if_neg ho, freshB_app ([owner] ++ waits), freshB_app [owner]]
        have e1 : freshB [] [owner] = true := by simp [freshB, ho2]
        rw [e1]
        simp only [h2', decide_true, Bool.true_and, List.nil_append, ho, not_false_eq_true, true_or, ne_eq, Bool.and_true]
        cases hf : freshB [owner] waits with
        | false => simp
        | true =>
          have hm := freshB_mem _ _ hf
          have e2 : somebody ([owner] ++ waits) = [owner] ++ waits := by
            unfold somebody
            rw [List.filter_eq_self]
            intro x hx
            rcases List.mem_append.1 hx with hx | hx
            · have := List.mem_singleton.1 hx
              exact decide_eq_true (by omega)
            · have := hm x hx
              exact decide_eq_true (by omega)
          rw [e2]
  · rw [gateOk_low h1]
    simp only [h1, decide_false, Bool.false_eq_true, if_false]
    refine ev_now fun k => ?_
    simp [spec_GateOk.j0]
/-! what the program computes -/
theorem inGate_l0 (queues : List Int) (hb : queues.length ≤ 100000000000) : ∀ (d i : Nat) (out : List Int), i + d = queues.length → out.length + d ≤ 2000000000000 → Ev (fun k => impl_inGate.l0 k out queues (queues.length : Int) (i : Int)) (out ++ somebody (queues.drop i))
  | 0, i, out, h, hs => by
    refine ev_now (fun k => ?_)
    simp (disch := omega) only [impl_inGate.l0, if_neg]
    rw [List.drop_of_length_le (by omega)]
    simp [somebody]
  | d + 1, i, out, h, hs => by
    rw [rd_drop queues i (by omega)]
    refine ev_succ ?_
    by_cases h1 : rd queues (i : Int) = -1
    · have ih := inGate_l0 queues hb d (i + 1) out (by omega) (by omega)
      simp (disch := omega) only [impl_inGate.l0, if_pos, wrap_nat]
      refine ev_eq ih ?_
      simp [somebody, h1]
    · have ih := inGate_l0 queues hb d (i + 1) (out ++ [rd queues (i : Int)]) (by omega) (by simp; omega)
      simp (disch := omega) only [impl_inGate.l0, if_pos, if_neg, wrap_nat]
      refine ev_eq ih ?_
      simp [somebody, h1]
def inGate (owner : Int) (waits queues : List Int) : List Int := (if owner = -1 then [] else [owner]) ++ waits ++ somebody queues
theorem inGate_ev (owner : Int) (waits queues : List Int) (hb : queues.length ≤ 100000000000) (hw : waits.length ≤ 100000000000) : Ev (fun k => impl_inGate.f k owner waits queues) (inGate owner waits queues) := by
  unfold impl_inGate.f inGate
  by_cases ho : owner = -1
  · simp only [if_pos ho]
    refine ev_succ ?_
    simp (disch := omega) only [impl_inGate.j0, if_pos, List.length_nil, List.nil_append]
    exact inGate_l0 queues hb queues.length 0 _ (by omega) (by omega)
  · simp only [if_neg ho]
    refine ev_pos (by simp) (ev_succ ?_)
    simp (disch := (simp; omega)) only [impl_inGate.j0, if_pos, List.nil_append]
    exact inGate_l0 queues hb queues.length 0 _ (by omega) (by simp; omega)
theorem inGate_len (owner : Int) (waits queues : List Int) : (inGate owner waits queues).length ≤ 1 + waits.length + queues.length := by
  unfold inGate somebody
  have := List.length_filter_le (fun x : Int => decide (x ≠ -1)) queues
  rw [List.length_append, List.length_append]
  split <;> simp only [List.length_nil, List.length_cons] <;> omega
theorem impl_gate_l0 (all : List Int) (owner : Int) (waits queues : List Int) (hb : all.length ≤ 1000000000000) : ∀ (d i : Nat), i + d = all.length → Ev (fun k => impl_GateOk.l0 k all all (all.length : Int) (i : Int) owner waits queues) (freshB (all.take i) (all.drop i) && (decide (queues.length ≤ 2) && decide (owner ≠ -1 ∨ waits.length = 0)))
  | 0, i, h => by
    refine ev_now (fun k => ?_)
    simp (disch := omega) only [impl_GateOk.l0, if_neg]
    rw [List.drop_of_length_le (by omega)]
    simp only [freshB, Bool.true_and]
    by_cases h1 : queues.length ≤ 2
    · by_cases h2 : owner = -1
      · simp (disch := omega) only [if_pos, h1, h2, decide_true, Bool.true_and, not_true, false_or, ne_eq, if_true]
        rw [Option.some.injEq, Bool.eq_iff_iff]
        simp
      · simp (disch := omega) only [if_pos, if_neg, h1, h2, decide_true, Bool.true_and, not_false_eq_true, true_or, ne_eq, if_false]
    · simp (disch := omega) only [if_neg, h1, decide_false, Bool.false_and]
  | d + 1, i, h => by
    have ih := impl_gate_l0 all owner waits queues hb d (i + 1) (by omega)
    have ht : all.take (i + 1) = all.take i ++ [rd all (i : Int)] := by
      rw [List.take_succ_eq_append_getElem (by omega), rd_nat, List.getD_eq_getElem?_getD, List.getElem?_eq_getElem (by omega)]
      rfl
    rw [rd_drop all i (by omega)]
    rw [ht] at ih
    refine ev_succ ?_
    unfold freshB
    have hlen : (all.take i).length ≤ 2000000000000 := by rw [List.length_take]; omega
    by_cases h2 : 0 ≤ rd all (i : Int) ∧ rd all (i : Int) ≤ 3
    · simp (disch := omega) only [impl_GateOk.l0, if_pos, wrap_nat, within_g, Option.bind_some, h2, decide_true, and_self, if_true, Bool.true_and, Int.toNat_natCast]
      refine Ev.bind (containsI_ev _ _ hlen) ?_
      by_cases h3 : rd all (i : Int) ∈ all.take i
      · simp only [h3, decide_true, if_true, not_true, decide_false, Bool.false_and]
        exact Ev.now _
      · simp only [h3, decide_false, Bool.false_eq_true, if_false, not_false_eq_true, decide_true, Bool.true_and]
        exact ih
    · simp (disch := omega) only [impl_GateOk.l0, if_pos, within_g, Option.bind_some, h2, decide_false, Bool.false_eq_true, if_false, Bool.false_and]
      exact Ev.now _
theorem impl_gateOk (owner : Int) (waits queues : List Int) (hb : queues.length ≤ 100000000000) (hw : waits.length ≤ 100000000000) : Ev (fun k => impl_GateOk.f k owner waits queues) (gateOk owner waits queues) := by
  have hl := inGate_len owner waits queues
  unfold impl_GateOk.f
  refine Ev.bind (inGate_ev owner waits queues hb hw) (ev_eq (impl_gate_l0 (inGate owner waits queues) owner waits queues (by omega) (inGate owner waits queues).length 0 (by omega)) ?_)
  rw [List.take_zero, List.drop_zero]
  unfold gateOk inGate
  cases freshB [] ((if owner = -1 then [] else [owner]) ++ waits ++ somebody queues) <;> simp
/-! gates: copied, marked, held -/
theorem spec_copy (o : Int) (ws qs : List Int) (hw : ws.length ≤ 100000000000) (hq : qs.length ≤ 100000000000) : spec_l12Copy.f o ws qs = some (o, ws, qs) := by
  unfold spec_l12Copy.f
  simp only [Option.bind_some, List.length_nil, List.nil_append]
  rw [if_pos (by omega), if_pos (by omega)]
theorem impl_copy (o : Int) (ws qs : List Int) (hw : ws.length ≤ 100000000000) (hq : qs.length ≤ 100000000000) : impl_copyGate.f o ws qs = some (o, ws, qs) := by
  unfold impl_copyGate.f
  simp only [List.length_nil, List.nil_append]
  rw [if_pos (by omega), if_pos (by omega)]
theorem mhGate (o : Int) (ws qs : List Int) (m : Int) (hw : ws.length ≤ 100000000) (hq : qs.length ≤ 100000000) (h0 : 0 ≤ m) (hm : m ≤ 100000000000) : ∃ (ws' qs' : List Int) (m' : Int), Ev (fun k => laws_markGate.f k o ws qs m) (m', ws', qs') ∧ (∀ o', Ev (fun k => laws_heldGate.f k o' ws' qs' m) m') ∧ m ≤ m' ∧ m' ≤ m + ws.length + qs.length := by
  obtain ⟨ws', m1, _, hk1, hd1, h1, h2⟩ := mhIntS ws m (by omega) h0 (by omega)
  obtain ⟨qs', m2, _, hk2, hd2, h3, h4⟩ := mhIntS qs m1 (by omega) (by omega) (by omega)
  refine ⟨ws', qs', m2, Ev.bind hk1 (Ev.bind hk2 (Ev.now _)), fun o' => Ev.bind hd1 (ev_neg (by omega) (Ev.bind hd2 (ev_neg (by omega) (Ev.now _)))), by omega, by omega⟩
/-- Who wants in. -/
def arrived (o : Int) (ws qs : List Int) (p : Int) : Int × List Int × List Int × Bool :=
  if gateOk o ws qs = true ∧ 0 ≤ p ∧ p ≤ 3 ∧ p ∉ inGate o ws qs then (if o = -1 then (p, ws, qs, true) else (o, ws ++ [p], qs, false)) else (o, ws, qs, false)
theorem arrived_yes {o : Int} {ws qs : List Int} {p : Int} (h : gateOk o ws qs = true ∧ 0 ≤ p ∧ p ≤ 3 ∧ p ∉ inGate o ws qs) : arrived o ws qs p = (if o = -1 then (p, ws, qs, true) else (o, ws ++ [p], qs, false)) := by
  unfold arrived
  rw [if_pos h]
theorem gateOk_owner {o : Int} {ws qs : List Int} (h : gateOk o ws qs = true) : -1 ≤ o ∧ o ≤ 3 := by
  refine Decidable.byContradiction fun hn => ?_
  rw [gateOk_low hn] at h
  cases h
theorem mem_inGate (o : Int) (ws qs : List Int) (p : Int) (hp : 0 ≤ p) : p ∈ inGate o ws qs ↔ o = p ∨ p ∈ ws ∨ p ∈ qs := by
  unfold inGate somebody
  by_cases ho : o = -1
  · rw [if_pos ho]
    simp only [List.nil_append, List.mem_append, List.mem_filter, decide_eq_true_eq]
    constructor
    · rintro (h | ⟨h, _⟩)
      · exact .inr (.inl h)
      · exact .inr (.inr h)
    · rintro (h | h | h)
      · omega
      · exact .inl h
      · exact .inr ⟨h, by omega⟩
  · rw [if_neg ho]
    simp only [List.mem_append, List.mem_singleton, List.mem_filter, decide_eq_true_eq]
    constructor
    · rintro ((h | h) | ⟨h, _⟩)
      · exact .inl h.symm
      · exact .inr (.inl h)
      · exact .inr (.inr h)
    · rintro (h | h | h)
      · exact .inl (.inl h.symm)
      · exact .inl (.inr h)
      · exact .inr ⟨h, by omega⟩
theorem spec_arrived (o : Int) (ws qs : List Int) (p : Int) (hw : ws.length ≤ 100000000) (hq : qs.length ≤ 100000000) : Ev (fun k => spec_Arrive.f k o ws qs p) (arrived o ws qs p) := by
  unfold spec_Arrive.f
  simp only [spec_copy o ws qs (by omega) (by omega), Option.bind_some, l01In_g]
  refine Ev.bind (spec_gateOk o ws qs (by omega) (by omega)) ?_
  have hno : ∀ (a : Bool), a = true → Ev (fun k => spec_Arrive.j0 k p a o ws qs o ws qs) (o, ws, qs, false) := fun a ha => ev_now fun k => by simp [spec_Arrive.j0, ha]
  have hyes : p ∉ inGate o ws qs → -1 ≤ o → Ev (fun k => spec_Arrive.j0 k p false o ws qs o ws qs) (if o = -1 then (p, ws, qs, true) else (o, ws ++ [p], qs, false)) := by
    intro _ ho
    refine ev_now fun k => ?_
    by_cases h : o = -1
    · simp (disch := omega) only [spec_Arrive.j0, Bool.false_eq_true, if_false, if_pos, h]
      rfl
    · simp (disch := omega) only [spec_Arrive.j0, Bool.false_eq_true, if_false, if_pos, if_neg, h]
  cases hg : gateOk o ws qs with
  | false =>
    simp only [Bool.false_eq_true, if_false]
    refine ev_eq (hno true rfl) ?_
    unfold arrived
    rw [if_neg (by rw [hg]; rintro ⟨h, _⟩; cases h)]
  | true =>
    have ho := gateOk_owner hg
    simp only [if_true]
    by_cases hp : 0 ≤ p ∧ p ≤ 3
    · simp only [hp, and_self, decide_true, if_true]
      by_cases h1 : o = p
      · simp only [if_pos h1]
        refine ev_eq (hno true rfl) ?_
        unfold arrived
        rw [if_neg (by rintro ⟨_, _, _, h⟩; exact h ((mem_inGate o ws qs p hp.1).2 (.inl h1)))]
      · simp only [if_neg h1]
        refine Ev.bind (l12In_ev ws p (by omega)) ?_
        by_cases h2 : p ∈ ws
        · simp only [h2, decide_true, if_true]
          refine ev_eq (hno true rfl) ?_
          unfold arrived
          rw [if_neg (by rintro ⟨_, _, _, h⟩; exact h ((mem_inGate o ws qs p hp.1).2 (.inr (.inl h2))))]
        · simp only [h2, decide_false, Bool.false_eq_true, if_false]
          refine Ev.bind (l12In_ev qs p (by omega)) ?_
          by_cases h3 : p ∈ qs
          · simp only [h3, decide_true]
            refine ev_eq (hno true rfl) ?_
            unfold arrived
            rw [if_neg (by rintro ⟨_, _, _, h⟩; exact h ((mem_inGate o ws qs p hp.1).2 (.inr (.inr h3))))]
          · have hn : p ∉ inGate o ws qs := fun h => by
              rcases (mem_inGate o ws qs p hp.1).1 h with h | h | h
              · exact h1 h
              · exact h2 h
              · exact h3 h
            simp only [h3, decide_false]
            exact ev_eq (hyes hn ho.1) (arrived_yes ⟨hg, hp.1, hp.2, hn⟩).symm
    · simp only [hp, decide_false, Bool.false_eq_true, if_false]
      refine ev_eq (hno true rfl) ?_
      unfold arrived
      rw [if_neg (by rintro ⟨_, a, b, _⟩; exact hp ⟨a, b⟩)]
theorem impl_arrived (o : Int) (ws qs : List Int) (p : Int) (hw : ws.length ≤ 100000000) (hq : qs.length ≤ 100000000) : Ev (fun k => impl_Arrive.f k o ws qs p) (arrived o ws qs p) := by
  unfold impl_Arrive.f
  simp only [impl_copy o ws qs (by omega) (by omega), Option.bind_some, within_g]
  refine Ev.bind (impl_gateOk o ws qs (by omega) (by omega)) ?_
  have hno : ∀ (a : Bool), a = true → Ev (fun k => impl_Arrive.j0 k p a o ws qs o ws qs) (o, ws, qs, false) := fun a ha => ev_now fun k => by simp [impl_Arrive.j0, ha]
  cases hg : gateOk o ws qs with
  | false =>
    simp only [Bool.false_eq_true, if_false]
    refine ev_eq (hno true rfl) ?_
    unfold arrived
    rw [if_neg (by rw [hg]; rintro ⟨h, _⟩; cases h)]
  | true =>
    simp only [if_true]
    by_cases hp : 0 ≤ p ∧ p ≤ 3
    · simp only [hp, and_self, decide_true, if_true]
      have hl := inGate_len o ws qs
      refine Ev.bind (inGate_ev o ws qs (by omega) (by omega)) (Ev.bind (containsI_ev _ p (by omega)) ?_)
      by_cases hn : p ∈ inGate o ws qs
      · simp only [hn, decide_true]
        refine ev_eq (hno true rfl) ?_
        unfold arrived
        rw [if_neg (by rintro ⟨_, _, _, h⟩; exact h hn)]
      · simp only [hn, decide_false]
        refine ev_now fun k => ?_
        rw [arrived_yes ⟨hg, hp.1, hp.2, hn⟩]
        by_cases h : o = -1
        · simp (disch := omega) only [impl_Arrive.j0, Bool.false_eq_true, if_false, if_true, if_pos, h]
        · simp (disch := omega) only [impl_Arrive.j0, Bool.false_eq_true, if_false, if_pos, if_neg, h]
    · simp only [hp, decide_false, Bool.false_eq_true, if_false]
      refine ev_eq (hno true rfl) ?_
      unfold arrived
      rw [if_neg (by rintro ⟨_, a, b, _⟩; exact hp ⟨a, b⟩)]
theorem arrived_len (o : Int) (ws qs : List Int) (p : Int) : (arrived o ws qs p).2.1.length ≤ ws.length + 1 ∧ (arrived o ws qs p).2.2.1.length ≤ qs.length := by
  unfold arrived
  split
  · split <;> simp
  · simp
theorem FnExactArrive : laws_FnExactArrive.Says := by
  rintro o ws qs p _ ⟨hw1, hw2, hw3⟩ ⟨hq1, hq2, hq3⟩ _
  refine Ev.rounds (r := true) ?_
  unfold laws_FnExactArrive.f
  refine Ev.bind (ev_eq (szGate_ev o ws qs 1048576 (by omega) (by omega) (by omega) (by omega)) rfl) ?_
  by_cases hl : lft 1048576 (ws.length + qs.length) < 0
  · exact ev_pos hl (Ev.now _)
  · refine ev_neg hl ?_
    have hp := (lft_pos hl).1
    have b1 : ws.length ≤ 100000000 := by omega
    have b2 : qs.length ≤ 100000000 := by omega
    have t := toGate_ev o ws qs (by omega) (by omega)
    have hal := arrived_len o ws qs p
    obtain ⟨ws1, qs1, m1, hk1, _, h1, _⟩ := mhGate o ws qs 1 b1 b2 (by omega) (by omega)
    obtain ⟨ws2, qs2, m2, hk2, hd2, h2, _⟩ := mhGate (arrived o ws qs p).1 (arrived o ws qs p).2.1 (arrived o ws qs p).2.2.1 1 (by omega) (by omega) (by omega) (by omega)
    have hn1 : ¬ m1 < 0 := by omega
    have hn2 : ¬ m2 < 0 := by omega
    have e := eqGate_self (arrived o ws qs p).1 (arrived o ws qs p).2.1 (arrived o ws qs p).2.2.1 (by omega) (by omega)
    refine Ev.bind t (Ev.bind (spec_arrived o ws qs p b1 b2) (Ev.bind t (Ev.bind (impl_arrived o ws qs p b1 b2) (Ev.bind e (ev_pos rfl (ev_succ ?_))))))
    simp only [laws_FnExactArrive.j0, bne_self_eq_false, Bool.false_eq_true, if_false]
    refine Ev.bind t (Ev.bind (eqGate_self o ws qs (by omega) (by omega)) (ev_pos rfl (Ev.bind hk1 (ev_neg hn1 (Ev.bind e (ev_pos rfl (ev_succ ?_)))))))
    simp only [laws_FnExactArrive.j1, Bool.false_eq_true, if_false]
    refine Ev.bind hk2 (Ev.bind (hd2 _) (ev_neg hn2 (ev_pos rfl (Ev.bind t (Ev.bind (impl_arrived o ws qs p b1 b2) (Ev.bind e (ev_pos rfl (ev_succ ?_))))))))
    simp only [laws_FnExactArrive.j2, bne_self_eq_false, Bool.false_eq_true, if_false]
    exact Ev.bind (hd2 _) (ev_neg hn2 (ev_pos rfl (Ev.now _)))

end Go.Proofs.Ytdbomppmpkjmhaa.Pure
