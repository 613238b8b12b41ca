/- The pure statement of the law FnExactKernelOk holds: what the printed functions compute is what the law says, at every argument. -/
import Derived.Test.YtdbomppmpkjmhaaOpFnExactKernelOk
import Derived.Test.YtdbomppmpkjmhaaPlFnExactKernelOk
namespace Go.Proofs.Ytdbomppmpkjmhaa.Pure
open Go.RowKit Go.Proofs.Ytdbomppmpkjmhaa.PFnExactKernelOk Go.Proofs.YtdbomppmpkjmhaaW.PrintWords Go.Proofs.YtdbomppmpkjmhaaW.PrintLast Go.Proofs.Ytdbomppmpkjmhaa.Pl
set_option linter.unusedSimpArgs false
set_option linter.unusedVariables false
def szGate_of (x : S31) : Nat := x.f1.length + (x.f2.length)
def szGGate (x : S31) : Prop := (x.f1.length ≤ 140737488351232) ∧ (x.f2.length ≤ 140737488351232)
theorem szIntS_ev (xs : List Int) (m : Int) (hx : xs.length ≤ 140737488351232) (h0 : 0 ≤ m) (hm : m ≤ 4611686018427387904) : Ev (fun _ => laws_szIntS.f xs m) (lft m xs.length) := sz_end h0 hm (by omega)
theorem szGate_ev (x0 : Int) (x1 : List Int) (x2 : List Int) (m : Int) (hx1 : x1.length ≤ 140737488351232) (hx2 : x2.length ≤ 140737488351232) (h0 : 0 ≤ m) (hm : m ≤ 4611686018427387904) : Ev (fun _ => laws_szGate.f x0 x1 x2 m) (lft m (x1.length + (x2.length))) := by
  unfold laws_szGate.f
  refine sz_chain (szIntS_ev x1 _ hx1 h0 hm) (fun c => ?_)
  have hc := lft_le c h0 hm
  exact sz_last (szIntS_ev x2 _ hx2 hc.1 hc.2)
theorem szGateS_ev (xs : List S31) (m : Int) (hx : xs.length ≤ 140737488351232) (hG : ∀ x ∈ xs, szGGate x) (h0 : 0 ≤ m) (hm : m ≤ 4611686018427387904) : Ev (fun k => laws_szGateS.f k xs m) (lft m (xs.length + total szGate_of xs)) := by
  unfold laws_szGateS.f
  refine sz_step (f := fun k t => laws_szGateS.l0 k xs t 0) h0 hm (by omega) (fun c => ?_)
  have hc := lft_le c h0 hm
  refine sz_ev (fun k t i => laws_szGateS.l0 k xs t i) szGate_of xs z31 (fun i t r hi h1 h2 hn h => ev_succ ?_) (fun i t hi h1 h2 hn => ev_succ ?_) (fun t => ev_now (fun k => ?_)) xs.length 0 _ (by omega) hc.1 hc.2
  · have hs := hG _ (getD_mem xs i z31 hi)
    simp only [szGGate] at hs
    simp (disch := omega) only [laws_szGateS.l0, if_pos, wrap_nat]
    refine Ev.bind (szGate_ev _ _ _ t hs.1 hs.2 h1 h2) ?_
    refine ev_neg hn h
  · have hs := hG _ (getD_mem xs i z31 hi)
    simp only [szGGate] at hs
    simp (disch := omega) only [laws_szGateS.l0, if_pos, wrap_nat]
    refine Ev.bind (szGate_ev _ _ _ t hs.1 hs.2 h1 h2) ?_
    exact ev_pos hn (Ev.now _)
  · simp (disch := omega) only [laws_szGateS.l0, if_neg]
def szCore_of (x : S163) : Nat := x.f0.length
def szGCore (x : S163) : Prop := (x.f0.length ≤ 140737488351232)
theorem szCore_ev (x0 : List Int) (x1 : Int) (x2 : Int) (m : Int) (hx0 : x0.length ≤ 140737488351232) (h0 : 0 ≤ m) (hm : m ≤ 4611686018427387904) : Ev (fun _ => laws_szCore.f x0 x1 x2 m) (lft m (x0.length)) := by
  unfold laws_szCore.f
  exact sz_last (szIntS_ev x0 _ hx0 h0 hm)
theorem szCoreS_ev (xs : List S163) (m : Int) (hx : xs.length ≤ 140737488351232) (hG : ∀ x ∈ xs, szGCore x) (h0 : 0 ≤ m) (hm : m ≤ 4611686018427387904) : Ev (fun k => laws_szCoreS.f k xs m) (lft m (xs.length + total szCore_of xs)) := by
  unfold laws_szCoreS.f
  refine sz_step (f := fun k t => laws_szCoreS.l0 k xs t 0) h0 hm (by omega) (fun c => ?_)
  have hc := lft_le c h0 hm
  refine sz_ev (fun k t i => laws_szCoreS.l0 k xs t i) szCore_of xs z163 (fun i t r hi h1 h2 hn h => ev_succ ?_) (fun i t hi h1 h2 hn => ev_succ ?_) (fun t => ev_now (fun k => ?_)) xs.length 0 _ (by omega) hc.1 hc.2
  · have hs := hG _ (getD_mem xs i z163 hi)
    simp only [szGCore] at hs
    simp (disch := omega) only [laws_szCoreS.l0, if_pos, wrap_nat]
    refine Ev.bind (szCore_ev _ _ _ t hs h1 h2) ?_
    refine ev_neg hn h
  · have hs := hG _ (getD_mem xs i z163 hi)
    simp only [szGCore] at hs
    simp (disch := omega) only [laws_szCoreS.l0, if_pos, wrap_nat]
    refine Ev.bind (szCore_ev _ _ _ t hs h1 h2) ?_
    exact ev_pos hn (Ev.now _)
  · simp (disch := omega) only [laws_szCoreS.l0, if_neg]
theorem szBoolS_ev (xs : List Bool) (m : Int) (hx : xs.length ≤ 140737488351232) (h0 : 0 ≤ m) (hm : m ≤ 4611686018427387904) : Ev (fun _ => laws_szBoolS.f xs m) (lft m xs.length) := sz_end h0 hm (by omega)
theorem szKernel_ev (x0 : List S31) (x1 : List Int) (x2 : List S163) (x3 : List Bool) (m : Int) (hx0 : x0.length ≤ 140737488351232) (gx0 : ∀ x ∈ x0, szGGate x) (hx1 : x1.length ≤ 140737488351232) (hx2 : x2.length ≤ 140737488351232) (gx2 : ∀ x ∈ x2, szGCore x) (hx3 : x3.length ≤ 140737488351232) (h0 : 0 ≤ m) (hm : m ≤ 4611686018427387904) : Ev (fun k => laws_szKernel.f k x0 x1 x2 x3 m) (lft m ((x0.length + total szGate_of x0) + (x1.length + ((x2.length + total szCore_of x2) + (x3.length))))) := by
  unfold laws_szKernel.f
  refine sz_chain (szGateS_ev x0 _ hx0 gx0 h0 hm) (fun c => ?_)
  have hc := lft_le c h0 hm
  refine sz_chain (szIntS_ev x1 _ hx1 hc.1 hc.2) (fun c => ?_)
  have hc := lft_le c hc.1 hc.2
  refine sz_chain (szCoreS_ev x2 _ hx2 gx2 hc.1 hc.2) (fun c => ?_)
  have hc := lft_le c hc.1 hc.2
  exact sz_last (szBoolS_ev x3 _ hx3 hc.1 hc.2)
def cvGate (x : S31) : S33 := ⟨x.f0, x.f1, x.f2⟩
theorem toIntS_ev (xs : List Int) (hb : xs.length ≤ 2000000000000) : Ev (fun k => laws_toIntS.f k xs) xs := by
  refine ev_eq (Ev.congr (f := fun k => laws_toIntS.l0 k xs (List.replicate xs.length 0) ((0 : Nat) : Int)) (fun k => ?_) (fill_ev (fun k ys i => laws_toIntS.l0 k xs ys i) (fun x => x) xs 0 (fun i ys r hi hy h => ev_succ ?_) (fun ys hy => ev_now (fun k => ?_)) xs.length 0 _ (by omega) (by simp) (by simp))) (by simp)
  · simp (disch := omega) only [laws_toIntS.f, if_pos, Int.toNat_natCast]; rfl
  · simp (disch := omega) only [laws_toIntS.l0, if_pos, wrap_nat, Int.toNat_natCast]; exact h
  · simp (disch := omega) only [laws_toIntS.l0, if_neg]
theorem toGate_ev (x0 : Int) (x1 : List Int) (x2 : List Int) (hx1 : x1.length ≤ 2000000000000) (hx2 : x2.length ≤ 2000000000000) : Ev (fun k => laws_toGate.f k x0 x1 x2) (x0, x1, x2) := by
  unfold laws_toGate.f
  exact Ev.bind (toIntS_ev x1 hx1) (Ev.bind (toIntS_ev x2 hx2) (Ev.now _))
theorem toGateS_ev (xs : List S31) (hb : xs.length ≤ 2000000000000) (hG : ∀ x ∈ xs, szGate_of x ≤ 2000000000000) : Ev (fun k => laws_toGateS.f k xs) (xs.map cvGate) := by
  refine Ev.congr (f := fun k => laws_toGateS.l0 k xs (List.replicate xs.length z33) ((0 : Nat) : Int)) (fun k => ?_) (fill_ev (fun k ys i => laws_toGateS.l0 k xs ys i) cvGate xs z31 (fun i ys r hi hy h => ev_succ ?_) (fun ys hy => ev_now (fun k => ?_)) xs.length 0 _ (by omega) (by simp) (by simp))
  · simp (disch := omega) only [laws_toGateS.f, if_pos, Int.toNat_natCast]; rfl
  · have hx := hG _ (getD_mem xs i z31 hi)
    simp (disch := omega) only [laws_toGateS.l0, if_pos, wrap_nat, Int.toNat_natCast]
    exact Ev.bind (toGate_ev _ _ _ (by have := hx; unfold szGate_of at this; show List.length (xs.getD i z31).f1 ≤ _; omega) (by have := hx; unfold szGate_of at this; show List.length (xs.getD i z31).f2 ≤ _; omega)) h
  · simp (disch := omega) only [laws_toGateS.l0, if_neg]
def cvCore (x : S163) : S62 := ⟨x.f0, x.f1, x.f2⟩
theorem toCore_ev (x0 : List Int) (x1 : Int) (x2 : Int) (hx0 : x0.length ≤ 2000000000000) : Ev (fun k => laws_toCore.f k x0 x1 x2) (x0, x1, x2) := by
  unfold laws_toCore.f
  exact Ev.bind (toIntS_ev x0 hx0) (Ev.now _)
theorem toCoreS_ev (xs : List S163) (hb : xs.length ≤ 2000000000000) (hG : ∀ x ∈ xs, szCore_of x ≤ 2000000000000) : Ev (fun k => laws_toCoreS.f k xs) (xs.map cvCore) := by
  refine Ev.congr (f := fun k => laws_toCoreS.l0 k xs (List.replicate xs.length z62) ((0 : Nat) : Int)) (fun k => ?_) (fill_ev (fun k ys i => laws_toCoreS.l0 k xs ys i) cvCore xs z163 (fun i ys r hi hy h => ev_succ ?_) (fun ys hy => ev_now (fun k => ?_)) xs.length 0 _ (by omega) (by simp) (by simp))
  · simp (disch := omega) only [laws_toCoreS.f, if_pos, Int.toNat_natCast]; rfl
  · have hx := hG _ (getD_mem xs i z163 hi)
    simp (disch := omega) only [laws_toCoreS.l0, if_pos, wrap_nat, Int.toNat_natCast]
    exact Ev.bind (toCore_ev _ _ _ (by have := hx; unfold szCore_of at this; show List.length (xs.getD i z163).f0 ≤ _; omega)) h
  · simp (disch := omega) only [laws_toCoreS.l0, if_neg]
theorem toBoolS_ev (xs : List Bool) (hb : xs.length ≤ 2000000000000) : Ev (fun k => laws_toBoolS.f k xs) xs := by
  refine ev_eq (Ev.congr (f := fun k => laws_toBoolS.l0 k xs (List.replicate xs.length false) ((0 : Nat) : Int)) (fun k => ?_) (fill_ev (fun k ys i => laws_toBoolS.l0 k xs ys i) (fun x => x) xs false (fun i ys r hi hy h => ev_succ ?_) (fun ys hy => ev_now (fun k => ?_)) xs.length 0 _ (by omega) (by simp) (by simp))) (by simp)
  · simp (disch := omega) only [laws_toBoolS.f, if_pos, Int.toNat_natCast]; rfl
  · simp (disch := omega) only [laws_toBoolS.l0, if_pos, wrap_nat, Int.toNat_natCast]; exact h
  · simp (disch := omega) only [laws_toBoolS.l0, if_neg]
theorem toKernel_ev (x0 : List S31) (x1 : List Int) (x2 : List S163) (x3 : List Bool) (hx0 : x0.length ≤ 2000000000000) (gx0 : ∀ x ∈ x0, szGate_of x ≤ 2000000000000) (hx1 : x1.length ≤ 2000000000000) (hx2 : x2.length ≤ 2000000000000) (gx2 : ∀ x ∈ x2, szCore_of x ≤ 2000000000000) (hx3 : x3.length ≤ 2000000000000) : Ev (fun k => laws_toKernel.f k x0 x1 x2 x3) (x0.map cvGate, x1, x2.map cvCore, x3) := by
  unfold laws_toKernel.f
  exact Ev.bind (toGateS_ev x0 hx0 gx0) (Ev.bind (toIntS_ev x1 hx1) (Ev.bind (toCoreS_ev x2 hx2 gx2) (Ev.bind (toBoolS_ev x3 hx3) (Ev.now _))))
theorem eqIntS_self (xs : List Int) (hb : xs.length ≤ 9000000000000000000) : Ev (fun k => laws_eqIntS.f k xs xs) true := by
  refine Ev.congr (f := fun k => laws_eqIntS.l0 k xs xs ((0 : Nat) : Int)) (fun k => ?_) (up_ev (fun k i => laws_eqIntS.l0 k xs xs i) xs.length true (fun i hi h => ev_succ ?_) (ev_now (fun k => ?_)) xs.length 0 (by omega))
  · simp (disch := omega) only [laws_eqIntS.f, if_pos]; rfl
  · simp (disch := omega) only [laws_eqIntS.l0, if_pos, wrap_nat, eq_self, if_true, bne_self_eq_false, Bool.false_eq_true, if_false]; exact h
  · simp (disch := omega) only [laws_eqIntS.l0, if_neg]
theorem eqGate_self (x0 : Int) (x1 : List Int) (x2 : List Int) (hx1 : x1.length ≤ 9000000000000000000) (hx2 : x2.length ≤ 9000000000000000000) : Ev (fun k => laws_eqGate.f k x0 x1 x2 x0 x1 x2) true := by
  unfold laws_eqGate.f
  exact ev_pos rfl (Ev.bind (eqIntS_self x1 hx1) (ev_pos rfl (Ev.bind (eqIntS_self x2 hx2) (ev_pos rfl (Ev.now _)))))
def eqBGate (x : S33) : Prop := (x.f1.length ≤ 9000000000000000000) ∧ (x.f2.length ≤ 9000000000000000000)
theorem eqGateS_self (xs : List S33) (hb : xs.length ≤ 9000000000000000000) (hG : ∀ x ∈ xs, eqBGate x) : Ev (fun k => laws_eqGateS.f k xs xs) true := by
  refine Ev.congr (f := fun k => laws_eqGateS.l0 k xs xs ((0 : Nat) : Int)) (fun k => ?_) (up_ev (fun k i => laws_eqGateS.l0 k xs xs i) xs.length true (fun i hi h => ev_succ ?_) (ev_now (fun k => ?_)) xs.length 0 (by omega))
  · simp (disch := omega) only [laws_eqGateS.f, if_pos]; rfl
  · have hx := hG _ (getD_mem xs i z33 hi)
    simp only [eqBGate] at hx
    simp (disch := omega) only [laws_eqGateS.l0, if_pos, wrap_nat]
    exact Ev.bind (eqGate_self _ _ _ hx.1 hx.2) (ev_pos rfl h)
  · simp (disch := omega) only [laws_eqGateS.l0, if_neg]
theorem eqCore_self (x0 : List Int) (x1 : Int) (x2 : Int) (hx0 : x0.length ≤ 9000000000000000000) : Ev (fun k => laws_eqCore.f k x0 x1 x2 x0 x1 x2) true := by
  unfold laws_eqCore.f
  exact Ev.bind (eqIntS_self x0 hx0) (ev_pos rfl (ev_pos rfl (ev_pos rfl (Ev.now _))))
def eqBCore (x : S62) : Prop := (x.f0.length ≤ 9000000000000000000)
theorem eqCoreS_self (xs : List S62) (hb : xs.length ≤ 9000000000000000000) (hG : ∀ x ∈ xs, eqBCore x) : Ev (fun k => laws_eqCoreS.f k xs xs) true := by
  refine Ev.congr (f := fun k => laws_eqCoreS.l0 k xs xs ((0 : Nat) : Int)) (fun k => ?_) (up_ev (fun k i => laws_eqCoreS.l0 k xs xs i) xs.length true (fun i hi h => ev_succ ?_) (ev_now (fun k => ?_)) xs.length 0 (by omega))
  · simp (disch := omega) only [laws_eqCoreS.f, if_pos]; rfl
  · have hx := hG _ (getD_mem xs i z62 hi)
    simp only [eqBCore] at hx
    simp (disch := omega) only [laws_eqCoreS.l0, if_pos, wrap_nat]
    exact Ev.bind (eqCore_self _ _ _ hx) (ev_pos rfl h)
  · simp (disch := omega) only [laws_eqCoreS.l0, if_neg]
theorem eqBoolS_self (xs : List Bool) (hb : xs.length ≤ 9000000000000000000) : Ev (fun k => laws_eqBoolS.f k xs xs) true := by
  refine Ev.congr (f := fun k => laws_eqBoolS.l0 k xs xs ((0 : Nat) : Int)) (fun k => ?_) (up_ev (fun k i => laws_eqBoolS.l0 k xs xs i) xs.length true (fun i hi h => ev_succ ?_) (ev_now (fun k => ?_)) xs.length 0 (by omega))
  · simp (disch := omega) only [laws_eqBoolS.f, if_pos]; rfl
  · simp (disch := omega) only [laws_eqBoolS.l0, if_pos, wrap_nat, eq_self, if_true, bne_self_eq_false, Bool.false_eq_true, if_false]; exact h
  · simp (disch := omega) only [laws_eqBoolS.l0, if_neg]
theorem eqKernel_self (x0 : List S33) (x1 : List Int) (x2 : List S62) (x3 : List Bool) (hx0 : x0.length ≤ 9000000000000000000) (gx0 : ∀ y ∈ x0, eqBGate y) (hx1 : x1.length ≤ 9000000000000000000) (hx2 : x2.length ≤ 9000000000000000000) (gx2 : ∀ y ∈ x2, eqBCore y) (hx3 : x3.length ≤ 9000000000000000000) : Ev (fun k => laws_eqKernel.f k x0 x1 x2 x3 x0 x1 x2 x3) true := by
  unfold laws_eqKernel.f
  exact Ev.bind (eqGateS_self x0 hx0 gx0) (ev_pos rfl (Ev.bind (eqIntS_self x1 hx1) (ev_pos rfl (Ev.bind (eqCoreS_self x2 hx2 gx2) (ev_pos rfl (Ev.bind (eqBoolS_self x3 hx3) (ev_pos rfl (Ev.now _))))))))
theorem eqBGate_cv (x : S31) (h : szGate_of x ≤ 2000000000000) : eqBGate (cvGate x) := ⟨(by have := h; unfold szGate_of at this; show List.length x.f1 ≤ _; omega), (by have := h; unfold szGate_of at this; show List.length x.f2 ≤ _; omega)⟩
theorem eqBCore_cv (x : S163) (h : szCore_of x ≤ 2000000000000) : eqBCore (cvCore x) := (by have := h; unfold szCore_of at this; show List.length x.f0 ≤ _; omega)
/-- In line, each in 0 .. 3 and none of those seen. -/
def freshB (seen : List Int) : List Int → Bool
  | [] => true
  | x :: xs => decide (0 ≤ x ∧ x ≤ 3) && (decide (x ∉ seen) && freshB (seen ++ [x]) xs)
def qfreshB (seen : List Int) : List Int → Bool
  | [] => true
  | x :: xs => if x = -1 then qfreshB (seen ++ [x]) xs else decide (0 ≤ x ∧ x ≤ 3) && (decide (x ∉ seen) && qfreshB (seen ++ [x]) xs)
def somebody (xs : List Int) : List Int := xs.filter (fun x => decide (x ≠ -1))
theorem freshB_app : ∀ (xs ys seen : List Int), freshB seen (xs ++ ys) = (freshB seen xs && freshB (seen ++ xs) ys)
  | [], ys, seen => by simp [freshB]
  | x :: xs, ys, seen => by
    simp only [List.cons_append, freshB, freshB_app xs ys (seen ++ [x]), List.append_assoc, List.singleton_append, List.nil_append, Bool.and_assoc]
theorem freshB_mem : ∀ (xs seen : List Int), freshB seen xs = true → ∀ x ∈ xs, 0 ≤ x ∧ x ≤ 3
  | [], _, _, x, hx => by simp at hx
  | y :: ys, seen, h, x, hx => by
    unfold freshB at h
    simp only [Bool.and_eq_true, decide_eq_true_eq] at h
    rcases List.mem_cons.1 hx with rfl | hx
    · exact h.1
    · exact freshB_mem ys _ h.2.2 x hx
theorem qfreshB_eq : ∀ (xs seen : List Int), qfreshB seen xs = freshB (somebody seen) (somebody xs)
  | [], seen => rfl
  | x :: xs, seen => by
    unfold qfreshB
    rw [qfreshB_eq xs (seen ++ [x])]
    by_cases h : x = -1
    · subst h
      simp [somebody]
    · have hm : x ∈ somebody seen ↔ x ∈ seen := by simp [somebody, h]
      rw [if_neg h]
      have e : somebody (x :: xs) = x :: somebody xs := by simp [somebody, h]
      rw [e]
      have e2 : somebody (seen ++ [x]) = somebody seen ++ [x] := by simp [somebody, h]
      rw [e2]
      conv => rhs; unfold freshB
      simp only [hm]
/-- A right gate. -/
def gateOk (owner : Int) (waits queues : List Int) : Bool :=
  decide (queues.length ≤ 2) && (freshB [] ((if owner = -1 then [] else [owner]) ++ waits ++ somebody queues) && decide (owner ≠ -1 ∨ waits.length = 0))
/-! what the reference computes -/
theorem l01In_g (a lo hi : Int) : spec_l01In.f a lo hi = some (decide (lo ≤ a ∧ a ≤ hi)) := by
  unfold spec_l01In.f
  split
  · simp; omega
  · simp; omega
theorem within_g (a lo hi : Int) : impl_within.f a lo hi = some (decide (lo ≤ a ∧ a ≤ hi)) := by
  unfold impl_within.f
  split
  · simp; omega
  · simp; omega
theorem l12In_ev (xs : List Int) (x : Int) (hb : xs.length ≤ 2000000000000) : Ev (fun k => spec_l12In.f k xs x) (decide (x ∈ xs)) := by
  refine ev_eq (find_ev (fun k i => spec_l12In.l0 k xs x i) (fun y => decide (y = x)) xs 0 (fun _ => true) false (fun i r hi hp h => ev_succ ?_) (fun i hi hp => ev_now (fun k => ?_)) (ev_now (fun k => ?_)) xs.length 0 (by omega)) ?_
  · have hp' : ¬ rd xs (i : Int) = x := of_decide_eq_false hp
    simp (disch := omega) only [spec_l12In.l0, if_pos, wrap_nat]
    try simp only [if_neg hp']
    exact h
  · have hp' : rd xs (i : Int) = x := of_decide_eq_true hp
    simp (disch := omega) only [spec_l12In.l0, if_pos]
  · simp (disch := omega) only [spec_l12In.l0, if_neg]
  · rw [List.drop_zero]
    show anyP _ _ = _
    rw [Bool.eq_iff_iff, anyP_iff]
    simp
theorem containsI_ev (xs : List Int) (x : Int) (hb : xs.length ≤ 2000000000000) : Ev (fun k => slices_Contains_int_int.f k xs x) (decide (x ∈ xs)) := by
  have h1 : Ev (fun k => slices_Index_int_int.f k xs x) (ixI (fun y => decide (x = y)) xs) := by
    refine Ev.congr (f := fun k => slices_Index_int_int.l0 k xs x (xs.length : Int) ((0 : Nat) : Int)) (fun k => rfl) ?_
    refine ev_eq (find_ev (fun k i => slices_Index_int_int.l0 k xs x (xs.length : Int) i) (fun y => decide (x = y)) xs 0 (fun j => (j : Int)) (-1) (fun i r hi hp h => ev_succ ?_) (fun i hi hp => ev_now (fun k => ?_)) (ev_now (fun k => ?_)) xs.length 0 (by omega)) rfl
    · have hp' : ¬ x = rd xs (i : Int) := of_decide_eq_false hp
      simp (disch := omega) only [slices_Index_int_int.l0, if_pos, wrap_nat]
      try simp only [if_neg hp']
      exact h
    · have hp' : x = rd xs (i : Int) := of_decide_eq_true hp
      simp (disch := omega) only [slices_Index_int_int.l0, if_pos]
    · simp (disch := omega) only [slices_Index_int_int.l0, if_neg]
  refine Ev.bind h1 (ev_eq (Ev.now _) ?_)
  rw [ixI_any, Bool.eq_iff_iff, anyP_iff]
  simp
theorem spec_gate_l1 (owner : Int) (waits queues : List Int) (hb : queues.length ≤ 2000000000000) : ∀ (d i : Nat) (seen : List Int), i + d = queues.length → seen.length + d ≤ 2000000000000 → Ev (fun k => spec_GateOk.l1 k seen (i : Int) owner waits queues) (qfreshB seen (queues.drop i))
  | 0, i, seen, h, hs => by
    refine ev_now (fun k => ?_)
    simp (disch := omega) only [spec_GateOk.l1, if_neg]
    rw [List.drop_of_length_le (by omega)]
    rfl
  | d + 1, i, seen, h, hs => by
    have ih := spec_gate_l1 owner waits queues hb d (i + 1) (seen ++ [rd queues (i : Int)]) (by omega) (by simp; omega)
    rw [rd_drop queues i (by omega)]
    refine ev_succ ?_
    unfold qfreshB
    have hi : (i : Int) < (queues.length : Int) := by omega
    by_cases h1 : rd queues (i : Int) = -1
    · have hd : decide (-1 ≤ rd queues (i : Int) ∧ rd queues (i : Int) ≤ 3) = true := decide_eq_true (by omega)
      simp (disch := omega) only [spec_GateOk.l1, if_pos, if_neg, wrap_nat, l01In_g, Option.bind_some, hd, if_true]
      exact ih
    · by_cases h2 : 0 ≤ rd queues (i : Int) ∧ rd queues (i : Int) ≤ 3
      · have hd : decide (-1 ≤ rd queues (i : Int) ∧ rd queues (i : Int) ≤ 3) = true := decide_eq_true (by omega)
        simp (disch := omega) only [spec_GateOk.l1, if_pos, if_neg, wrap_nat, l01In_g, Option.bind_some, hd, if_true]
        refine Ev.bind (l12In_ev seen _ (by omega)) ?_
        by_cases h3 : rd queues (i : Int) ∈ seen
        · simp only [h3, decide_true, if_true, not_true, decide_false, Bool.false_and, Bool.and_false]
          exact Ev.now _
        · simp only [h3, h2, and_self, decide_false, Bool.false_eq_true, if_false, not_false_eq_true, decide_true, Bool.true_and]
          exact ih
      · have hd : decide (-1 ≤ rd queues (i : Int) ∧ rd queues (i : Int) ≤ 3) = false := decide_eq_false (by omega)
        simp (disch := omega) only [spec_GateOk.l1, if_pos, if_neg, l01In_g, Option.bind_some, hd, Bool.false_eq_true, if_false, h2, decide_false, Bool.false_and]
        exact Ev.now _
theorem spec_gate_l0 (owner : Int) (waits queues : List Int) (hb : queues.length ≤ 100000000000) (hw : waits.length ≤ 100000000000) : ∀ (d i : Nat) (seen : List Int), i + d = waits.length → seen.length + d ≤ 1000000000000 → Ev (fun k => spec_GateOk.l0 k seen (i : Int) owner waits queues) (freshB seen (waits.drop i) && qfreshB (seen ++ waits.drop i) queues)
  | 0, i, seen, h, hs => by
    refine ev_succ ?_
    simp (disch := omega) only [spec_GateOk.l0, if_neg]
    rw [List.drop_of_length_le (by omega)]
    simp only [freshB, Bool.true_and, List.append_nil]
    exact spec_gate_l1 owner waits queues (by omega) queues.length 0 seen (by omega) (by omega)
  | d + 1, i, seen, h, hs => by
    have ih := spec_gate_l0 owner waits queues hb hw d (i + 1) (seen ++ [rd waits (i : Int)]) (by omega) (by simp; omega)
    rw [rd_drop waits i (by omega)]
    refine ev_succ ?_
    unfold freshB
    rw [List.append_assoc, List.singleton_append] at ih
    by_cases h2 : 0 ≤ rd waits (i : Int) ∧ rd waits (i : Int) ≤ 3
    · simp (disch := omega) only [spec_GateOk.l0, if_pos, wrap_nat, l01In_g, Option.bind_some, h2, decide_true, and_self, if_true, Bool.true_and]
      refine Ev.bind (l12In_ev seen _ (by omega)) ?_
      by_cases h3 : rd waits (i : Int) ∈ seen
      · simp only [h3, decide_true, if_true, not_true, decide_false, Bool.false_and]
        exact Ev.now _
      · simp only [h3, decide_false, Bool.false_eq_true, if_false, not_false_eq_true, decide_true, Bool.true_and]
        exact ih
    · simp (disch := omega) only [spec_GateOk.l0, if_pos, l01In_g, Option.bind_some, h2, decide_false, Bool.false_eq_true, if_false, Bool.false_and]
      exact Ev.now _
theorem gateOk_low {owner : Int} {waits queues : List Int} (h : ¬ (-1 ≤ owner ∧ owner ≤ 3)) : gateOk owner waits queues = false := by
  unfold gateOk
  rw [if_neg (by omega)]
  simp only [List.cons_append, List.nil_append]
  unfold freshB
  have : ¬ (0 ≤ owner ∧ owner ≤ 3) := by omega
  simp [this]
theorem spec_gateOk (owner : Int) (waits queues : List Int) (hb : queues.length ≤ 100000000000) (hw : waits.length ≤ 100000000000) : Ev (fun k => spec_GateOk.f k owner waits queues) (gateOk owner waits queues) := by
  unfold spec_GateOk.f
  simp only [l01In_g, Option.bind_some]
  by_cases h1 : -1 ≤ owner ∧ owner ≤ 3
  · simp only [h1, and_self, decide_true, if_true]
    by_cases h2 : (queues.length : Int) > 2
    · refine ev_pos h2 (ev_now fun k => ?_)
      have : ¬ queues.length ≤ 2 := by omega
      simp [spec_GateOk.j0, gateOk, this]
    · have h2' : queues.length ≤ 2 := by omega
      refine ev_neg h2 ?_
      by_cases h3 : owner < 0
      · have ho : owner = -1 := by omega
        refine ev_pos h3 ?_
        by_cases h4 : (waits.length : Int) > 0
        · refine ev_now fun k => ?_
          have : ¬ waits.length = 0 := by omega
          simp [spec_GateOk.j0, h4, gateOk, ho, this]
        · have hw0 : waits = [] := List.length_eq_zero_iff.1 (by omega)
          refine ev_succ ?_
          simp (disch := omega) only [spec_GateOk.j0, h4, decide_false, Bool.false_eq_true, if_false, Option.bind_some, if_neg]
          refine ev_succ ?_
          simp only [spec_GateOk.j1]
          refine ev_eq (spec_gate_l0 owner waits queues hb hw waits.length 0 [] (by omega) (by simp; omega)) ?_
          subst hw0
          rw [qfreshB_eq]
          simp [gateOk, ho, h2', freshB, somebody]
      · refine ev_neg h3 (ev_succ ?_)
        simp (disch := omega) only [spec_GateOk.j0, Bool.false_eq_true, if_false, Option.bind_some, if_pos, List.length_nil]
        refine ev_succ ?_
        simp only [spec_GateOk.j1]
        refine ev_eq (spec_gate_l0 owner waits queues hb hw waits.length 0 _ (by omega) (by simp; omega)) ?_
        have ho : ¬ owner = -1 := by omega
        have ho2 : 0 ≤ owner ∧ owner ≤ 3 := by omega
        rw [List.drop_zero, qfreshB_eq]
        unfold gateOk
        rw [if_neg ho, freshB_app ([owner] ++ waits), freshB_app [owner]]
        have e1 : freshB [] [owner] = true := by simp [freshB, ho2]
        rw [e1]
        simp only [h2', decide_true, Bool.true_and, List.nil_append, ho, not_false_eq_true, true_or, ne_eq, Bool.and_true]
        cases hf : freshB [owner] waits with
        | false => simp
        | true =>
          have hm := freshB_mem _ _ hf
          have e2 : somebody ([owner] ++ waits) = [owner] ++ waits := by
            unfold somebody
            rw [List.filter_eq_self]
            intro x hx
            rcases List.mem_append.1 hx with hx | hx
            · have := List.mem_singleton.1 hx
              exact decide_eq_true (by omega)
            · have := hm x hx
              exact decide_eq_true (by omega)
          rw [e2]
  · rw [gateOk_low h1]
    simp only [h1, decide_false, Bool.false_eq_true, if_false]
    refine ev_now fun k => ?_
    simp [spec_GateOk.j0]
/-! what the program computes -/
theorem inGate_l0 (queues : List Int) (hb : queues.length ≤ 100000000000) : ∀ (d i : Nat) (out : List Int), i + d = queues.length → out.length + d ≤ 2000000000000 → Ev (fun k => impl_inGate.l0 k out queues (queues.length : Int) (i : Int)) (out ++ somebody (queues.drop i))
  | 0, i, out, h, hs => by
    refine ev_now (fun k => ?_)
    simp (disch := omega) only [impl_inGate.l0, if_neg]
    rw [List.drop_of_length_le (by omega)]
    simp [somebody]
  | d + 1, i, out, h, hs => by
    rw [rd_drop queues i (by omega)]
    refine ev_succ ?_
    by_cases h1 : rd queues (i : Int) = -1
    · have ih := inGate_l0 queues hb d (i + 1) out (by omega) (by omega)
      simp (disch := omega) only [impl_inGate.l0, if_pos, wrap_nat]
      refine ev_eq ih ?_
      simp [somebody, h1]
    · have ih := inGate_l0 queues hb d (i + 1) (out ++ [rd queues (i : Int)]) (by omega) (by simp; omega)
      simp (disch := omega) only [impl_inGate.l0, if_pos, if_neg, wrap_nat]
      refine ev_eq ih ?_
      simp [somebody, h1]
def inGate (owner : Int) (waits queues : List Int) : List Int := (if owner = -1 then [] else [owner]) ++ waits ++ somebody queues
theorem inGate_ev (owner : Int) (waits queues : List Int) (hb : queues.length ≤ 100000000000) (hw : waits.length ≤ 100000000000) : Ev (fun k => impl_inGate.f k owner waits queues) (inGate owner waits queues) := by
  unfold impl_inGate.f inGate
  by_cases ho : owner = -1
  · simp only [if_pos ho]
    refine ev_succ ?_
    simp (disch := omega) only [impl_inGate.j0, if_pos, List.length_nil, List.nil_append]
    exact inGate_l0 queues hb queues.length 0 _ (by omega) (by omega)
  · simp only [if_neg ho]
    refine ev_pos (by simp) (ev_succ ?_)
    simp (disch := (simp; omega)) only [impl_inGate.j0, if_pos, List.nil_append]
    exact inGate_l0 queues hb queues.length 0 _ (by omega) (by simp; omega)
theorem inGate_len (owner : Int) (waits queues : List Int) : (inGate owner waits queues).length ≤ 1 + waits.length + queues.length := by
  unfold inGate somebody
  have := List.length_filter_le (fun x : Int => decide (x ≠ -1)) queues
  rw [List.length_append, List.length_append]
  split <;> simp only [List.length_nil, List.length_cons] <;> omega
theorem impl_gate_l0 (all : List Int) (owner : Int) (waits queues : List Int) (hb : all.length ≤ 1000000000000) : ∀ (d i : Nat), i + d = all.length → Ev (fun k => impl_GateOk.l0 k all all (all.length : Int) (i : Int) owner waits queues) (freshB (all.take i) (all.drop i) && (decide (queues.length ≤ 2) && decide (owner ≠ -1 ∨ waits.length = 0)))
  | 0, i, h => by
    refine ev_now (fun k => ?_)
    simp (disch := omega) only [impl_GateOk.l0, if_neg]
    rw [List.drop_of_length_le (by omega)]
    simp only [freshB, Bool.true_and]
    by_cases h1 : queues.length ≤ 2
    · by_cases h2 : owner = -1
      · simp (disch := omega) only [if_pos, h1, h2, decide_true, Bool.true_and, not_true, false_or, ne_eq, if_true]
        rw [Option.some.injEq, Bool.eq_iff_iff]
        simp
      · simp (disch := omega) only [if_pos, if_neg, h1, h2, decide_true, Bool.true_and, not_false_eq_true, true_or, ne_eq, if_false]
    · simp (disch := omega) only [if_neg, h1, decide_false, Bool.false_and]
  | d + 1, i, h => by
    have ih := impl_gate_l0 all owner waits queues hb d (i + 1) (by omega)
    have ht : all.take (i + 1) = all.take i ++ [rd all (i : Int)] := by
      rw [List.take_succ_eq_append_getElem (by omega), rd_nat, List.getD_eq_getElem?_getD, List.getElem?_eq_getElem (by omega)]
      rfl
    rw [rd_drop all i (by omega)]
    rw [ht] at ih
    refine ev_succ ?_
    unfold freshB
    have hlen : (all.take i).length ≤ 2000000000000 := by rw [List.length_take]; omega
    by_cases h2 : 0 ≤ rd all (i : Int) ∧ rd all (i : Int) ≤ 3
    · simp (disch := omega) only [impl_GateOk.l0, if_pos, wrap_nat, within_g, Option.bind_some, h2, decide_true, and_self, if_true, Bool.true_and, Int.toNat_natCast]
      refine Ev.bind (containsI_ev _ _ hlen) ?_
      by_cases h3 : rd all (i : Int) ∈ all.take i
      · simp only [h3, decide_true, if_true, not_true, decide_false, Bool.false_and]
        exact Ev.now _
      · simp only [h3, decide_false, Bool.false_eq_true, if_false, not_false_eq_true, decide_true, Bool.true_and]
        exact ih
    · simp (disch := omega) only [impl_GateOk.l0, if_pos, within_g, Option.bind_some, h2, decide_false, Bool.false_eq_true, if_false, Bool.false_and]
      exact Ev.now _
theorem impl_gateOk (owner : Int) (waits queues : List Int) (hb : queues.length ≤ 100000000000) (hw : waits.length ≤ 100000000000) : Ev (fun k => impl_GateOk.f k owner waits queues) (gateOk owner waits queues) := by
  have hl := inGate_len owner waits queues
  unfold impl_GateOk.f
  refine Ev.bind (inGate_ev owner waits queues hb hw) (ev_eq (impl_gate_l0 (inGate owner waits queues) owner waits queues (by omega) (inGate owner waits queues).length 0 (by omega)) ?_)
  rw [List.take_zero, List.drop_zero]
  unfold gateOk inGate
  cases freshB [] ((if owner = -1 then [] else [owner]) ++ waits ++ somebody queues) <;> simp
/-- A right value. -/
def valOk (n : Int) : Bool := decide (-1000000 ≤ n ∧ n ≤ 1000000)
/-- A right core. -/
def coreOk (regs : List Int) (pc process : Int) : Bool := decide (regs.length = 8) && (decide (∀ x ∈ regs, valOk x = true) && (decide (pc ≥ 0) && decide (-1 ≤ process ∧ process ≤ 3)))
theorem l01In_c (a lo hi : Int) : spec_l01In.f a lo hi = some (decide (lo ≤ a ∧ a ≤ hi)) := by
  unfold spec_l01In.f
  split
  · simp; omega
  · simp; omega
theorem within_c (a lo hi : Int) : impl_within.f a lo hi = some (decide (lo ≤ a ∧ a ≤ hi)) := by
  unfold impl_within.f
  split
  · simp; omega
  · simp; omega
theorem spec_valOk (n : Int) : spec_ValOk.f n = some (valOk n) := by simp only [spec_ValOk.f, l01In_c, Option.bind_some]; rfl
theorem impl_valOk (n : Int) : impl_ValOk.f n = some (valOk n) := by simp only [impl_ValOk.f, within_c, Option.bind_some]; rfl
theorem spec_coreOk_l0 (regs : List Int) (pc process : Int) (hb : regs.length ≤ 2000000000000) : ∀ d i : Nat, i + d = regs.length → Ev (fun k => spec_CoreOk.l0 k (i : Int) regs pc process) (decide (∀ x ∈ regs.drop i, valOk x = true) && (decide (regs.length = 8) && (decide (pc ≥ 0) && decide (-1 ≤ process ∧ process ≤ 3))))
  | 0, i, h => by
    refine ev_now (fun k => ?_)
    simp (disch := omega) only [spec_CoreOk.l0, if_neg, l01In_c, Option.bind_some]
    rw [List.drop_of_length_le (by omega)]
    by_cases h1 : regs.length = 8
    · have h1' : (regs.length : Int) = 8 := by omega
      by_cases h2 : pc ≥ 0
      · simp only [if_pos h1', if_pos h2]; simp [h1, h2]
      · simp only [if_pos h1', if_neg h2]; simp [h2]
    · have h1' : ¬ (regs.length : Int) = 8 := by omega
      simp only [if_neg h1']; simp [h1]
  | d + 1, i, h => by
    have ih := spec_coreOk_l0 regs pc process hb d (i + 1) (by omega)
    rw [rd_drop regs i (by omega)]
    refine ev_succ ?_
    simp (disch := omega) only [spec_CoreOk.l0, if_pos, wrap_nat, spec_valOk, Option.bind_some]
    by_cases h1 : valOk (rd regs (i : Int)) = true
    · simp only [h1, if_true]
      refine ev_eq ih ?_
      congr 1
      rw [Bool.eq_iff_iff]
      simp [h1]
    · have h2 : ¬ (∀ x ∈ rd regs (i : Int) :: regs.drop (i + 1), valOk x = true) := fun hh => h1 (hh _ (List.mem_cons_self))
      rw [decide_eq_false h2]
      have h1' : valOk (rd regs (i : Int)) = false := by simpa using h1
      simp only [h1', Bool.false_eq_true, if_false, Bool.false_and]
      exact Ev.now _
theorem spec_coreOk (regs : List Int) (pc process : Int) (hb : regs.length ≤ 2000000000000) : Ev (fun k => spec_CoreOk.f k regs pc process) (coreOk regs pc process) := by
  refine ev_eq (spec_coreOk_l0 regs pc process hb regs.length 0 (by omega)) ?_
  unfold coreOk
  rw [List.drop_zero]
  cases decide (∀ x ∈ regs, valOk x = true) <;> cases decide (regs.length = 8) <;> simp
theorem impl_noVal (regs : List Int) (hb : regs.length ≤ 2000000000000) : Ev (fun k => slices_ContainsFunc_int_at_impl_CoreOk_1.f k regs) (!decide (∀ x ∈ regs, valOk x = true)) := by
  have h1 : Ev (fun k => slices_IndexFunc_int_at_impl_CoreOk_1.f k regs) (ixI (fun y => !valOk y) regs) := by
    refine Ev.congr (f := fun k => slices_IndexFunc_int_at_impl_CoreOk_1.l0 k regs (regs.length : Int) ((0 : Nat) : Int)) (fun k => rfl) ?_
    refine ev_eq (find_ev (fun k i => slices_IndexFunc_int_at_impl_CoreOk_1.l0 k regs (regs.length : Int) i) (fun y => !valOk y) regs 0 (fun j => (j : Int)) (-1) (fun i r hi hp h => ev_succ ?_) (fun i hi hp => ev_now (fun k => ?_)) (ev_now (fun k => ?_)) regs.length 0 (by omega)) rfl
    · have hp' : (!valOk (rd regs (i : Int))) = false := hp
      simp (disch := omega) only [slices_IndexFunc_int_at_impl_CoreOk_1.l0, if_pos, wrap_nat, impl_CoreOk_1.f, impl_valOk, Option.bind_some, hp', Bool.false_eq_true, if_false]
      exact h
    · have hp' : (!valOk (rd regs (i : Int))) = true := hp
      simp (disch := omega) only [slices_IndexFunc_int_at_impl_CoreOk_1.l0, if_pos, impl_CoreOk_1.f, impl_valOk, Option.bind_some, hp', if_true]
    · simp (disch := omega) only [slices_IndexFunc_int_at_impl_CoreOk_1.l0, if_neg]
  refine Ev.bind h1 (ev_eq (Ev.now _) ?_)
  rw [ixI_any, Bool.eq_iff_iff, anyP_iff]
  simp
theorem impl_coreOk (regs : List Int) (pc process : Int) (hb : regs.length ≤ 2000000000000) : Ev (fun k => impl_CoreOk.f k regs pc process) (coreOk regs pc process) := by
  unfold impl_CoreOk.f coreOk
  simp only [within_c, Option.bind_some]
  by_cases h1 : regs.length = 8
  · have h1' : (regs.length : Int) = 8 := by omega
    simp only [if_pos h1', h1, decide_true, Bool.true_and]
    refine Ev.bind (impl_noVal regs hb) ?_
    cases decide (∀ x ∈ regs, valOk x = true) with
    | false => simp only [Bool.not_false, if_true, Bool.false_and]; exact Ev.now _
    | true =>
      simp only [Bool.not_true, Bool.false_eq_true, if_false, Bool.true_and]
      by_cases h2 : pc ≥ 0
      · simp only [if_pos h2, h2, decide_true, Bool.true_and]; exact Ev.now _
      · simp only [if_neg h2, h2, decide_false, Bool.false_and]; exact Ev.now _
  · have h1' : ¬ (regs.length : Int) = 8 := by omega
    simp only [if_neg h1', h1, decide_false, Bool.false_and]
    exact Ev.now _
def gateOkS (g : S33) : Bool := gateOk g.f0 g.f1 g.f2
def coreOkS (c : S62) : Bool := coreOk c.f0 c.f1 c.f2
/-- In line, each a place of n, none seen, none over. -/
def readyB (n : Nat) (os : List Bool) (seen : List Int) : List Int → Bool
  | [] => true
  | x :: xs => decide (0 ≤ x ∧ x ≤ (n : Int) - 1) && (decide (x ∉ seen) && ((!os.getD x.toNat false) && readyB n os (seen ++ [x]) xs))
def kernelOk (gs : List S33) (rs : List Int) (ss : List S62) (os : List Bool) : Bool :=
  gs.all gateOkS && (decide (1 ≤ ss.length ∧ ss.length ≤ 4) && (decide (os.length = ss.length) && (ss.all coreOkS && readyB ss.length os [] rs)))
/-- What bounds a kernel's parts. -/
structure SmallK (gs : List S33) (rs : List Int) (ss : List S62) (os : List Bool) : Prop where
  g : gs.length ≤ 1000000000
  r : rs.length ≤ 1000000000
  s : ss.length ≤ 1000000000
  o : os.length ≤ 1000000000
  gi : ∀ g ∈ gs, g.f1.length ≤ 1000000000 ∧ g.f2.length ≤ 1000000000
  si : ∀ c ∈ ss, c.f0.length ≤ 1000000000
theorem wrap_len (n : Nat) (h : n ≤ 1000000000) : wrap64 ((n : Int) - 1) = (n : Int) - 1 := wrap_in _ (by omega) (by omega)
theorem spec_kernel_l2 (gs : List S33) (rs : List Int) (ss : List S62) (os : List Bool) (h : SmallK gs rs ss os) (ho : os.length = ss.length) : ∀ d i : Nat, i + d = rs.length → Ev (fun k => spec_KernelOk.l2 k (i : Int) gs rs ss os) (readyB ss.length os (rs.take i) (rs.drop i))
  | 0, i, hi => by
    have := h.r
    refine ev_now (fun k => ?_)
    simp (disch := omega) only [spec_KernelOk.l2, if_neg]
    rw [List.drop_of_length_le (by omega)]
    rfl
  | d + 1, i, hi => by
    have hr := h.r; have hs := h.s
    have ih := spec_kernel_l2 gs rs ss os h ho d (i + 1) (by omega)
    have ht : rs.take (i + 1) = rs.take i ++ [rd rs (i : Int)] := by
      rw [List.take_succ_eq_append_getElem (by omega), rd_nat, List.getD_eq_getElem?_getD, List.getElem?_eq_getElem (by omega)]
      rfl
    rw [rd_drop rs i (by omega)]
    rw [ht] at ih
    refine ev_succ ?_
    unfold readyB
    have hlen : (rs.take i).length ≤ 1000000000 := by rw [List.length_take]; omega
    by_cases h2 : 0 ≤ rd rs (i : Int) ∧ rd rs (i : Int) ≤ (ss.length : Int) - 1
    · have h3 : rd rs (i : Int) < (os.length : Int) := by omega
      simp (disch := omega) only [spec_KernelOk.l2, if_pos, wrap_nat, wrap_len _ hs, l01In_g, Option.bind_some, h2, decide_true, and_self, if_true, Bool.true_and, Int.toNat_natCast]
      refine Ev.bind (l12In_ev _ _ (by omega)) ?_
      by_cases h4 : rd rs (i : Int) ∈ rs.take i
      · simp only [h4, decide_true, if_true, not_true, decide_false, Bool.false_and]
        exact Ev.now _
      · simp only [h4, decide_false, Bool.false_eq_true, if_false, not_false_eq_true, decide_true, Bool.true_and]
        have e : rdOf false os (rd rs (i : Int)) = os.getD (rd rs (i : Int)).toNat false := rfl
        rw [e]
        cases os.getD (rd rs (i : Int)).toNat false with
        | true => simp only [if_true, Bool.not_true, Bool.false_and]; exact Ev.now _
        | false => simp only [Bool.false_eq_true, if_false, Bool.not_false, Bool.true_and]; exact ih
    · simp (disch := omega) only [spec_KernelOk.l2, if_pos, wrap_len _ hs, l01In_g, Option.bind_some, h2, decide_false, Bool.false_eq_true, if_false, Bool.false_and]
      exact Ev.now _
theorem impl_kernel_l0 (gs : List S33) (rs : List Int) (ss : List S62) (os : List Bool) (h : SmallK gs rs ss os) (ho : os.length = ss.length) : ∀ d i : Nat, i + d = rs.length → Ev (fun k => impl_KernelOk.l0 k rs (rs.length : Int) (i : Int) gs rs ss os) (readyB ss.length os (rs.take i) (rs.drop i))
  | 0, i, hi => by
    have := h.r
    refine ev_now (fun k => ?_)
    simp (disch := omega) only [impl_KernelOk.l0, if_neg]
    rw [List.drop_of_length_le (by omega)]
    rfl
  | d + 1, i, hi => by
    have hr := h.r; have hs := h.s
    have ih := impl_kernel_l0 gs rs ss os h ho d (i + 1) (by omega)
    have ht : rs.take (i + 1) = rs.take i ++ [rd rs (i : Int)] := by
      rw [List.take_succ_eq_append_getElem (by omega), rd_nat, List.getD_eq_getElem?_getD, List.getElem?_eq_getElem (by omega)]
      rfl
    rw [rd_drop rs i (by omega)]
    rw [ht] at ih
    refine ev_succ ?_
    unfold readyB
    have hlen : (rs.take i).length ≤ 1000000000 := by rw [List.length_take]; omega
    by_cases h2 : 0 ≤ rd rs (i : Int) ∧ rd rs (i : Int) ≤ (ss.length : Int) - 1
    · have h3 : rd rs (i : Int) < (os.length : Int) := by omega
      simp (disch := omega) only [impl_KernelOk.l0, if_pos, wrap_nat, wrap_len _ hs, within_g, Option.bind_some, h2, decide_true, and_self, if_true, Bool.true_and, Int.toNat_natCast]
      have e : rdOf false os (rd rs (i : Int)) = os.getD (rd rs (i : Int)).toNat false := rfl
      rw [e]
      cases os.getD (rd rs (i : Int)).toNat false with
      | true =>
        simp only [if_true, Bool.not_true, Bool.false_and, Bool.and_false]
        exact Ev.now _
      | false =>
        simp only [Bool.false_eq_true, if_false, Bool.not_false, Bool.true_and]
        refine Ev.bind (containsI_ev _ _ (by omega)) ?_
        by_cases h4 : rd rs (i : Int) ∈ rs.take i
        · simp only [h4, decide_true, if_true, not_true, decide_false, Bool.false_and]
          exact Ev.now _
        · simp only [h4, decide_false, Bool.false_eq_true, if_false, not_false_eq_true, decide_true, Bool.true_and]
          exact ih
    · simp (disch := omega) only [impl_KernelOk.l0, if_pos, wrap_len _ hs, within_g, Option.bind_some, h2, decide_false, Bool.false_eq_true, if_false, Bool.false_and]
      exact Ev.now _
theorem spec_kernel_l1 (gs : List S33) (rs : List Int) (ss : List S62) (os : List Bool) (h : SmallK gs rs ss os) (ho : os.length = ss.length) : Ev (fun k => spec_KernelOk.l1 k 0 gs rs ss os) (ss.all coreOkS && readyB ss.length os [] rs) := by
  have hs := h.s
  refine all_ev (fun k i => spec_KernelOk.l1 k i gs rs ss os) coreOkS ss z62 (readyB ss.length os [] rs) (fun i r hi hp hh => ev_succ ?_) (fun i hi hp => ev_succ ?_) (ev_succ ?_) ss.length 0 (by omega)
  · have hb := h.si _ (getD_mem ss i z62 hi)
    have e := ev_eq (spec_coreOk (ss.getD i z62).f0 (ss.getD i z62).f1 (ss.getD i z62).f2 (by omega)) (show _ = true from hp)
    simp (disch := omega) only [spec_KernelOk.l1, if_pos, wrap_nat]
    exact Ev.bind e (ev_pos rfl hh)
  · have hb := h.si _ (getD_mem ss i z62 hi)
    have e := ev_eq (spec_coreOk (ss.getD i z62).f0 (ss.getD i z62).f1 (ss.getD i z62).f2 (by omega)) (show _ = false from hp)
    simp (disch := omega) only [spec_KernelOk.l1, if_pos]
    exact Ev.bind e (ev_neg (by simp) (Ev.now _))
  · simp (disch := omega) only [spec_KernelOk.l1, if_neg]
    exact spec_kernel_l2 gs rs ss os h ho rs.length 0 (by omega)
theorem spec_kernelOk (gs : List S33) (rs : List Int) (ss : List S62) (os : List Bool) (h : SmallK gs rs ss os) : Ev (fun k => spec_KernelOk.f k gs rs ss os) (kernelOk gs rs ss os) := by
  have hg := h.g; have hs := h.s
  refine all_ev (fun k i => spec_KernelOk.l0 k i gs rs ss os) gateOkS gs z33 _ (fun i r hi hp hh => ev_succ ?_) (fun i hi hp => ev_succ ?_) (ev_succ ?_) gs.length 0 (by omega)
  · have hb := h.gi _ (getD_mem gs i z33 hi)
    have e := ev_eq (spec_gateOk (gs.getD i z33).f0 (gs.getD i z33).f1 (gs.getD i z33).f2 (by omega) (by omega)) (show _ = true from hp)
    simp (disch := omega) only [spec_KernelOk.l0, if_pos, wrap_nat]
    exact Ev.bind e (ev_pos rfl hh)
  · have hb := h.gi _ (getD_mem gs i z33 hi)
    have e := ev_eq (spec_gateOk (gs.getD i z33).f0 (gs.getD i z33).f1 (gs.getD i z33).f2 (by omega) (by omega)) (show _ = false from hp)
    simp (disch := omega) only [spec_KernelOk.l0, if_pos]
    exact Ev.bind e (ev_neg (by simp) (Ev.now _))
  · simp (disch := omega) only [spec_KernelOk.l0, if_neg, l01In_g, Option.bind_some]
    by_cases h1 : 1 ≤ ss.length ∧ ss.length ≤ 4
    · have h1' : (1 : Int) ≤ (ss.length : Int) ∧ (ss.length : Int) ≤ 4 := by omega
      simp only [h1, h1', and_self, decide_true, if_true, Bool.true_and]
      by_cases h2 : os.length = ss.length
      · have h2' : ((os.length : Int) != (ss.length : Int)) = false := by simp [h2]
        simp only [h2', h2, decide_true, Bool.true_and]
        refine ev_succ ?_
        simp only [spec_KernelOk.j1, Bool.false_eq_true, if_false, h2, bne_self_eq_false]
        exact spec_kernel_l1 gs rs ss os h h2
      · have h2' : ((os.length : Int) != (ss.length : Int)) = true := by simp; omega
        simp only [h2', h2, decide_false, Bool.false_and]
        exact ev_now fun k => by simp [spec_KernelOk.j1]
    · have h1' : ¬ ((1 : Int) ≤ (ss.length : Int) ∧ (ss.length : Int) ≤ 4) := by omega
      simp only [h1, h1', decide_false, Bool.false_eq_true, if_false, Bool.false_and]
      exact ev_now fun k => by simp [spec_KernelOk.j1]
theorem impl_noGate (gs : List S33) (hg : gs.length ≤ 1000000000) (hi : ∀ g ∈ gs, g.f1.length ≤ 1000000000 ∧ g.f2.length ≤ 1000000000) : Ev (fun k => slices_ContainsFunc_Gate_at_impl_KernelOk_1.f k gs) (!gs.all gateOkS) := by
  have h1 : Ev (fun k => slices_IndexFunc_Gate_at_impl_KernelOk_1.f k gs) (ixI (fun y => !gateOkS y) gs) := by
    refine Ev.congr (f := fun k => slices_IndexFunc_Gate_at_impl_KernelOk_1.l0 k gs (gs.length : Int) ((0 : Nat) : Int)) (fun k => rfl) ?_
    refine ev_eq (find_ev (fun k i => slices_IndexFunc_Gate_at_impl_KernelOk_1.l0 k gs (gs.length : Int) i) (fun y => !gateOkS y) gs z33 (fun j => (j : Int)) (-1) (fun i r hl hp h => ev_succ ?_) (fun i hl hp => ev_succ ?_) (ev_now (fun k => ?_)) gs.length 0 (by omega)) rfl
    · have hb := hi _ (getD_mem gs i z33 hl)
      have e := ev_eq (Ev.bind (f := fun _ t => some (!t)) (impl_gateOk (gs.getD i z33).f0 (gs.getD i z33).f1 (gs.getD i z33).f2 (by omega) (by omega)) (Ev.now _)) (show _ = false from hp)
      simp (disch := omega) only [slices_IndexFunc_Gate_at_impl_KernelOk_1.l0, if_pos, wrap_nat, impl_KernelOk_1.f]
      exact Ev.bind e (ev_neg (by simp) h)
    · have hb := hi _ (getD_mem gs i z33 hl)
      have e := ev_eq (Ev.bind (f := fun _ t => some (!t)) (impl_gateOk (gs.getD i z33).f0 (gs.getD i z33).f1 (gs.getD i z33).f2 (by omega) (by omega)) (Ev.now _)) (show _ = true from hp)
      simp (disch := omega) only [slices_IndexFunc_Gate_at_impl_KernelOk_1.l0, if_pos, impl_KernelOk_1.f]
      exact Ev.bind e (ev_pos rfl (Ev.now _))
    · simp (disch := omega) only [slices_IndexFunc_Gate_at_impl_KernelOk_1.l0, if_neg]
  exact Ev.bind h1 (ev_eq (Ev.now _) (by rw [ixI_any, anyP_not]))
theorem impl_noCore (ss : List S62) (hs : ss.length ≤ 1000000000) (hi : ∀ c ∈ ss, c.f0.length ≤ 1000000000) : Ev (fun k => slices_ContainsFunc_Core_at_impl_KernelOk_2.f k ss) (!ss.all coreOkS) := by
  have h1 : Ev (fun k => slices_IndexFunc_Core_at_impl_KernelOk_2.f k ss) (ixI (fun y => !coreOkS y) ss) := by
    refine Ev.congr (f := fun k => slices_IndexFunc_Core_at_impl_KernelOk_2.l0 k ss (ss.length : Int) ((0 : Nat) : Int)) (fun k => rfl) ?_
    refine ev_eq (find_ev (fun k i => slices_IndexFunc_Core_at_impl_KernelOk_2.l0 k ss (ss.length : Int) i) (fun y => !coreOkS y) ss z62 (fun j => (j : Int)) (-1) (fun i r hl hp h => ev_succ ?_) (fun i hl hp => ev_succ ?_) (ev_now (fun k => ?_)) ss.length 0 (by omega)) rfl
    · have hb := hi _ (getD_mem ss i z62 hl)
      have e := ev_eq (Ev.bind (f := fun _ t => some (!t)) (impl_coreOk (ss.getD i z62).f0 (ss.getD i z62).f1 (ss.getD i z62).f2 (by omega)) (Ev.now _)) (show _ = false from hp)
      simp (disch := omega) only [slices_IndexFunc_Core_at_impl_KernelOk_2.l0, if_pos, wrap_nat, impl_KernelOk_2.f]
      exact Ev.bind e (ev_neg (by simp) h)
    · have hb := hi _ (getD_mem ss i z62 hl)
      have e := ev_eq (Ev.bind (f := fun _ t => some (!t)) (impl_coreOk (ss.getD i z62).f0 (ss.getD i z62).f1 (ss.getD i z62).f2 (by omega)) (Ev.now _)) (show _ = true from hp)
      simp (disch := omega) only [slices_IndexFunc_Core_at_impl_KernelOk_2.l0, if_pos, impl_KernelOk_2.f]
      exact Ev.bind e (ev_pos rfl (Ev.now _))
    · simp (disch := omega) only [slices_IndexFunc_Core_at_impl_KernelOk_2.l0, if_neg]
  exact Ev.bind h1 (ev_eq (Ev.now _) (by rw [ixI_any, anyP_not]))
theorem impl_kernelOk (gs : List S33) (rs : List Int) (ss : List S62) (os : List Bool) (h : SmallK gs rs ss os) : Ev (fun k => impl_KernelOk.f k gs rs ss os) (kernelOk gs rs ss os) := by
  unfold impl_KernelOk.f kernelOk
  refine Ev.bind (impl_noGate gs h.g h.gi) ?_
  cases gs.all gateOkS with
  | false =>
    simp only [Bool.not_false, if_true, Bool.false_and]
    exact ev_now fun k => by simp [impl_KernelOk.j0]
  | true =>
    simp only [Bool.not_true, Bool.false_eq_true, if_false, Bool.true_and]
    refine Ev.bind (impl_noCore ss h.s h.si) ?_
    cases ss.all coreOkS with
    | false =>
      simp only [Bool.not_false, Bool.false_and, Bool.and_false]
      exact ev_now fun k => by simp [impl_KernelOk.j0]
    | true =>
      simp only [Bool.not_true, Bool.true_and]
      refine ev_succ ?_
      simp only [impl_KernelOk.j0, Bool.false_eq_true, if_false, within_g, Option.bind_some]
      by_cases h1 : 1 ≤ ss.length ∧ ss.length ≤ 4
      · have h1' : (1 : Int) ≤ (ss.length : Int) ∧ (ss.length : Int) ≤ 4 := by omega
        simp only [h1, h1', and_self, decide_true, if_true, Bool.true_and]
        by_cases h2 : os.length = ss.length
        · have h2' : ((os.length : Int) != (ss.length : Int)) = false := by simp [h2]
          simp only [h2', h2, decide_true, Bool.true_and]
          refine ev_succ ?_
          simp only [impl_KernelOk.j1, Bool.false_eq_true, if_false, h2, bne_self_eq_false]
          have e0 := impl_kernel_l0 gs rs ss os h h2 rs.length 0 (by omega)
          rw [List.take_zero, List.drop_zero] at e0
          exact e0
        · have h2' : ((os.length : Int) != (ss.length : Int)) = true := by simp; omega
          simp only [h2', h2, decide_false, Bool.false_and]
          exact ev_now fun k => by simp [impl_KernelOk.j1]
      · have h1' : ¬ ((1 : Int) ≤ (ss.length : Int) ∧ (ss.length : Int) ≤ 4) := by omega
        simp only [h1, h1', decide_false, Bool.false_eq_true, if_false, Bool.false_and]
        exact ev_now fun k => by simp [impl_KernelOk.j1]
theorem szG_gate (x : S31) (h : G31 x) : szGGate x := ⟨by have := h.2.1.2.1; omega, by have := h.2.2.2.1; omega⟩
theorem szG_core (x : S163) (h : G163 x) : szGCore x := by have := h.1.2.1; show x.f0.length ≤ _; omega
theorem FnExactKernelOk : laws_FnExactKernelOk.Says := by
  rintro gs rs ss os ⟨hg1, hg2, hg3⟩ ⟨hr1, hr2, hr3⟩ ⟨hs1, hs2, hs3⟩ ⟨ho1, ho2, ho3⟩
  refine Ev.rounds (r := true) ?_
  unfold laws_FnExactKernelOk.f
  refine Ev.bind (szKernel_ev gs rs ss os 1048576 (by omega) (fun x hx => szG_gate x (hg3 x hx)) (by omega) (by omega) (fun x hx => szG_core x (hs3 x hx)) (by omega) (by omega) (by omega)) ?_
  by_cases hl : lft 1048576 ((gs.length + total szGate_of gs) + (rs.length + ((ss.length + total szCore_of ss) + os.length))) < 0
  · exact ev_pos hl (Ev.now _)
  · refine ev_neg hl ?_
    have hp := (lft_pos hl).1
    have t := toKernel_ev gs rs ss os (by omega) (fun x hx => by have := total_mem szGate_of _ x hx; omega) (by omega) (by omega) (fun x hx => by have := total_mem szCore_of _ x hx; omega) (by omega)
    have sm : SmallK (gs.map cvGate) rs (ss.map cvCore) os := ⟨by rw [List.length_map]; omega, by omega, by rw [List.length_map]; omega, by omega, by
      intro g hg
      obtain ⟨x, hx, rfl⟩ := List.mem_map.1 hg
      have h1 := total_mem szGate_of _ x hx
      unfold szGate_of at h1 hp
      show x.f1.length ≤ _ ∧ x.f2.length ≤ _
      omega, by
      intro c hc
      obtain ⟨x, hx, rfl⟩ := List.mem_map.1 hc
      have h1 := total_mem szCore_of _ x hx
      unfold szCore_of at h1 hp
      show x.f0.length ≤ _
      omega⟩
    have e := eqKernel_self (gs.map cvGate) rs (ss.map cvCore) os (by rw [List.length_map]; omega) (by
      intro y hy
      obtain ⟨x, hx, rfl⟩ := List.mem_map.1 hy
      have := total_mem szGate_of _ x hx
      exact eqBGate_cv x (by omega)) (by omega) (by rw [List.length_map]; omega) (by
      intro y hy
      obtain ⟨x, hx, rfl⟩ := List.mem_map.1 hy
      have := total_mem szCore_of _ x hx
      exact eqBCore_cv x (by omega)) (by omega)
    exact Ev.bind t (Ev.bind (spec_kernelOk _ _ _ _ sm) (Ev.bind t (Ev.bind (impl_kernelOk _ _ _ _ sm) (ev_neg (by simp) (Ev.bind t (Ev.bind e (ev_pos rfl (Ev.now _))))))))

end Go.Proofs.Ytdbomppmpkjmhaa.Pure
