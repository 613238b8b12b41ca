/- The pure statement of the law FnExactResultAt holds: what the printed functions compute is what the law says, at every argument. -/
import Derived.Test.YtfecgljlnfoheaaOpFnExactResultAt
import Derived.Test.YtfecgljlnfoheaaPlFnExactResultAt
namespace Go.Proofs.Ytfecgljlnfoheaa.Pure
open Go.RowKit Go.Proofs.Ytfecgljlnfoheaa.PFnExactResultAt Go.Proofs.YtfecgljlnfoheaaW.PrintWords Go.Proofs.YtfecgljlnfoheaaW.PrintLast Go.Proofs.Ytfecgljlnfoheaa.Pl
set_option linter.unusedSimpArgs false
set_option linter.unusedVariables false
def szNode_of (x : S214) : Nat := x.f2.size + (x.f3.size + (x.f4.size + (x.f5.length)))
def szGNode (x : S214) : Prop := (x.f2.size ≤ 140737488351232) ∧ (x.f3.size ≤ 140737488351232) ∧ (x.f4.size ≤ 140737488351232) ∧ (x.f5.length ≤ 140737488351232)
theorem szIntS_ev (xs : List Int) (m : Int) (hx : xs.length ≤ 140737488351232) (h0 : 0 ≤ m) (hm : m ≤ 4611686018427387904) : Ev (fun _ => laws_szIntS.f xs m) (lft m xs.length) := sz_end h0 hm (by omega)
theorem szNode_ev (x0 : Int) (x1 : Int) (x2 : ByteArray) (x3 : ByteArray) (x4 : ByteArray) (x5 : List Int) (m : Int) (hx2 : x2.size ≤ 140737488351232) (hx3 : x3.size ≤ 140737488351232) (hx4 : x4.size ≤ 140737488351232) (hx5 : x5.length ≤ 140737488351232) (h0 : 0 ≤ m) (hm : m ≤ 4611686018427387904) : Ev (fun _ => laws_szNode.f x0 x1 x2 x3 x4 x5 m) (lft m (x2.size + (x3.size + (x4.size + (x5.length))))) := by
  unfold laws_szNode.f
  rw [lft_wrap (n := x2.size) h0 hm (by omega)]
  by_cases c : lft m x2.size < 0
  · have c' : m - (x2.size : Int) < 0 := by unfold lft at c; split at c <;> omega
    simp only [if_pos c', lft_neg c]
    exact Ev.now _
  have e := lft_pos c
  simp only [if_neg (show ¬ m - (x2.size : Int) < 0 by omega)]
  rw [← lft_lft, if_neg c, ← e.2]
  have hc := lft_le c h0 hm
  rw [lft_wrap (n := x3.size) hc.1 hc.2 (by omega)]
  by_cases c : lft (lft m x2.size) x3.size < 0
  · have c' : (lft m x2.size) - (x3.size : Int) < 0 := by unfold lft at c; split at c <;> omega
    simp only [if_pos c', lft_neg c]
    exact Ev.now _
  have e := lft_pos c
  simp only [if_neg (show ¬ (lft m x2.size) - (x3.size : Int) < 0 by omega)]
  rw [← lft_lft, if_neg c, ← e.2]
  have hc := lft_le c hc.1 hc.2
  rw [lft_wrap (n := x4.size) hc.1 hc.2 (by omega)]
  by_cases c : lft (lft (lft m x2.size) x3.size) x4.size < 0
  · have c' : (lft (lft m x2.size) x3.size) - (x4.size : Int) < 0 := by unfold lft at c; split at c <;> omega
    simp only [if_pos c', lft_neg c]
    exact Ev.now _
  have e := lft_pos c
  simp only [if_neg (show ¬ (lft (lft m x2.size) x3.size) - (x4.size : Int) < 0 by omega)]
  rw [← lft_lft, if_neg c, ← e.2]
  have hc := lft_le c hc.1 hc.2
  exact sz_last (szIntS_ev x5 _ hx5 hc.1 hc.2)
theorem szNodeS_ev (xs : List S214) (m : Int) (hx : xs.length ≤ 140737488351232) (hG : ∀ x ∈ xs, szGNode x) (h0 : 0 ≤ m) (hm : m ≤ 4611686018427387904) : Ev (fun k => laws_szNodeS.f k xs m) (lft m (xs.length + total szNode_of xs)) := by
  unfold laws_szNodeS.f
  refine sz_step (f := fun k t => laws_szNodeS.l0 k xs t 0) h0 hm (by omega) (fun c => ?_)
  have hc := lft_le c h0 hm
  refine sz_ev (fun k t i => laws_szNodeS.l0 k xs t i) szNode_of xs z214 (fun i t r hi h1 h2 hn h => ev_succ ?_) (fun i t hi h1 h2 hn => ev_succ ?_) (fun t => ev_now (fun k => ?_)) xs.length 0 _ (by omega) hc.1 hc.2
  · have hs := hG _ (getD_mem xs i z214 hi)
    simp only [szGNode] at hs
    simp (disch := omega) only [laws_szNodeS.l0, if_pos, wrap_nat]
    refine Ev.bind (szNode_ev _ _ _ _ _ _ t hs.1 hs.2.1 hs.2.2.1 hs.2.2.2 h1 h2) ?_
    refine ev_neg hn h
  · have hs := hG _ (getD_mem xs i z214 hi)
    simp only [szGNode] at hs
    simp (disch := omega) only [laws_szNodeS.l0, if_pos, wrap_nat]
    refine Ev.bind (szNode_ev _ _ _ _ _ _ t hs.1 hs.2.1 hs.2.2.1 hs.2.2.2 h1 h2) ?_
    exact ev_pos hn (Ev.now _)
  · simp (disch := omega) only [laws_szNodeS.l0, if_neg]
def szEntry_of (x : S290) : Nat := x.f0.size + (x.f1.size)
def szMonitor_of (x : S218) : Nat := x.f0.size + ((x.f1.length + total ByteArray.size x.f1) + ((x.f2.length + total ByteArray.size x.f2) + ((x.f3.length + total szEntry_of x.f3))))
def szGEntry (x : S290) : Prop := (x.f0.size ≤ 140737488351232) ∧ (x.f1.size ≤ 140737488351232)
def szGMonitor (x : S218) : Prop := (x.f0.size ≤ 140737488351232) ∧ (x.f1.length ≤ 140737488351232) ∧ (∀ y ∈ x.f1, y.size ≤ 140737488351232) ∧ (x.f2.length ≤ 140737488351232) ∧ (∀ y ∈ x.f2, y.size ≤ 140737488351232) ∧ (x.f3.length ≤ 140737488351232) ∧ (∀ y ∈ x.f3, szGEntry y)
theorem szStringS_ev (xs : List ByteArray) (m : Int) (hx : xs.length ≤ 140737488351232) (hG : ∀ x ∈ xs, x.size ≤ 140737488351232) (h0 : 0 ≤ m) (hm : m ≤ 4611686018427387904) : Ev (fun k => laws_szStringS.f k xs m) (lft m (xs.length + total ByteArray.size xs)) := by
  unfold laws_szStringS.f
  refine sz_step (f := fun k t => laws_szStringS.l0 k xs t 0) h0 hm (by omega) (fun c => ?_)
  have hc := lft_le c h0 hm
  refine sz_ev (fun k t i => laws_szStringS.l0 k xs t i) ByteArray.size xs ByteArray.empty (fun i t r hi h1 h2 hn h => ev_succ ?_) (fun i t hi h1 h2 hn => ev_succ ?_) (fun t => ev_now (fun k => ?_)) xs.length 0 _ (by omega) hc.1 hc.2
  · have hs := hG _ (getD_mem xs i ByteArray.empty hi)
    have e := lft_pos hn
    rw [e.2] at h
    have e3 : wrap64 (t - ((rdOf ByteArray.empty xs (i : Int)).size : Int)) = t - ((xs.getD i ByteArray.empty).size : Int) := lft_wrap (n := (xs.getD i ByteArray.empty).size) h1 h2 (by omega)
    simp (disch := omega) only [laws_szStringS.l0, if_pos, e3, if_neg, wrap_nat]
    exact h
  · have hs := hG _ (getD_mem xs i ByteArray.empty hi)
    have e3 : wrap64 (t - ((rdOf ByteArray.empty xs (i : Int)).size : Int)) = t - ((xs.getD i ByteArray.empty).size : Int) := lft_wrap (n := (xs.getD i ByteArray.empty).size) h1 h2 (by omega)
    have e4 : t - ((xs.getD i ByteArray.empty).size : Int) < 0 := by unfold lft at hn; split at hn <;> omega
    simp (disch := omega) only [laws_szStringS.l0, if_pos, e3]
    exact Ev.now _
  · simp (disch := omega) only [laws_szStringS.l0, if_neg]
theorem szEntry_ev (x0 : ByteArray) (x1 : ByteArray) (x2 : Int) (m : Int) (hx0 : x0.size ≤ 140737488351232) (hx1 : x1.size ≤ 140737488351232) (h0 : 0 ≤ m) (hm : m ≤ 4611686018427387904) : Ev (fun _ => laws_szEntry.f x0 x1 x2 m) (lft m (x0.size + (x1.size))) := by
  unfold laws_szEntry.f
  rw [lft_wrap (n := x0.size) h0 hm (by omega)]
  by_cases c : lft m x0.size < 0
  · have c' : m - (x0.size : Int) < 0 := by unfold lft at c; split at c <;> omega
    simp only [if_pos c', lft_neg c]
    exact Ev.now _
  have e := lft_pos c
  simp only [if_neg (show ¬ m - (x0.size : Int) < 0 by omega)]
  rw [← lft_lft, if_neg c, ← e.2]
  have hc := lft_le c h0 hm
  exact sz_end (n := x1.size) hc.1 hc.2 (by omega)
theorem szEntryS_ev (xs : List S290) (m : Int) (hx : xs.length ≤ 140737488351232) (hG : ∀ x ∈ xs, szGEntry x) (h0 : 0 ≤ m) (hm : m ≤ 4611686018427387904) : Ev (fun k => laws_szEntryS.f k xs m) (lft m (xs.length + total szEntry_of xs)) := by
  unfold laws_szEntryS.f
  refine sz_step (f := fun k t => laws_szEntryS.l0 k xs t 0) h0 hm (by omega) (fun c => ?_)
  have hc := lft_le c h0 hm
  refine sz_ev (fun k t i => laws_szEntryS.l0 k xs t i) szEntry_of xs z290 (fun i t r hi h1 h2 hn h => ev_succ ?_) (fun i t hi h1 h2 hn => ev_succ ?_) (fun t => ev_now (fun k => ?_)) xs.length 0 _ (by omega) hc.1 hc.2
  · have hs := hG _ (getD_mem xs i z290 hi)
    simp only [szGEntry] at hs
    simp (disch := omega) only [laws_szEntryS.l0, if_pos, wrap_nat]
    refine Ev.bind (szEntry_ev _ _ _ t hs.1 hs.2 h1 h2) ?_
    refine ev_neg hn h
  · have hs := hG _ (getD_mem xs i z290 hi)
    simp only [szGEntry] at hs
    simp (disch := omega) only [laws_szEntryS.l0, if_pos, wrap_nat]
    refine Ev.bind (szEntry_ev _ _ _ t hs.1 hs.2 h1 h2) ?_
    exact ev_pos hn (Ev.now _)
  · simp (disch := omega) only [laws_szEntryS.l0, if_neg]
theorem szMonitor_ev (x0 : ByteArray) (x1 : List ByteArray) (x2 : List ByteArray) (x3 : List S290) (m : Int) (hx0 : x0.size ≤ 140737488351232) (hx1 : x1.length ≤ 140737488351232) (gx1 : ∀ x ∈ x1, x.size ≤ 140737488351232) (hx2 : x2.length ≤ 140737488351232) (gx2 : ∀ x ∈ x2, x.size ≤ 140737488351232) (hx3 : x3.length ≤ 140737488351232) (gx3 : ∀ x ∈ x3, szGEntry x) (h0 : 0 ≤ m) (hm : m ≤ 4611686018427387904) : Ev (fun k => laws_szMonitor.f k x0 x1 x2 x3 m) (lft m (x0.size + ((x1.length + total ByteArray.size x1) + ((x2.length + total ByteArray.size x2) + ((x3.length + total szEntry_of x3)))))) := by
  unfold laws_szMonitor.f
  rw [lft_wrap (n := x0.size) h0 hm (by omega)]
  by_cases c : lft m x0.size < 0
  · have c' : m - (x0.size : Int) < 0 := by unfold lft at c; split at c <;> omega
    simp only [if_pos c', lft_neg c]
    exact Ev.now _
  have e := lft_pos c
  simp only [if_neg (show ¬ m - (x0.size : Int) < 0 by omega)]
  rw [← lft_lft, if_neg c, ← e.2]
  have hc := lft_le c h0 hm
  refine sz_chain (szStringS_ev x1 _ hx1 gx1 hc.1 hc.2) (fun c => ?_)
  have hc := lft_le c hc.1 hc.2
  refine sz_chain (szStringS_ev x2 _ hx2 gx2 hc.1 hc.2) (fun c => ?_)
  have hc := lft_le c hc.1 hc.2
  exact sz_last (szEntryS_ev x3 _ hx3 gx3 hc.1 hc.2)
theorem szMonitorS_ev (xs : List S218) (m : Int) (hx : xs.length ≤ 140737488351232) (hG : ∀ x ∈ xs, szGMonitor x) (h0 : 0 ≤ m) (hm : m ≤ 4611686018427387904) : Ev (fun k => laws_szMonitorS.f k xs m) (lft m (xs.length + total szMonitor_of xs)) := by
  unfold laws_szMonitorS.f
  refine sz_step (f := fun k t => laws_szMonitorS.l0 k xs t 0) h0 hm (by omega) (fun c => ?_)
  have hc := lft_le c h0 hm
  refine sz_ev (fun k t i => laws_szMonitorS.l0 k xs t i) szMonitor_of xs z218 (fun i t r hi h1 h2 hn h => ev_succ ?_) (fun i t hi h1 h2 hn => ev_succ ?_) (fun t => ev_now (fun k => ?_)) xs.length 0 _ (by omega) hc.1 hc.2
  · have hs := hG _ (getD_mem xs i z218 hi)
    simp only [szGMonitor] at hs
    simp (disch := omega) only [laws_szMonitorS.l0, if_pos, wrap_nat]
    refine Ev.bind (szMonitor_ev _ _ _ _ t hs.1 hs.2.1 hs.2.2.1 hs.2.2.2.1 hs.2.2.2.2.1 hs.2.2.2.2.2.1 hs.2.2.2.2.2.2 h1 h2) ?_
    refine ev_neg hn h
  · have hs := hG _ (getD_mem xs i z218 hi)
    simp only [szGMonitor] at hs
    simp (disch := omega) only [laws_szMonitorS.l0, if_pos, wrap_nat]
    refine Ev.bind (szMonitor_ev _ _ _ _ t hs.1 hs.2.1 hs.2.2.1 hs.2.2.2.1 hs.2.2.2.2.1 hs.2.2.2.2.2.1 hs.2.2.2.2.2.2 h1 h2) ?_
    exact ev_pos hn (Ev.now _)
  · simp (disch := omega) only [laws_szMonitorS.l0, if_neg]
def szProcess_of (x : S220) : Nat := x.f0.size + ((x.f1.length + total ByteArray.size x.f1) + ((x.f2.length + total ByteArray.size x.f2)))
def szGProcess (x : S220) : Prop := (x.f0.size ≤ 140737488351232) ∧ (x.f1.length ≤ 140737488351232) ∧ (∀ y ∈ x.f1, y.size ≤ 140737488351232) ∧ (x.f2.length ≤ 140737488351232) ∧ (∀ y ∈ x.f2, y.size ≤ 140737488351232)
theorem szProcess_ev (x0 : ByteArray) (x1 : List ByteArray) (x2 : List ByteArray) (x3 : Int) (m : Int) (hx0 : x0.size ≤ 140737488351232) (hx1 : x1.length ≤ 140737488351232) (gx1 : ∀ x ∈ x1, x.size ≤ 140737488351232) (hx2 : x2.length ≤ 140737488351232) (gx2 : ∀ x ∈ x2, x.size ≤ 140737488351232) (h0 : 0 ≤ m) (hm : m ≤ 4611686018427387904) : Ev (fun k => laws_szProcess.f k x0 x1 x2 x3 m) (lft m (x0.size + ((x1.length + total ByteArray.size x1) + ((x2.length + total ByteArray.size x2))))) := by
  unfold laws_szProcess.f
  rw [lft_wrap (n := x0.size) h0 hm (by omega)]
  by_cases c : lft m x0.size < 0
  · have c' : m - (x0.size : Int) < 0 := by unfold lft at c; split at c <;> omega
    simp only [if_pos c', lft_neg c]
    exact Ev.now _
  have e := lft_pos c
  simp only [if_neg (show ¬ m - (x0.size : Int) < 0 by omega)]
  rw [← lft_lft, if_neg c, ← e.2]
  have hc := lft_le c h0 hm
  refine sz_chain (szStringS_ev x1 _ hx1 gx1 hc.1 hc.2) (fun c => ?_)
  have hc := lft_le c hc.1 hc.2
  exact sz_last (szStringS_ev x2 _ hx2 gx2 hc.1 hc.2)
theorem szProcessS_ev (xs : List S220) (m : Int) (hx : xs.length ≤ 140737488351232) (hG : ∀ x ∈ xs, szGProcess x) (h0 : 0 ≤ m) (hm : m ≤ 4611686018427387904) : Ev (fun k => laws_szProcessS.f k xs m) (lft m (xs.length + total szProcess_of xs)) := by
  unfold laws_szProcessS.f
  refine sz_step (f := fun k t => laws_szProcessS.l0 k xs t 0) h0 hm (by omega) (fun c => ?_)
  have hc := lft_le c h0 hm
  refine sz_ev (fun k t i => laws_szProcessS.l0 k xs t i) szProcess_of xs z220 (fun i t r hi h1 h2 hn h => ev_succ ?_) (fun i t hi h1 h2 hn => ev_succ ?_) (fun t => ev_now (fun k => ?_)) xs.length 0 _ (by omega) hc.1 hc.2
  · have hs := hG _ (getD_mem xs i z220 hi)
    simp only [szGProcess] at hs
    simp (disch := omega) only [laws_szProcessS.l0, if_pos, wrap_nat]
    refine Ev.bind (szProcess_ev _ _ _ _ t hs.1 hs.2.1 hs.2.2.1 hs.2.2.2.1 hs.2.2.2.2 h1 h2) ?_
    refine ev_neg hn h
  · have hs := hG _ (getD_mem xs i z220 hi)
    simp only [szGProcess] at hs
    simp (disch := omega) only [laws_szProcessS.l0, if_pos, wrap_nat]
    refine Ev.bind (szProcess_ev _ _ _ _ t hs.1 hs.2.1 hs.2.2.1 hs.2.2.2.1 hs.2.2.2.2 h1 h2) ?_
    exact ev_pos hn (Ev.now _)
  · simp (disch := omega) only [laws_szProcessS.l0, if_neg]
theorem szProgram_ev (x0 : List S214) (x1 : List S218) (x2 : List S220) (m : Int) (hx0 : x0.length ≤ 140737488351232) (gx0 : ∀ x ∈ x0, szGNode x) (hx1 : x1.length ≤ 140737488351232) (gx1 : ∀ x ∈ x1, szGMonitor x) (hx2 : x2.length ≤ 140737488351232) (gx2 : ∀ x ∈ x2, szGProcess x) (h0 : 0 ≤ m) (hm : m ≤ 4611686018427387904) : Ev (fun k => laws_szProgram.f k x0 x1 x2 m) (lft m ((x0.length + total szNode_of x0) + ((x1.length + total szMonitor_of x1) + ((x2.length + total szProcess_of x2))))) := by
  unfold laws_szProgram.f
  refine sz_chain (szNodeS_ev x0 _ hx0 gx0 h0 hm) (fun c => ?_)
  have hc := lft_le c h0 hm
  refine sz_chain (szMonitorS_ev x1 _ hx1 gx1 hc.1 hc.2) (fun c => ?_)
  have hc := lft_le c hc.1 hc.2
  exact sz_last (szProcessS_ev x2 _ hx2 gx2 hc.1 hc.2)
def cvNode (x : S214) : S159 := ⟨x.f0, x.f1, x.f2, x.f3, x.f4, x.f5⟩
theorem toIntS_ev (xs : List Int) (hb : xs.length ≤ 2000000000000) : Ev (fun k => laws_toIntS.f k xs) xs := by
  refine ev_eq (Ev.congr (f := fun k => laws_toIntS.l0 k xs (List.replicate xs.length 0) ((0 : Nat) : Int)) (fun k => ?_) (fill_ev (fun k ys i => laws_toIntS.l0 k xs ys i) (fun x => x) xs 0 (fun i ys r hi hy h => ev_succ ?_) (fun ys hy => ev_now (fun k => ?_)) xs.length 0 _ (by omega) (by simp) (by simp))) (by simp)
  · simp (disch := omega) only [laws_toIntS.f, if_pos, Int.toNat_natCast]; rfl
  · simp (disch := omega) only [laws_toIntS.l0, if_pos, wrap_nat, Int.toNat_natCast]; exact h
  · simp (disch := omega) only [laws_toIntS.l0, if_neg]
theorem toNode_ev (x0 : Int) (x1 : Int) (x2 : ByteArray) (x3 : ByteArray) (x4 : ByteArray) (x5 : List Int) (hx5 : x5.length ≤ 2000000000000) : Ev (fun k => laws_toNode.f k x0 x1 x2 x3 x4 x5) (x0, x1, x2, x3, x4, x5) := by
  unfold laws_toNode.f
  exact Ev.bind (toIntS_ev x5 hx5) (Ev.now _)
theorem toNodeS_ev (xs : List S214) (hb : xs.length ≤ 2000000000000) (hG : ∀ x ∈ xs, szNode_of x ≤ 2000000000000) : Ev (fun k => laws_toNodeS.f k xs) (xs.map cvNode) := by
  refine Ev.congr (f := fun k => laws_toNodeS.l0 k xs (List.replicate xs.length z159) ((0 : Nat) : Int)) (fun k => ?_) (fill_ev (fun k ys i => laws_toNodeS.l0 k xs ys i) cvNode xs z214 (fun i ys r hi hy h => ev_succ ?_) (fun ys hy => ev_now (fun k => ?_)) xs.length 0 _ (by omega) (by simp) (by simp))
  · simp (disch := omega) only [laws_toNodeS.f, if_pos, Int.toNat_natCast]; rfl
  · have hx := hG _ (getD_mem xs i z214 hi)
    simp (disch := omega) only [laws_toNodeS.l0, if_pos, wrap_nat, Int.toNat_natCast]
    exact Ev.bind (toNode_ev _ _ _ _ _ _ (by have := hx; unfold szNode_of at this; show List.length (xs.getD i z214).f5 ≤ _; omega)) h
  · simp (disch := omega) only [laws_toNodeS.l0, if_neg]
def cvEntry (x : S290) : S157 := ⟨x.f0, x.f1, x.f2⟩
def cvMonitor (x : S218) : S155 := ⟨x.f0, x.f1, x.f2, x.f3.map cvEntry⟩
theorem toStringS_ev (xs : List ByteArray) (hb : xs.length ≤ 2000000000000) : Ev (fun k => laws_toStringS.f k xs) xs := by
  refine ev_eq (Ev.congr (f := fun k => laws_toStringS.l0 k xs (List.replicate xs.length (⟨#[]⟩ : ByteArray)) ((0 : Nat) : Int)) (fun k => ?_) (fill_ev (fun k ys i => laws_toStringS.l0 k xs ys i) (fun x => x) xs ByteArray.empty (fun i ys r hi hy h => ev_succ ?_) (fun ys hy => ev_now (fun k => ?_)) xs.length 0 _ (by omega) (by simp) (by simp))) (by simp)
  · simp (disch := omega) only [laws_toStringS.f, if_pos, Int.toNat_natCast]; rfl
  · simp (disch := omega) only [laws_toStringS.l0, if_pos, wrap_nat, Int.toNat_natCast]; exact h
  · simp (disch := omega) only [laws_toStringS.l0, if_neg]
theorem toEntryS_ev (xs : List S290) (hb : xs.length ≤ 2000000000000) : Ev (fun k => laws_toEntryS.f k xs) (xs.map cvEntry) := by
  refine Ev.congr (f := fun k => laws_toEntryS.l0 k xs (List.replicate xs.length z157) ((0 : Nat) : Int)) (fun k => ?_) (fill_ev (fun k ys i => laws_toEntryS.l0 k xs ys i) cvEntry xs z290 (fun i ys r hi hy h => ev_succ ?_) (fun ys hy => ev_now (fun k => ?_)) xs.length 0 _ (by omega) (by simp) (by simp))
  · simp (disch := omega) only [laws_toEntryS.f, if_pos, Int.toNat_natCast]; rfl
  · simp (disch := omega) only [laws_toEntryS.l0, if_pos, wrap_nat, Int.toNat_natCast, laws_toEntry.f, Option.bind_some]; exact h
  · simp (disch := omega) only [laws_toEntryS.l0, if_neg]
theorem toMonitor_ev (x0 : ByteArray) (x1 : List ByteArray) (x2 : List ByteArray) (x3 : List S290) (hx1 : x1.length ≤ 2000000000000) (hx2 : x2.length ≤ 2000000000000) (hx3 : x3.length ≤ 2000000000000) : Ev (fun k => laws_toMonitor.f k x0 x1 x2 x3) (x0, x1, x2, x3.map cvEntry) := by
  unfold laws_toMonitor.f
  exact Ev.bind (toStringS_ev x1 hx1) (Ev.bind (toStringS_ev x2 hx2) (Ev.bind (toEntryS_ev x3 hx3) (Ev.now _)))
theorem toMonitorS_ev (xs : List S218) (hb : xs.length ≤ 2000000000000) (hG : ∀ x ∈ xs, szMonitor_of x ≤ 2000000000000) : Ev (fun k => laws_toMonitorS.f k xs) (xs.map cvMonitor) := by
  refine Ev.congr (f := fun k => laws_toMonitorS.l0 k xs (List.replicate xs.length z155) ((0 : Nat) : Int)) (fun k => ?_) (fill_ev (fun k ys i => laws_toMonitorS.l0 k xs ys i) cvMonitor xs z218 (fun i ys r hi hy h => ev_succ ?_) (fun ys hy => ev_now (fun k => ?_)) xs.length 0 _ (by omega) (by simp) (by simp))
  · simp (disch := omega) only [laws_toMonitorS.f, if_pos, Int.toNat_natCast]; rfl
  · have hx := hG _ (getD_mem xs i z218 hi)
    simp (disch := omega) only [laws_toMonitorS.l0, if_pos, wrap_nat, Int.toNat_natCast]
    exact Ev.bind (toMonitor_ev _ _ _ _ (by have := hx; unfold szMonitor_of at this; show List.length (xs.getD i z218).f1 ≤ _; omega) (by have := hx; unfold szMonitor_of at this; show List.length (xs.getD i z218).f2 ≤ _; omega) (by have := hx; unfold szMonitor_of at this; show List.length (xs.getD i z218).f3 ≤ _; omega)) h
  · simp (disch := omega) only [laws_toMonitorS.l0, if_neg]
def cvProcess (x : S220) : S104 := ⟨x.f0, x.f1, x.f2, x.f3⟩
theorem toProcess_ev (x0 : ByteArray) (x1 : List ByteArray) (x2 : List ByteArray) (x3 : Int) (hx1 : x1.length ≤ 2000000000000) (hx2 : x2.length ≤ 2000000000000) : Ev (fun k => laws_toProcess.f k x0 x1 x2 x3) (x0, x1, x2, x3) := by
  unfold laws_toProcess.f
  exact Ev.bind (toStringS_ev x1 hx1) (Ev.bind (toStringS_ev x2 hx2) (Ev.now _))
theorem toProcessS_ev (xs : List S220) (hb : xs.length ≤ 2000000000000) (hG : ∀ x ∈ xs, szProcess_of x ≤ 2000000000000) : Ev (fun k => laws_toProcessS.f k xs) (xs.map cvProcess) := by
  refine Ev.congr (f := fun k => laws_toProcessS.l0 k xs (List.replicate xs.length z104) ((0 : Nat) : Int)) (fun k => ?_) (fill_ev (fun k ys i => laws_toProcessS.l0 k xs ys i) cvProcess xs z220 (fun i ys r hi hy h => ev_succ ?_) (fun ys hy => ev_now (fun k => ?_)) xs.length 0 _ (by omega) (by simp) (by simp))
  · simp (disch := omega) only [laws_toProcessS.f, if_pos, Int.toNat_natCast]; rfl
  · have hx := hG _ (getD_mem xs i z220 hi)
    simp (disch := omega) only [laws_toProcessS.l0, if_pos, wrap_nat, Int.toNat_natCast]
    exact Ev.bind (toProcess_ev _ _ _ _ (by have := hx; unfold szProcess_of at this; show List.length (xs.getD i z220).f1 ≤ _; omega) (by have := hx; unfold szProcess_of at this; show List.length (xs.getD i z220).f2 ≤ _; omega)) h
  · simp (disch := omega) only [laws_toProcessS.l0, if_neg]
theorem toProgram_ev (x0 : List S214) (x1 : List S218) (x2 : List S220) (hx0 : x0.length ≤ 2000000000000) (gx0 : ∀ x ∈ x0, szNode_of x ≤ 2000000000000) (hx1 : x1.length ≤ 2000000000000) (gx1 : ∀ x ∈ x1, szMonitor_of x ≤ 2000000000000) (hx2 : x2.length ≤ 2000000000000) (gx2 : ∀ x ∈ x2, szProcess_of x ≤ 2000000000000) : Ev (fun k => laws_toProgram.f k x0 x1 x2) (x0.map cvNode, x1.map cvMonitor, x2.map cvProcess) := by
  unfold laws_toProgram.f
  exact Ev.bind (toNodeS_ev x0 hx0 gx0) (Ev.bind (toMonitorS_ev x1 hx1 gx1) (Ev.bind (toProcessS_ev x2 hx2 gx2) (Ev.now _)))
theorem eqIntS_self (xs : List Int) (hb : xs.length ≤ 9000000000000000000) : Ev (fun k => laws_eqIntS.f k xs xs) true := by
  refine Ev.congr (f := fun k => laws_eqIntS.l0 k xs xs ((0 : Nat) : Int)) (fun k => ?_) (up_ev (fun k i => laws_eqIntS.l0 k xs xs i) xs.length true (fun i hi h => ev_succ ?_) (ev_now (fun k => ?_)) xs.length 0 (by omega))
  · simp (disch := omega) only [laws_eqIntS.f, if_pos]; rfl
  · simp (disch := omega) only [laws_eqIntS.l0, if_pos, wrap_nat, eq_self, if_true, bne_self_eq_false, Bool.false_eq_true, if_false]; exact h
  · simp (disch := omega) only [laws_eqIntS.l0, if_neg]
theorem eqNode_self (x0 : Int) (x1 : Int) (x2 : ByteArray) (x3 : ByteArray) (x4 : ByteArray) (x5 : List Int) (hx5 : x5.length ≤ 9000000000000000000) : Ev (fun k => laws_eqNode.f k x0 x1 x2 x3 x4 x5 x0 x1 x2 x3 x4 x5) true := by
  unfold laws_eqNode.f
  exact ev_pos rfl (ev_pos rfl (ev_pos rfl (ev_pos rfl (ev_pos rfl (Ev.bind (eqIntS_self x5 hx5) (ev_pos rfl (Ev.now _)))))))
def eqBNode (x : S159) : Prop := (x.f5.length ≤ 9000000000000000000)
theorem eqNodeS_self (xs : List S159) (hb : xs.length ≤ 9000000000000000000) (hG : ∀ x ∈ xs, eqBNode x) : Ev (fun k => laws_eqNodeS.f k xs xs) true := by
  refine Ev.congr (f := fun k => laws_eqNodeS.l0 k xs xs ((0 : Nat) : Int)) (fun k => ?_) (up_ev (fun k i => laws_eqNodeS.l0 k xs xs i) xs.length true (fun i hi h => ev_succ ?_) (ev_now (fun k => ?_)) xs.length 0 (by omega))
  · simp (disch := omega) only [laws_eqNodeS.f, if_pos]; rfl
  · have hx := hG _ (getD_mem xs i z159 hi)
    simp only [eqBNode] at hx
    simp (disch := omega) only [laws_eqNodeS.l0, if_pos, wrap_nat]
    exact Ev.bind (eqNode_self _ _ _ _ _ _ hx) (ev_pos rfl h)
  · simp (disch := omega) only [laws_eqNodeS.l0, if_neg]
theorem eqStringS_self (xs : List ByteArray) (hb : xs.length ≤ 9000000000000000000) : Ev (fun k => laws_eqStringS.f k xs xs) true := by
  refine Ev.congr (f := fun k => laws_eqStringS.l0 k xs xs ((0 : Nat) : Int)) (fun k => ?_) (up_ev (fun k i => laws_eqStringS.l0 k xs xs i) xs.length true (fun i hi h => ev_succ ?_) (ev_now (fun k => ?_)) xs.length 0 (by omega))
  · simp (disch := omega) only [laws_eqStringS.f, if_pos]; rfl
  · simp (disch := omega) only [laws_eqStringS.l0, if_pos, wrap_nat, eq_self, if_true, bne_self_eq_false, Bool.false_eq_true, if_false]; exact h
  · simp (disch := omega) only [laws_eqStringS.l0, if_neg]
theorem eqEntry_self (x0 : ByteArray) (x1 : ByteArray) (x2 : Int) : laws_eqEntry.f x0 x1 x2 x0 x1 x2 = some true := by simp only [laws_eqEntry.f, eq_self, if_true, Option.bind_some, bne_self_eq_false, Bool.false_eq_true, if_false]
theorem eqEntryS_self (xs : List S157) (hb : xs.length ≤ 9000000000000000000) : Ev (fun k => laws_eqEntryS.f k xs xs) true := by
  refine Ev.congr (f := fun k => laws_eqEntryS.l0 k xs xs ((0 : Nat) : Int)) (fun k => ?_) (up_ev (fun k i => laws_eqEntryS.l0 k xs xs i) xs.length true (fun i hi h => ev_succ ?_) (ev_now (fun k => ?_)) xs.length 0 (by omega))
  · simp (disch := omega) only [laws_eqEntryS.f, if_pos]; rfl
  · simp (disch := omega) only [laws_eqEntryS.l0, if_pos, wrap_nat, laws_eqEntry.f, eq_self, if_true, Option.bind_some, bne_self_eq_false, Bool.false_eq_true, if_false]; exact h
  · simp (disch := omega) only [laws_eqEntryS.l0, if_neg]
theorem eqMonitor_self (x0 : ByteArray) (x1 : List ByteArray) (x2 : List ByteArray) (x3 : List S157) (hx1 : x1.length ≤ 9000000000000000000) (hx2 : x2.length ≤ 9000000000000000000) (hx3 : x3.length ≤ 9000000000000000000) : Ev (fun k => laws_eqMonitor.f k x0 x1 x2 x3 x0 x1 x2 x3) true := by
  unfold laws_eqMonitor.f
  exact ev_pos rfl (Ev.bind (eqStringS_self x1 hx1) (ev_pos rfl (Ev.bind (eqStringS_self x2 hx2) (ev_pos rfl (Ev.bind (eqEntryS_self x3 hx3) (ev_pos rfl (Ev.now _)))))))
def eqBMonitor (x : S155) : Prop := (x.f1.length ≤ 9000000000000000000) ∧ (x.f2.length ≤ 9000000000000000000) ∧ (x.f3.length ≤ 9000000000000000000)
theorem eqMonitorS_self (xs : List S155) (hb : xs.length ≤ 9000000000000000000) (hG : ∀ x ∈ xs, eqBMonitor x) : Ev (fun k => laws_eqMonitorS.f k xs xs) true := by
  refine Ev.congr (f := fun k => laws_eqMonitorS.l0 k xs xs ((0 : Nat) : Int)) (fun k => ?_) (up_ev (fun k i => laws_eqMonitorS.l0 k xs xs i) xs.length true (fun i hi h => ev_succ ?_) (ev_now (fun k => ?_)) xs.length 0 (by omega))
  · simp (disch := omega) only [laws_eqMonitorS.f, if_pos]; rfl
  · have hx := hG _ (getD_mem xs i z155 hi)
    simp only [eqBMonitor] at hx
    simp (disch := omega) only [laws_eqMonitorS.l0, if_pos, wrap_nat]
    exact Ev.bind (eqMonitor_self _ _ _ _ hx.1 hx.2.1 hx.2.2) (ev_pos rfl h)
  · simp (disch := omega) only [laws_eqMonitorS.l0, if_neg]
theorem eqProcess_self (x0 : ByteArray) (x1 : List ByteArray) (x2 : List ByteArray) (x3 : Int) (hx1 : x1.length ≤ 9000000000000000000) (hx2 : x2.length ≤ 9000000000000000000) : Ev (fun k => laws_eqProcess.f k x0 x1 x2 x3 x0 x1 x2 x3) true := by
  unfold laws_eqProcess.f
  exact ev_pos rfl (Ev.bind (eqStringS_self x1 hx1) (ev_pos rfl (Ev.bind (eqStringS_self x2 hx2) (ev_pos rfl (ev_pos rfl (Ev.now _))))))
def eqBProcess (x : S104) : Prop := (x.f1.length ≤ 9000000000000000000) ∧ (x.f2.length ≤ 9000000000000000000)
theorem eqProcessS_self (xs : List S104) (hb : xs.length ≤ 9000000000000000000) (hG : ∀ x ∈ xs, eqBProcess x) : Ev (fun k => laws_eqProcessS.f k xs xs) true := by
  refine Ev.congr (f := fun k => laws_eqProcessS.l0 k xs xs ((0 : Nat) : Int)) (fun k => ?_) (up_ev (fun k i => laws_eqProcessS.l0 k xs xs i) xs.length true (fun i hi h => ev_succ ?_) (ev_now (fun k => ?_)) xs.length 0 (by omega))
  · simp (disch := omega) only [laws_eqProcessS.f, if_pos]; rfl
  · have hx := hG _ (getD_mem xs i z104 hi)
    simp only [eqBProcess] at hx
    simp (disch := omega) only [laws_eqProcessS.l0, if_pos, wrap_nat]
    exact Ev.bind (eqProcess_self _ _ _ _ hx.1 hx.2) (ev_pos rfl h)
  · simp (disch := omega) only [laws_eqProcessS.l0, if_neg]
theorem eqProgram_self (x0 : List S159) (x1 : List S155) (x2 : List S104) (hx0 : x0.length ≤ 9000000000000000000) (gx0 : ∀ y ∈ x0, eqBNode y) (hx1 : x1.length ≤ 9000000000000000000) (gx1 : ∀ y ∈ x1, eqBMonitor y) (hx2 : x2.length ≤ 9000000000000000000) (gx2 : ∀ y ∈ x2, eqBProcess y) : Ev (fun k => laws_eqProgram.f k x0 x1 x2 x0 x1 x2) true := by
  unfold laws_eqProgram.f
  exact Ev.bind (eqNodeS_self x0 hx0 gx0) (ev_pos rfl (Ev.bind (eqMonitorS_self x1 hx1 gx1) (ev_pos rfl (Ev.bind (eqProcessS_self x2 hx2 gx2) (ev_pos rfl (Ev.now _))))))
theorem eqBNode_cv (x : S214) (h : szNode_of x ≤ 2000000000000) : eqBNode (cvNode x) := (by have := h; unfold szNode_of at this; show List.length x.f5 ≤ _; omega)
theorem eqBMonitor_cv (x : S218) (h : szMonitor_of x ≤ 2000000000000) : eqBMonitor (cvMonitor x) := ⟨(by have := h; unfold szMonitor_of at this; show List.length x.f1 ≤ _; omega), (by have := h; unfold szMonitor_of at this; show List.length x.f2 ≤ _; omega), (by have := h; unfold szMonitor_of at this; first | (show (List.map _ _).length ≤ _; rw [List.length_map]; omega) | (show List.length (_) ≤ _; omega))⟩
theorem eqBProcess_cv (x : S220) (h : szProcess_of x ≤ 2000000000000) : eqBProcess (cvProcess x) := ⟨(by have := h; unfold szProcess_of at this; show List.length x.f1 ≤ _; omega), (by have := h; unfold szProcess_of at this; show List.length x.f2 ≤ _; omega)⟩
/-! a program: its arguments' bounds, and what is told of it -/
theorem szG_node (x : S214) (h : G214 x) : szGNode x := ⟨h.2.2.1, h.2.2.2.1, h.2.2.2.2.1, by have := h.2.2.2.2.2.2.1; omega⟩
theorem szG_entry (x : S290) (h : G290 x) : szGEntry x := ⟨h.1, h.2.1⟩
theorem szG_monitor (x : S218) (h : G218 x) : szGMonitor x := ⟨h.1, by have := h.2.1.2.1; omega, h.2.1.2.2, by have := h.2.2.1.2.1; omega, h.2.2.1.2.2, by have := h.2.2.2.2.1; omega, fun y hy => szG_entry y (h.2.2.2.2.2 y hy)⟩
theorem szG_process (x : S220) (h : G220 x) : szGProcess x := ⟨h.1, by have := h.2.1.2.1; omega, h.2.1.2.2, by have := h.2.2.1.2.1; omega, h.2.2.1.2.2⟩
theorem sz_program (ns : List S214) (ms : List S218) (ps : List S220) (hn : ns.length ≤ maxLen ∧ ns.length * 88 ≤ 140737488351232 ∧ ∀ x ∈ ns, G214 x) (hm : ms.length ≤ maxLen ∧ ms.length * 88 ≤ 140737488351232 ∧ ∀ x ∈ ms, G218 x) (hp : ps.length ≤ maxLen ∧ ps.length * 72 ≤ 140737488351232 ∧ ∀ x ∈ ps, G220 x) :
    Ev (fun k => laws_szProgram.f k ns ms ps 1048576) (lft 1048576 ((ns.length + total szNode_of ns) + ((ms.length + total szMonitor_of ms) + (ps.length + total szProcess_of ps)))) :=
  szProgram_ev ns ms ps 1048576 (by omega) (fun x hx => szG_node x (hn.2.2 x hx)) (by omega) (fun x hx => szG_monitor x (hm.2.2 x hx)) (by omega) (fun x hx => szG_process x (hp.2.2 x hx)) (by omega) (by omega)
/-- What the size tells. -/
structure Small (ns : List S214) (ms : List S218) (ps : List S220) : Prop where
  n : ns.length + total szNode_of ns ≤ 1048576
  m : ms.length + total szMonitor_of ms ≤ 1048576
  p : ps.length + total szProcess_of ps ≤ 1048576
theorem small_of {ns : List S214} {ms : List S218} {ps : List S220} (h : ¬ lft 1048576 ((ns.length + total szNode_of ns) + ((ms.length + total szMonitor_of ms) + (ps.length + total szProcess_of ps))) < 0) : Small ns ms ps := by
  have := (lft_pos h).1
  exact ⟨by omega, by omega, by omega⟩
theorem small_to {ns : List S214} {ms : List S218} {ps : List S220} (h : Small ns ms ps) : Ev (fun k => laws_toProgram.f k ns ms ps) (ns.map cvNode, ms.map cvMonitor, ps.map cvProcess) := by
  have h1 := h.n; have h2 := h.m; have h3 := h.p
  exact toProgram_ev ns ms ps (by omega) (fun x hx => by have := total_mem szNode_of _ x hx; omega) (by omega) (fun x hx => by have := total_mem szMonitor_of _ x hx; omega) (by omega) (fun x hx => by have := total_mem szProcess_of _ x hx; omega)
theorem small_eq {ns : List S214} {ms : List S218} {ps : List S220} (h : Small ns ms ps) : Ev (fun k => laws_eqProgram.f k (ns.map cvNode) (ms.map cvMonitor) (ps.map cvProcess) (ns.map cvNode) (ms.map cvMonitor) (ps.map cvProcess)) true := by
  have h1 := h.n; have h2 := h.m; have h3 := h.p
  refine eqProgram_self _ _ _ (by rw [List.length_map]; omega) ?_ (by rw [List.length_map]; omega) ?_ (by rw [List.length_map]; omega) ?_
  · intro y hy
    obtain ⟨x, hx, rfl⟩ := List.mem_map.1 hy
    have := total_mem szNode_of _ x hx
    exact eqBNode_cv x (by omega)
  · intro y hy
    obtain ⟨x, hx, rfl⟩ := List.mem_map.1 hy
    have := total_mem szMonitor_of _ x hx
    exact eqBMonitor_cv x (by omega)
  · intro y hy
    obtain ⟨x, hx, rfl⟩ := List.mem_map.1 hy
    have := total_mem szProcess_of _ x hx
    exact eqBProcess_cv x (by omega)
/-- How many variables. -/
def varsM (ms : List S155) : Nat := total (fun m => m.f1.length) ms
def varsP (ps : List S104) : Nat := total (fun p => p.f2.length + 2) ps
theorem small_varsM {ns : List S214} {ms : List S218} {ps : List S220} (h : Small ns ms ps) : varsM (ms.map cvMonitor) ≤ 1048576 := by
  have h2 := h.m
  unfold varsM
  rw [total_map]
  have := total_le (fun x => (cvMonitor x).f1.length) szMonitor_of ms (fun x _ => by show x.f1.length ≤ _; unfold szMonitor_of; omega)
  omega
theorem small_varsP {ns : List S214} {ms : List S218} {ps : List S220} (h : Small ns ms ps) : varsP (ps.map cvProcess) ≤ 4000000 := by
  have h2 := h.p
  unfold varsP
  rw [total_map, total_plus]
  have := total_le (fun x => (cvProcess x).f2.length) szProcess_of ps (fun x _ => by show x.f2.length ≤ _; unfold szProcess_of; omega)
  omega
theorem spec_varsM (ns : List S159) (ms : List S155) (ps : List S104) (hl : ms.length ≤ 2000000000000) (h : varsM ms ≤ 2000000000000) : Ev (fun k => spec_l18Vars.f k ns ms ps) (varsM ms) := by
  refine ev_eq (sum_ev (fun k m i => spec_l18Vars.l0 k m i ns ms ps) (fun m => m.f1.length) ms z155 (fun i m r hi h0 hm h => ev_succ ?_) (fun m => ev_now fun k => ?_) ms.length 0 0 (by omega) (by omega) (by unfold varsM at h; rw [List.drop_zero]; omega)) (by rw [List.drop_zero]; unfold varsM; omega)
  · have e : wrap64 (m + (((rd_T155 ms (i : Int)).f1).length : Int)) = m + ((ms.getD i z155).f1.length : Int) := wrap_in _ (by show _ ≤ m + ((ms.getD i z155).f1.length : Int); omega) (by show m + ((ms.getD i z155).f1.length : Int) ≤ _; omega)
    simp (disch := omega) only [spec_l18Vars.l0, if_pos, wrap_nat, e]
    exact h
  · simp (disch := omega) only [spec_l18Vars.l0, if_neg]
theorem impl_varsM (ms : List S155) (hl : ms.length ≤ 2000000000000) (h : varsM ms ≤ 2000000000000) : Ev (fun k => impl_sharedSize.f k ms) (varsM ms) := by
  refine ev_eq (sum_ev (fun k m i => impl_sharedSize.l0 k m ms (ms.length : Int) i) (fun m => m.f1.length) ms z155 (fun i m r hi h0 hm h => ev_succ ?_) (fun m => ev_now fun k => ?_) ms.length 0 0 (by omega) (by omega) (by unfold varsM at h; rw [List.drop_zero]; omega)) (by rw [List.drop_zero]; unfold varsM; omega)
  · have e : wrap64 (m + (((rd_T155 ms (i : Int)).f1).length : Int)) = m + ((ms.getD i z155).f1.length : Int) := wrap_in _ (by show _ ≤ m + ((ms.getD i z155).f1.length : Int); omega) (by show m + ((ms.getD i z155).f1.length : Int) ≤ _; omega)
    simp (disch := omega) only [impl_sharedSize.l0, if_pos, wrap_nat, e]
    exact h
  · simp (disch := omega) only [impl_sharedSize.l0, if_neg]
theorem l01In_s (a lo hi : Int) : spec_l01In.f a lo hi = some (decide (lo ≤ a ∧ a ≤ hi)) := by
  unfold spec_l01In.f
  split
  · simp; omega
  · simp; omega
theorem within_s (a lo hi : Int) : impl_within.f a lo hi = some (decide (lo ≤ a ∧ a ≤ hi)) := by
  unfold impl_within.f
  split
  · simp; omega
  · simp; omega
/-- Where a process's variable is. -/
def varAt (ms : List S155) (ps : List S104) (q i : Int) : Int := if 0 ≤ q ∧ q < (ps.length : Int) ∧ 0 ≤ i ∧ i ≤ ((rd_T104 ps q).f2.length : Int) then 1 + varsM ms + varsP (ps.take q.toNat) + i else -1
theorem varsP_mem (ps : List S104) (i : Nat) (h : i < ps.length) : (ps.getD i z104).f2.length + 2 ≤ varsP ps := total_mem (fun p => p.f2.length + 2) ps _ (getD_mem ps i _ h)
theorem spec_var_l0 (ns : List S159) (ms : List S155) (ps : List S104) (q : Nat) (i a0 : Int) (hq : q ≤ ps.length) (hl : ps.length ≤ 2000000000000) (h : varsP ps ≤ 1000000000000) (h0 : 0 ≤ i) (h1 : i ≤ 1000000000000) (h2 : 0 ≤ a0) (h3 : a0 ≤ 2000000000000) : Ev (fun k => spec_VarAt.l0 k (q : Int) i a0 0 ns ms ps) (a0 + varsP (ps.take q) + i) := by
  have hlen : (ps.take q).length = q := by rw [List.length_take]; omega
  have ht : varsP (ps.take q) ≤ varsP ps := total_take _ ps q
  have hd : total (fun p => p.f2.length + 2) ((ps.take q).drop 0) = varsP (ps.take q) := by rw [List.drop_zero]; rfl
  have key := sum_fin (fun k a j => spec_VarAt.l0 k (q : Int) i a j ns ms ps) (fun a => wrap64 (a + i)) (fun p => p.f2.length + 2) (ps.take q) z104 (fun j a r hj h0 hm h => ev_succ ?_) (fun a => ev_now fun k => ?_) q 0 a0 (by omega) (by omega) (by rw [hd]; omega)
  · refine ev_eq key ?_
    simp only [hd]
    exact wrap_in _ (by omega) (by omega)
  · rw [hlen] at hj
    rw [getD_take ps q j _ hj] at hm h
    have e : wrap64 (wrap64 (a + (((rd_T104 ps (j : Int)).f2).length : Int)) + 2) = a + ((ps.getD j z104).f2.length + 2 : Nat) := by
      show wrap64 (wrap64 (a + ((ps.getD j z104).f2.length : Int)) + 2) = _
      rw [wrap_in (a + ((ps.getD j z104).f2.length : Int)) (by omega) (by omega), wrap_in _ (by omega) (by omega)]
      omega
    simp (disch := omega) only [spec_VarAt.l0, if_pos, wrap_nat, e]
    exact h
  · rw [hlen]
    simp (disch := omega) only [spec_VarAt.l0, if_neg]
theorem spec_var (ns : List S159) (ms : List S155) (ps : List S104) (q0 i : Int) (hlm : ms.length ≤ 2000000000000) (hl : ps.length ≤ 2000000000000) (hm : varsM ms ≤ 1000000000000) (h : varsP ps ≤ 1000000000000) : Ev (fun k => spec_VarAt.f k ns ms ps q0 i) (varAt ms ps q0 i) := by
  unfold spec_VarAt.f varAt
  rw [wrap_in _ (by omega) (by omega)]
  simp only [l01In_s, Option.bind_some]
  by_cases h1 : 0 ≤ q0 ∧ q0 ≤ (ps.length : Int) - 1
  · obtain ⟨q, rfl⟩ : ∃ q : Nat, q0 = q := ⟨q0.toNat, by omega⟩
    have h2 : (0 : Int) ≤ q := h1.1
    have h3 : (q : Int) < (ps.length : Int) := by omega
    have hv := varsP_mem ps q (by omega)
    simp only [h1, h2, h3, and_self, decide_true, if_true, true_and]
    by_cases h5 : 0 ≤ i ∧ i ≤ ((rd_T104 ps (q : Int)).f2.length : Int)
    · have hi2 : i ≤ ((ps.getD q z104).f2.length : Int) := h5.2
      rw [if_pos h5]
      simp only [h5, and_self, decide_true, Bool.not_true]
      refine ev_succ ?_
      simp only [spec_VarAt.j0, Bool.false_eq_true, if_false, Int.toNat_natCast]
      refine Ev.bind (spec_varsM ns ms ps hlm (by omega)) ?_
      rw [wrap_in _ (by omega) (by omega)]
      exact spec_var_l0 ns ms ps q i _ (by omega) hl h h5.1 (by omega) (by omega) (by omega)
    · simp only [h5, decide_false, Bool.not_false, if_false]
      exact ev_now fun k => by simp [spec_VarAt.j0]
  · have h2 : ¬ (0 ≤ q0 ∧ q0 < (ps.length : Int)) := by omega
    simp only [h1, decide_false, Bool.false_eq_true, if_false]
    rw [if_neg (by rintro ⟨a, b, _⟩; exact h2 ⟨a, b⟩)]
    exact ev_now fun k => by simp [spec_VarAt.j0]
theorem impl_var_l0 (ps : List S104) (a0 : Int) (hl : ps.length ≤ 2000000000000) (h : varsP ps ≤ 1000000000000) (h2 : 0 ≤ a0) (h3 : a0 ≤ 4000000000000) : Ev (fun k => impl_VarAt.l0 k a0 ps (ps.length : Int) 0) (a0 + varsP ps) := by
  refine ev_eq (sum_ev (fun k m i => impl_VarAt.l0 k m ps (ps.length : Int) i) (fun p => p.f2.length + 2) ps z104 (fun i m r hi h0 hm h => ev_succ ?_) (fun m => ev_now fun k => ?_) ps.length 0 a0 (by omega) (by omega) (by unfold varsP at h; rw [List.drop_zero]; omega)) (by rw [List.drop_zero]; rfl)
  · have e : wrap64 (m + wrap64 ((((rd_T104 ps (i : Int)).f2).length : Int) + 2)) = m + ((ps.getD i z104).f2.length + 2 : Nat) := by
      show wrap64 (m + wrap64 (((ps.getD i z104).f2.length : Int) + 2)) = _
      rw [wrap_in (((ps.getD i z104).f2.length : Int) + 2) (by omega) (by omega), wrap_in _ (by omega) (by omega)]
      omega
    simp (disch := omega) only [impl_VarAt.l0, if_pos, wrap_nat, e]
    exact h
  · simp (disch := omega) only [impl_VarAt.l0, if_neg]
theorem impl_var (ns : List S159) (ms : List S155) (ps : List S104) (q0 i : Int) (hlm : ms.length ≤ 2000000000000) (hl : ps.length ≤ 2000000000000) (hm : varsM ms ≤ 1000000000000) (h : varsP ps ≤ 1000000000000) : Ev (fun k => impl_VarAt.f k ns ms ps q0 i) (varAt ms ps q0 i) := by
  unfold impl_VarAt.f impl_isProcess.f varAt
  rw [wrap_in _ (by omega) (by omega)]
  simp only [within_s, Option.bind_some]
  by_cases h1 : 0 ≤ q0 ∧ q0 ≤ (ps.length : Int) - 1
  · obtain ⟨q, rfl⟩ : ∃ q : Nat, q0 = q := ⟨q0.toNat, by omega⟩
    have h2 : (0 : Int) ≤ q := h1.1
    have h3 : (q : Int) < (ps.length : Int) := by omega
    have h3' : (q : Int) ≤ (ps.length : Int) := by omega
    have hv := varsP_mem ps q (by omega)
    simp only [h1, h2, h3, and_self, decide_true, if_true, true_and]
    by_cases h5 : 0 ≤ i ∧ i ≤ ((rd_T104 ps (q : Int)).f2.length : Int)
    · have hi2 : i ≤ ((ps.getD q z104).f2.length : Int) := h5.2
      have ht : varsP (ps.take q) ≤ varsP ps := total_take _ ps q
      rw [if_pos h5]
      simp only [h5, and_self, decide_true, Bool.not_true]
      refine ev_succ ?_
      simp only [impl_VarAt.j0, Bool.false_eq_true, if_false, Int.toNat_natCast, h2, h3', if_true, Option.bind_some]
      refine Ev.bind (impl_varsM ms hlm (by omega)) ?_
      rw [wrap_in (1 + _) (by omega) (by omega), wrap_in _ (by omega) (by omega)]
      refine ev_eq (impl_var_l0 (ps.take q) _ (by rw [List.length_take]; omega) (by omega) (by omega) (by omega)) (by omega)
    · simp only [h5, decide_false, Bool.not_false, if_false]
      exact ev_now fun k => by simp [impl_VarAt.j0]
  · have h2 : ¬ (0 ≤ q0 ∧ q0 < (ps.length : Int)) := by omega
    simp only [h1, decide_false, Bool.false_eq_true, if_false]
    rw [if_neg (by rintro ⟨a, b, _⟩; exact h2 ⟨a, b⟩)]
    exact ev_now fun k => by simp [impl_VarAt.j0]
/-- Where what a process calls with is. -/
def argAt (ms : List S155) (ps : List S104) (q : Int) : Int := if 0 ≤ q ∧ q < (ps.length : Int) then 1 + varsM ms + varsP (ps.take q.toNat) + ((rd_T104 ps q).f2.length : Int) else -1
theorem varAt_arg (ms : List S155) (ps : List S104) (q : Int) (h : 0 ≤ q ∧ q < (ps.length : Int)) : varAt ms ps q ((rd_T104 ps q).f2.length : Int) = argAt ms ps q := by
  unfold varAt argAt
  rw [if_pos h, if_pos ⟨h.1, h.2, by omega, by omega⟩]
theorem spec_arg (ns : List S159) (ms : List S155) (ps : List S104) (q : Int) (hlm : ms.length ≤ 2000000000000) (hl : ps.length ≤ 2000000000000) (hm : varsM ms ≤ 1000000000000) (h : varsP ps ≤ 1000000000000) : Ev (fun k => spec_ArgAt.f k ns ms ps q) (argAt ms ps q) := by
  unfold spec_ArgAt.f
  rw [wrap_in _ (by omega) (by omega)]
  simp only [l01In_s, Option.bind_some]
  by_cases h1 : 0 ≤ q ∧ q ≤ (ps.length : Int) - 1
  · have h2 : 0 ≤ q := h1.1
    have h3 : q < (ps.length : Int) := by omega
    simp only [h1, and_self, decide_true, if_true, if_pos h2, if_pos h3]
    exact ev_eq (Ev.bind (spec_var ns ms ps q _ hlm hl hm h) (Ev.now _)) (varAt_arg ms ps q ⟨h2, h3⟩)
  · simp only [h1, decide_false, Bool.false_eq_true, if_false]
    refine ev_eq (Ev.now _) ?_
    unfold argAt
    rw [if_neg (by omega)]
theorem impl_arg (ns : List S159) (ms : List S155) (ps : List S104) (q : Int) (hlm : ms.length ≤ 2000000000000) (hl : ps.length ≤ 2000000000000) (hm : varsM ms ≤ 1000000000000) (h : varsP ps ≤ 1000000000000) : Ev (fun k => impl_ArgAt.f k ns ms ps q) (argAt ms ps q) := by
  unfold impl_ArgAt.f impl_isProcess.f
  rw [wrap_in _ (by omega) (by omega)]
  simp only [within_s, Option.bind_some]
  by_cases h1 : 0 ≤ q ∧ q ≤ (ps.length : Int) - 1
  · have h2 : 0 ≤ q := h1.1
    have h3 : q < (ps.length : Int) := by omega
    simp only [h1, and_self, decide_true, if_true, if_pos h2, if_pos h3]
    exact ev_eq (Ev.bind (impl_var ns ms ps q _ hlm hl hm h) (Ev.now _)) (varAt_arg ms ps q ⟨h2, h3⟩)
  · simp only [h1, decide_false, Bool.false_eq_true, if_false]
    refine ev_eq (Ev.now _) ?_
    unfold argAt
    rw [if_neg (by omega)]
theorem argAt_le (ms : List S155) (ps : List S104) (q : Int) (hm : varsM ms ≤ 1000000000000) (h : varsP ps ≤ 1000000000000) : -1 ≤ argAt ms ps q ∧ argAt ms ps q ≤ 4000000000000 := by
  unfold argAt
  split
  · rename_i hq
    obtain ⟨j, rfl⟩ : ∃ j : Nat, q = j := ⟨q.toNat, by omega⟩
    have h1 := varsP_mem ps j (by omega)
    have h2 : varsP (ps.take j) ≤ varsP ps := total_take _ ps j
    have h3 : ((rd_T104 ps (j : Int)).f2.length : Int) = ((ps.getD j z104).f2.length : Int) := rfl
    rw [h3, Int.toNat_natCast]
    omega
  · omega
/-- Where what comes out is. -/
def resultAt (ms : List S155) (ps : List S104) (q : Int) : Int := if argAt ms ps q < 0 then -1 else argAt ms ps q + 1
theorem spec_result (ns : List S159) (ms : List S155) (ps : List S104) (q : Int) (hlm : ms.length ≤ 2000000000000) (hl : ps.length ≤ 2000000000000) (hm : varsM ms ≤ 1000000000000) (h : varsP ps ≤ 1000000000000) : Ev (fun k => spec_ResultAt.f k ns ms ps q) (resultAt ms ps q) := by
  have hb := argAt_le ms ps q hm h
  unfold spec_ResultAt.f resultAt
  refine Ev.bind (spec_arg ns ms ps q hlm hl hm h) ?_
  rw [wrap_in _ (by omega) (by omega)]
  by_cases c : argAt ms ps q < 0
  · simp only [if_pos c]; exact Ev.now _
  · simp only [if_neg c]; exact Ev.now _
theorem impl_result (ns : List S159) (ms : List S155) (ps : List S104) (q : Int) (hlm : ms.length ≤ 2000000000000) (hl : ps.length ≤ 2000000000000) (hm : varsM ms ≤ 1000000000000) (h : varsP ps ≤ 1000000000000) : Ev (fun k => impl_ResultAt.f k ns ms ps q) (resultAt ms ps q) := by
  have hb := argAt_le ms ps q hm h
  unfold impl_ResultAt.f resultAt
  refine Ev.bind (impl_arg ns ms ps q hlm hl hm h) ?_
  rw [wrap_in _ (by omega) (by omega)]
  by_cases c : argAt ms ps q < 0
  · simp only [if_pos c]; exact Ev.now _
  · simp only [if_neg c]; exact Ev.now _
theorem FnExactResultAt : laws_FnExactResultAt.Says := by
  intro ns ms ps q hn hm hp _
  refine Ev.rounds (r := true) ?_
  unfold laws_FnExactResultAt.f
  refine Ev.bind (sz_program ns ms ps hn hm hp) ?_
  by_cases hl : lft 1048576 ((ns.length + total szNode_of ns) + ((ms.length + total szMonitor_of ms) + (ps.length + total szProcess_of ps))) < 0
  · exact ev_pos hl (Ev.now _)
  · refine ev_neg hl ?_
    have hs := small_of hl
    have t := small_to hs
    have h1 := hs.m; have h2 := hs.p
    have v1 := small_varsM hs
    have v2 := small_varsP hs
    have s1 := spec_result (ns.map cvNode) (ms.map cvMonitor) (ps.map cvProcess) q (by rw [List.length_map]; omega) (by rw [List.length_map]; omega) (by omega) (by omega)
    have s2 := impl_result (ns.map cvNode) (ms.map cvMonitor) (ps.map cvProcess) q (by rw [List.length_map]; omega) (by rw [List.length_map]; omega) (by omega) (by omega)
    exact Ev.bind t (Ev.bind s1 (Ev.bind t (Ev.bind s2 (ev_pos rfl (Ev.bind t (Ev.bind (small_eq hs) (ev_pos rfl (Ev.now _))))))))

end Go.Proofs.Ytfecgljlnfoheaa.Pure
