import Derived.Test.YtldmpjoddghdkaaAEqs2
namespace Go.Proofs.Ytldmpjoddghdkaa.AI
set_option linter.all false
open Go.RowKit
set_option autoImplicit false
section
variable {hp : Hp} {i g g' k off len : Nat} {es es' : List (List AV)} {rest : List AV} {G : ByV} {v : AV}
def bmF (x : Option (AV × List (List AV))) (i g : Nat) (hp : Hp) : Option (AV × Hp) :=
  match x with
  | some (v, es') => if scal v = true ∧ solid es' = true then some (v, sbV (rt hp i) ⟨i, none, g⟩ 1 (fun _ => es') hp) else none
  | none => none
def bmH (x : Option (AV × List (List AV))) (i u m g : Nat) (hp : Hp) : Option (AV × Hp) :=
  match x with
  | some (v, es') => if scal v = true ∧ flat es' = true then some (v, sbV (rt hp i) ⟨i, some (u, m), g⟩ 0 (fun _ => es') hp) else none
  | none => none
def bm1 (G : ByV) (i g k off len : Nat) (rest : List AV) (hp : Hp) (x : Option (Bool × Nat × List (List AV))) : Option (AV × Hp) :=
  match x with
  | some (false, k', es) => if k' = k ∧ off = 0 ∧ len = es.length ∧ scals rest = true ∧ solid es = true then bmF (G.sem (.tree k es :: rest)) i g hp else none
  | _ => none
def bm2 (G : ByV) (i u m g k off len : Nat) (rest : List AV) (hp : Hp) (x : Option (Bool × Nat × List (List AV))) : Option (AV × Hp) :=
  match x with
  | some (false, k', es) => if k' = k ∧ off = 0 ∧ len = es.length ∧ scals rest = true ∧ flat es = true then bmH (G.sem (.tree k es :: rest)) i u m g hp else none
  | _ => none
theorem byvM_own : byvM G (.sl ⟨i, none, g⟩ k off len :: rest) hp = bm1 G i g k off len rest hp (gbV (rt hp i) ⟨i, none, g⟩) := by
  simp only [byvM, ← getB_eq (r := ⟨i, none, g⟩), bm1, bmF, Option.isSome_none, Bool.false_eq_true, if_false]
  generalize getB (root? hp) ⟨i, none, g⟩ = z
  rcases z with _ | ⟨b, _, _⟩
  · rfl
  · cases b
    · simp only [setB_eq]
      split
      · cases G.sem (.tree k _ :: rest) <;> rfl
      · rfl
    · rfl
theorem byvM_hung {u m : Nat} : byvM G (.sl ⟨i, some (u, m), g⟩ k off len :: rest) hp = bm2 G i u m g k off len rest hp (gbV (rt hp i) ⟨i, some (u, m), g⟩) := by
  simp only [byvM, ← getB_eq (r := ⟨i, some (u, m), g⟩), bm2, bmH, Option.isSome_some, if_true]
  generalize getB (root? hp) ⟨i, some (u, m), g⟩ = z
  rcases z with _ | ⟨b, _, _⟩
  · rfl
  · cases b
    · simp only [setB_eq]
      split
      · cases G.sem (.tree k _ :: rest) <;> rfl
      · rfl
    · rfl
theorem bm1_some : bm1 G i g k off len rest hp (some (false, k, es)) = if off = 0 ∧ len = es.length ∧ scals rest = true ∧ solid es = true then bmF (G.sem (.tree k es :: rest)) i g hp else none := by simp [bm1]
theorem bm2_some {u m : Nat} : bm2 G i u m g k off len rest hp (some (false, k, es)) = if off = 0 ∧ len = es.length ∧ scals rest = true ∧ flat es = true then bmH (G.sem (.tree k es :: rest)) i u m g hp else none := by simp [bm2]
theorem bmF_some : bmF (some (v, es')) i g hp = if scal v = true ∧ solid es' = true then some (v, sbV (rt hp i) ⟨i, none, g⟩ 1 (fun _ => es') hp) else none := rfl
theorem bmH_some {u m : Nat} : bmH (some (v, es')) i u m g hp = if scal v = true ∧ flat es' = true then some (v, sbV (rt hp i) ⟨i, some (u, m), g⟩ 0 (fun _ => es') hp) else none := rfl
theorem setP_none {f : List (List AV) → List (List AV)} : setP es none f = f es := rfl
def setPT (es : List (List AV)) (u m : Nat) (f : List (List AV) → List (List AV)) (c : AV) : List (List AV) := match c with | .tree k es' => setAt es u m (.tree k (f es')) | _ => es
theorem setP_hung {u m : Nat} {f : List (List AV) → List (List AV)} : setP es (some (u, m)) f = setPT es u m f (cellAt es u m) := by
  simp only [setP, setPT]
  cases cellAt es u m <;> rfl
theorem setPT_tree {u m : Nat} {f : List (List AV) → List (List AV)} : setPT es u m f (.tree k es') = es.set u ((es.getD u []).set m (.tree k (f es'))) := rfl
theorem cellAt_eq {u m : Nat} : cellAt es u m = (es.getD u []).getD m .dead := rfl
def finM2 (v : Option AV) (b : Option Blk) : Option (AV × List (List AV)) := match v, b with | some v, some b => some (v, b.es) | _, _ => none
def finM (rs : List RV) (r : Option (Ex × St)) : Option (AV × List (List AV)) :=
  match r with
  | some (.nrm, s) => finM2 (res1 (mapO (resV s) rs)) (rt s.hp 0)
  | some (.ret, s) => finM2 (res1 (mapO (resV s) rs)) (rt s.hp 0)
  | _ => none
theorem finM_nrm {rs : List RV} {s : St} : finM rs (some (.nrm, s)) = finM2 (res1 (mapO (resV s) rs)) (rt s.hp 0) := rfl
theorem finM_ret {rs : List RV} {s : St} : finM rs (some (.ret, s)) = finM2 (res1 (mapO (resV s) rs)) (rt s.hp 0) := rfl
theorem finM_none {rs : List RV} : finM rs none = none := rfl
theorem finM_ite {rs : List RV} {p : Prop} [Decidable p] {x y : Option (Ex × St)} : finM rs (if p then x else y) = if p then finM rs x else finM rs y := by split <;> rfl
theorem finM2_some {x : Bool} : finM2 (some v) (some ⟨x, g, k, es⟩) = some (v, es) := rfl
theorem sem_goM {ctx : Ctx} {F : RF} {m : Nat} {ro : Bool} : semF ctx F (some m) ro (.tree k es :: rest) = if rest.length + 1 = F.nargs then finM F.res (go ctx 1 [.c F.body] ⟨params 0 (.sl ⟨0, none, 0⟩ k 0 es.length :: rest), [some ⟨false, 0, k, es⟩]⟩) else none := by
  unfold semF
  by_cases h : rest.length + 1 = F.nargs
  · simp only [List.length_cons, h, ne_eq, not_true_eq_false, if_false, if_true]
    rw [go_run]
    rcases go ctx 1 [.c F.body] ⟨params 0 (.sl ⟨0, none, 0⟩ k 0 es.length :: rest), [some ⟨false, 0, k, es⟩]⟩ with _ | ⟨e, s⟩
    · rfl
    · cases e
      · simp only [finM, finM2, result_eq, root_rt]
        cases res1 (mapO (resV s) F.res) <;> cases rt s.hp 0 <;> rfl
      · rfl
      · simp only [finM, finM2, result_eq, root_rt]
        cases res1 (mapO (resV s) F.res) <;> cases rt s.hp 0 <;> rfl
  · simp only [List.length_cons, h, ne_eq, not_false_eq_true, if_true, if_false]
theorem bytesOf_nil : bytesOf [] = some [] := rfl
def bytC (n : Int) (x : Option (List UInt8)) : Option (List UInt8) := match x with | some l => some (UInt8.ofNat n.toNat :: l) | none => none
theorem bytesOf_cons {n : Int} : bytesOf ([.int .u8 n] :: es) = bytC n (bytesOf es) := by simp only [bytesOf, bytC]; cases bytesOf es <;> rfl
theorem bytC_some {n : Int} {l : List UInt8} : bytC n (some l) = some (UInt8.ofNat n.toNat :: l) := rfl
def strO (x : Option (List UInt8)) : Option AV := match x with | some l => some (.str ⟨l.toArray⟩) | none => none
theorem b2sV_some : b2sV (some es) = strO (bytesOf es) := by simp only [b2sV, strO]; cases bytesOf es <;> rfl
theorem strO_some {l : List UInt8} : strO (some l) = some (.str ⟨l.toArray⟩) := rfl
end
end Go.Proofs.Ytldmpjoddghdkaa.AI
