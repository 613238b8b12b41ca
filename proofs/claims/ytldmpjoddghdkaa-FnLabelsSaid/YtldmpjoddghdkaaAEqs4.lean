import Derived.Test.YtldmpjoddghdkaaAEqs3
namespace Go.Proofs.Ytldmpjoddghdkaa.AI
set_option linter.all false
open Go.RowKit
set_option autoImplicit false
section
variable {ctx : Ctx} {base : Nat} {K : List Fr} {tm : List (Nat × AV)} {hp hp' : Hp} {d : Option Nat} {ps : List (Nat × Nat)} {ms : List Mark} {os : List (Nat × ROp)} {v : AV} {F G l : List Nat} {r lo hi i j : Nat} {op : RO}
theorem goD_ite {p : Prop} [Decidable p] {x y : Option (AV × Hp × Mark)} : goD ctx base (if p then x else y) d ps os ms K tm = if p then goD ctx base x d ps os ms K tm else goD ctx base y d ps os ms K tm := by split <;> rfl
def sdV (r : Option AV) (hp : Hp) : Option (AV × Hp × Mark) := match r with | some v => some (v, hp, ⟨[], false, hp.length, hp.length, []⟩) | none => none
theorem sdV_some : sdV (some v) hp = some (v, hp, ⟨[], false, hp.length, hp.length, []⟩) := rfl
theorem sdV_none : sdV none hp = none := rfl
theorem sdV_ite {p : Prop} [Decidable p] {x y : Option AV} : sdV (if p then x else y) hp = if p then sdV x hp else sdV y hp := by split <;> rfl
def sd1 (r : Option (AV × Hp)) (hp : Hp) : Option (AV × Hp × Mark) := match r with | some (v, hp') => if hp.length ≤ hp'.length then some (v, hp', ⟨[], true, hp.length, hp'.length, []⟩) else none | none => none
theorem sd1_some : sd1 (some (v, hp')) hp = if hp.length ≤ hp'.length then some (v, hp', ⟨[], true, hp.length, hp'.length, []⟩) else none := rfl
theorem sd1_none : sd1 none hp = none := rfl
theorem sd1_ite {p : Prop} [Decidable p] {x y : Option (AV × Hp)} : sd1 (if p then x else y) hp = if p then sd1 x hp else sd1 y hp := by split <;> rfl
def sdS (F : List Nat) (hp : Hp) (r : Option AV) : Option (AV × Hp × Mark) := match r with | some v => if among F 0 0 (roots v) = true then some (v, hp, ⟨F, false, hp.length, hp.length, []⟩) else none | none => none
theorem sdS_some : sdS F hp (some v) = if among F 0 0 (roots v) = true then some (v, hp, ⟨F, false, hp.length, hp.length, []⟩) else none := rfl
theorem sdS_none : sdS F hp none = none := rfl
theorem sdS_ite {p : Prop} [Decidable p] {x y : Option AV} : sdS F hp (if p then x else y) = if p then sdS F hp x else sdS F hp y := by split <;> rfl
def sdW (F W : List Nat) (t : Bool) (hp : Hp) (r : Option (AV × Hp)) : Option (AV × Hp × Mark) :=
  match r with
  | some (v, hp') => if hp.length ≤ hp'.length ∧ among F hp.length hp'.length (roots v) = true ∧ among F hp.length hp'.length (rootsH F 0 hp') = true ∧ among F hp.length hp'.length (rootsN hp.length hp') = true then some (v, merge F 0 hp hp', ⟨F, t, hp.length, hp'.length, W⟩) else none
  | none => none
theorem sdW_some {W : List Nat} {t : Bool} : sdW F W t hp (some (v, hp')) = if hp.length ≤ hp'.length ∧ among F hp.length hp'.length (roots v) = true ∧ among F hp.length hp'.length (rootsH F 0 hp') = true ∧ among F hp.length hp'.length (rootsN hp.length hp') = true then some (v, merge F 0 hp hp', ⟨F, t, hp.length, hp'.length, W⟩) else none := rfl
theorem sdW_none {W : List Nat} {t : Bool} : sdW F W t hp none = none := rfl
theorem sdW_ite {W : List Nat} {t : Bool} {p : Prop} [Decidable p] {x y : Option (AV × Hp)} : sdW F W t hp (if p then x else y) = if p then sdW F W t hp x else sdW F W t hp y := by split <;> rfl
def wroteV (t : Bool) (W : List Nat) : List Nat := if t = true then W else []
theorem wroteV_t {W : List Nat} : wroteV true W = W := rfl
theorem wroteV_f {W : List Nat} : wroteV false W = [] := rfl
def wrSt (v : AV) (hp : Hp) (F : List Nat) : List Nat := match v with | .ptr r _ _ _ => (match getB (root? hp) r with | some (true, _, _) => [r.root] | _ => F) | _ => F
def wrP (x : Option (Bool × Nat × List (List AV))) (q : Nat) (F : List Nat) : List Nat := match x with | some (true, _, _) => [q] | _ => F
theorem wrSt_ptr {q : BRef} {a b c : Nat} : wrSt (.ptr q a b c) hp F = wrP (gbV (rt hp q.root) q) q.root F := by
  simp only [wrSt, ← getB_eq, wrP]
theorem wrP_box {q k : Nat} {es : List (List AV)} : wrP (some (true, k, es)) q F = [q] := rfl
theorem wrP_row {q k : Nat} {es : List (List AV)} : wrP (some (false, k, es)) q F = F := rfl
def wrO (op : RO) (e : X → AV) (hp : Hp) (F : List Nat) : List Nat := match op with | .st _ x _ => wrSt (e x) hp F | _ => F
theorem wrO_st {n : Nat} {x y : X} {e : X → AV} : wrO (.st n x y) e hp F = wrSt (e x) hp F := rfl
theorem wrO_bsl {xs : List X} {e : X → AV} : wrO (.bsl i xs) e hp F = F := rfl
theorem wrO_app {b : Bool} {n : Nat} {x y : X} {e : X → AV} : wrO (.app b i n x y) e hp F = F := rfl
theorem wrO_call {xs : List X} {e : X → AV} : wrO (.call i xs) e hp F = F := rfl
theorem wrO_callv {x : X} {xs : List X} {e : X → AV} : wrO (.callv x xs) e hp F = F := rfl
theorem wrO_new {cs : List AV} {e : X → AV} : wrO (.new cs) e hp F = F := rfl
theorem wrO_box {x : X} {e : X → AV} : wrO (.box x) e hp F = F := rfl
theorem wrO_mk {z : List AV} {b : Nat} {x y : X} {e : X → AV} : wrO (.mk i z b x y) e hp F = F := rfl
theorem wrO_s2b {x : X} {e : X → AV} : wrO (.s2b x) e hp F = F := rfl
theorem wrote_eq {e : X → AV} : wrote ctx e hp op F = wroteV (turns ctx e op) (wrO op e hp F) := by
  unfold wrote wroteV wrO
  split
  · cases op <;> rfl
  · rfl
theorem stepD_0 : stepD ctx 0 op ⟨tm, hp⟩ = sdV (fst? (stepC ctx (ev tm) hp op)) hp := by
  simp only [stepD]
  rcases stepC ctx (ev tm) hp op with _ | ⟨v, hp'⟩ <;> rfl
theorem stepD_1 : stepD ctx 1 op ⟨tm, hp⟩ = if still op = true then sdV (fst? (stepC ctx (ev tm) hp op)) hp else sd1 (stepC ctx (ev tm) hp op) hp := by
  simp only [stepD]
  rcases stepC ctx (ev tm) hp op with _ | ⟨v, hp'⟩
  · simp only [fst?, sdV, sd1, ite_self]
  · simp only [fst?, sdV, sd1]
def alive (F : List Nat) (hp : Hp) : Bool := F.all fun r => (rt hp r).isSome
theorem alive_nil : alive [] hp = true := rfl
theorem alive_cons : alive (r :: F) hp = ((rt hp r).isSome && alive F hp) := rfl
def sdF (ctx : Ctx) (op : RO) (tm : List (Nat × AV)) (hp : Hp) (F : List Nat) : Option (AV × Hp × Mark) :=
  if among F 0 0 (rootsL ((opnds op).map (ev tm))) = true ∧ among F 0 0 (rootsH F 0 hp) = true ∧ alive F hp = true then
    (if still op = true then sdS F hp (fst? (stepC ctx (ev tm) (mask F 0 hp) op)) else sdW F (wroteV (turns ctx (ev tm) op) (wrO op (ev tm) (mask F 0 hp) F)) (turns ctx (ev tm) op) hp (stepC ctx (ev tm) (mask F 0 hp) op))
  else none
theorem stepD_2 : stepD ctx 2 op ⟨tm, hp⟩ = sdF ctx op tm hp (disc hp 0 200 (rootsL ((opnds op).map (ev tm))) []) := by
  simp only [stepD, sdF]
  generalize disc hp 0 200 (rootsL ((opnds op).map (ev tm))) [] = F
  have h : (F.all fun r => (root? hp r).isSome) = alive F hp := by unfold alive; congr 1; funext r; rw [root_rt]
  rw [h]
  simp only [wrote_eq]
  by_cases hc : among F 0 0 (rootsL ((opnds op).map (ev tm))) = true ∧ among F 0 0 (rootsH F 0 hp) = true ∧ alive F hp = true
  · rw [if_pos hc, if_pos (by simp [hc])]
    rcases stepC ctx (ev tm) (mask F 0 hp) op with _ | ⟨v, hp'⟩
    · simp only [fst?, sdS, sdW, ite_self]
    · simp only [fst?, sdS, sdW]
  · rw [if_neg hc, if_neg (by simpa [and_assoc] using hc)]
theorem sdF_eq : sdF ctx op tm hp F = if among F 0 0 (rootsL ((opnds op).map (ev tm))) = true ∧ among F 0 0 (rootsH F 0 hp) = true ∧ alive F hp = true then
    (if still op = true then sdS F hp (fst? (stepC ctx (ev tm) (mask F 0 hp) op)) else sdW F (wroteV (turns ctx (ev tm) op) (wrO op (ev tm) (mask F 0 hp) F)) (turns ctx (ev tm) op) hp (stepC ctx (ev tm) (mask F 0 hp) op)) else none := rfl
theorem pairOk_nil {m : Mark} : pairOk [] ms j m = true := rfl
def apO (x : Option Mark) (m : Mark) : Bool := match x with | some n => apartM n m | none => false
theorem pairOk_cons {m : Mark} {a b : Nat} : pairOk ((a, b) :: ps) ms j m = ((if b = j then apO ms[a]? m else true) && pairOk ps ms j m) := by
  simp only [pairOk, List.all_cons, apO]
  congr 1
theorem apO_some {m n : Mark} : apO (some n) m = apartM n m := rfl
theorem apartM_mk {W W' : List Nat} {t t' : Bool} {a b a' b' : Nat} : apartM ⟨F, t, a, b, W⟩ ⟨G, t', a', b', W'⟩ = (away W G && away W' F && away W W' && noneIn F a' b' && noneIn G a b && noneIn W a' b' && noneIn W' a b) := rfl
theorem away_nil : away [] G = true := rfl
theorem away_cons : away (r :: F) G = (!has G r && away F G) := rfl
theorem noneIn_nil : noneIn [] lo hi = true := rfl
theorem noneIn_cons : noneIn (r :: F) lo hi = (decide (r < lo ∨ hi ≤ r) && noneIn F lo hi) := rfl
theorem among_nil : among F lo hi [] = true := rfl
theorem among_cons : among F lo hi (r :: l) = ((has F r || decide (lo ≤ r ∧ r < hi)) && among F lo hi l) := rfl
theorem rootsH_nil : rootsH F i [] = [] := rfl
theorem rootsH_cons {b : Option Blk} {bs : Hp} : rootsH F i (b :: bs) = (if has F i = true then rootsB b else []) ++ rootsH F (i + 1) bs := rfl
theorem rootsN_eq : rootsN lo hp = ((hp.drop lo).map rootsB).flatten := rfl
theorem mask_nil : mask F i [] = [] := rfl
theorem mask_cons {b : Option Blk} {bs : Hp} : mask F i (b :: bs) = (if has F i = true then b else none) :: mask F (i + 1) bs := rfl
theorem merge_cons {b b' : Option Blk} {bs bs' : Hp} : merge F i (b :: bs) (b' :: bs') = (if has F i = true then b' else b) :: merge F (i + 1) bs bs' := rfl
theorem merge_nil {bs' : Hp} : merge F i [] bs' = bs' := by cases bs' <;> rfl
theorem turns_new {cs : List AV} {e : X → AV} : turns ctx e (.new cs) = false := rfl
theorem turns_box {x : X} {e : X → AV} : turns ctx e (.box x) = false := rfl
theorem turns_s2b {x : X} {e : X → AV} : turns ctx e (.s2b x) = false := rfl
theorem turns_mk {z : List AV} {b : Nat} {x y : X} {e : X → AV} : turns ctx e (.mk i z b x y) = false := rfl
theorem turns_st {x y : X} {e : X → AV} : turns ctx e (.st i x y) = true := rfl
theorem turns_bsl {xs : List X} {e : X → AV} : turns ctx e (.bsl i xs) = true := rfl
def trA (flt : Bool) (v : AV) : Bool := match v with | .sl .. => true | _ => !flt
theorem turns_app {flt : Bool} {b : Nat} {x y : X} {e : X → AV} : turns ctx e (.app flt i b x y) = trA flt (e x) := by simp only [turns, trA]; cases e x <;> rfl
theorem trA_sl {flt : Bool} {q : BRef} {a b c : Nat} : trA flt (.sl q a b c) = true := rfl
theorem trA_nil {flt : Bool} {a : Nat} : trA flt (.nil a) = !flt := rfl
def trC (c : Option CK) : Bool := match c with | some (.byv F) => F.mt.isSome | _ => true
theorem turns_call {f : Nat} {xs : List X} {e : X → AV} : turns ctx e (.call f xs) = trC (ctx f) := by
  simp only [turns, trC]
  rcases ctx f with _ | c
  · rfl
  · cases c <;> rfl
theorem opnds_ld {b : Bool} {x : X} : opnds (.ld i b x) = [x] := rfl
theorem opnds_st {x y : X} : opnds (.st i x y) = [x, y] := rfl
theorem opnds_bsl {xs : List X} : opnds (.bsl i xs) = xs := rfl
theorem opnds_app {b : Bool} {n : Nat} {x y : X} : opnds (.app b i n x y) = [x, y] := rfl
theorem opnds_new {cs : List AV} : opnds (.new cs) = [] := rfl
theorem opnds_box {x : X} : opnds (.box x) = [x] := rfl
theorem opnds_ia {x y : X} : opnds (.ia i x y) = [x, y] := rfl
theorem opnds_slc {b : Bool} {x : X} {l h : Option X} : opnds (.slc b i x l h) = [x] ++ l.toList ++ h.toList := rfl
theorem opnds_call {xs : List X} : opnds (.call i xs) = xs := rfl
theorem opnds_callv {x : X} {xs : List X} : opnds (.callv x xs) = x :: xs := rfl
theorem opnds_mk {z : List AV} {b : Nat} {x y : X} : opnds (.mk i z b x y) = [x, y] := rfl
theorem opnds_s2b {x : X} : opnds (.s2b x) = [x] := rfl
theorem opnds_b2s {x : X} : opnds (.b2s x) = [x] := rfl
theorem toList_some {x : X} : (some x).toList = [x] := rfl
theorem toList_none : (none : Option X).toList = [] := rfl
end
theorem go_opdP {ctx : Ctx} {base : Nat} {K : List Fr} {tm : List (Nat × AV)} {hp : Hp} {d : Option Nat} {p : Nat × Nat} {ps : List (Nat × Nat)} {ms : List Mark} {os : List (Nat × ROp)} {kd : Nat} {op : RO} : go ctx base (.opd (p :: ps) ((kd, ⟨d, none, op⟩) :: os) ms :: K) ⟨tm, hp⟩ = goD ctx base (stepD ctx kd op ⟨tm, hp⟩) d (p :: ps) os ms K tm := go_opd
theorem goD_someP {ctx : Ctx} {base : Nat} {K : List Fr} {tm : List (Nat × AV)} {hp : Hp} {d : Option Nat} {p : Nat × Nat} {ps : List (Nat × Nat)} {ms : List Mark} {os : List (Nat × ROp)} {v : AV} {m : Mark} : goD ctx base (some (v, hp, m)) d (p :: ps) os ms K tm = if pairOk (p :: ps) ms ms.length m = true then go ctx base (.opd (p :: ps) os (ms ++ [m]) :: K) ⟨put tm d v, hp⟩ else none := rfl
end Go.Proofs.Ytldmpjoddghdkaa.AI
