import Derived.Test.YtldmpjoddghdkaaAGo
import Derived.Test.YtldmpjoddghdkaaALaw
namespace Go.Proofs.Ytldmpjoddghdkaa.AI
set_option linter.all false
open Go.RowKit
set_option autoImplicit false
set_option linter.unusedVariables false
set_option linter.unusedSimpArgs false
noncomputable def iterC (ctx : Ctx) (base : Nat) (keep : List Nat) (a : RC) : Nat → St → Option (Ex × St)
  | 0, _ => none
  | n + 1, s =>
    match run ctx base a s with
    | some (.nrm, s') => iterC ctx base keep a n (gc base keep s')
    | r => r
theorem iterN_C {ctx : Ctx} {base : Nat} {keep : List Nat} {a : RC} : ∀ (n : Nat) (s : St), iterN (fun s => run ctx base a (gc base keep s)) n s = iterC ctx base keep a n (gc base keep s)
  | 0, _ => rfl
  | n + 1, s => by
    simp only [iterN, iterC]
    rcases run ctx base a (gc base keep s) with _ | ⟨e, s'⟩
    · rfl
    · cases e with
      | nrm => exact iterN_C n s'
      | _ => rfl
theorem iterC_mono {ctx : Ctx} {base : Nat} {keep : List Nat} {a : RC} : ∀ (n m : Nat) (s : St) (r : Ex × St), iterC ctx base keep a n s = some r → n ≤ m → iterC ctx base keep a m s = some r
  | 0, _, _, _, h, _ => by simp [iterC] at h
  | n + 1, 0, _, _, _, h => by omega
  | n + 1, m + 1, s, r, h, hle => by
    simp only [iterC] at h ⊢
    generalize run ctx base a s = x at h
    rcases x with _ | ⟨e, s'⟩
    · exact h
    · cases e with
      | nrm => exact iterC_mono n m _ r h (by omega)
      | _ => exact h
open Classical in
noncomputable def iterCW (ctx : Ctx) (base : Nat) (keep : List Nat) (a : RC) (s : St) : Option (Ex × St) :=
  if h : ∃ n, (iterC ctx base keep a n s).isSome then iterC ctx base keep a h.choose s else none
theorem iterCW_some {ctx : Ctx} {base : Nat} {keep : List Nat} {a : RC} {n : Nat} {s : St} {r : Ex × St} (h : iterC ctx base keep a n s = some r) : iterCW ctx base keep a s = some r := by
  have hex : ∃ n, (iterC ctx base keep a n s).isSome := ⟨n, by rw [h]; rfl⟩
  unfold iterCW
  rw [dif_pos hex]
  obtain ⟨r', hr⟩ := Option.isSome_iff_exists.1 hex.choose_spec
  rw [hr]
  rcases Nat.le_total hex.choose n with hh | hh
  · have := iterC_mono _ _ _ _ hr hh; rw [h] at this; exact this.symm
  · have := iterC_mono _ _ _ _ h hh; rw [hr] at this; exact this
theorem iterCW_eq {ctx : Ctx} {base : Nat} {keep : List Nat} {a : RC} (s : St) : iterCW ctx base keep a s = match run ctx base a s with | some (.nrm, s') => iterCW ctx base keep a (gc base keep s') | r => r := by
  generalize hr : run ctx base a s = x
  have none_of : (∀ n, iterC ctx base keep a n s = none) → iterCW ctx base keep a s = none := by
    intro h
    unfold iterCW
    rw [dif_neg]
    rintro ⟨n, hn⟩
    rw [h n] at hn; simp at hn
  rcases x with _ | ⟨e, s'⟩
  · refine none_of fun n => ?_
    cases n with
    | zero => rfl
    | succ n => simp only [iterC, hr]
  · cases e with
    | nrm =>
      simp only
      by_cases hex : ∃ n, (iterC ctx base keep a n (gc base keep s')).isSome
      · obtain ⟨n, hn⟩ := hex
        obtain ⟨r, hr'⟩ := Option.isSome_iff_exists.1 hn
        rw [iterCW_some hr']
        exact iterCW_some (n := n + 1) (by simp only [iterC, hr]; exact hr')
      · have h1 : ∀ n, iterC ctx base keep a n (gc base keep s') = none := fun n => by
          cases h : iterC ctx base keep a n (gc base keep s') with
          | none => rfl
          | some r => exact absurd ⟨n, by rw [h]; rfl⟩ hex
        rw [none_of]
        · unfold iterCW; rw [dif_neg hex]
        · intro n
          cases n with
          | zero => rfl
          | succ n => simp only [iterC, hr]; exact h1 n
    | exit i => exact iterCW_some (n := 1) (by simp only [iterC, hr])
    | ret => exact iterCW_some (n := 1) (by simp only [iterC, hr])
noncomputable def loopV (ctx : Ctx) (base : Nat) (keep : List Nat) (keepx : List (Nat × List Nat)) (a : RC) (s : St) : Option (Ex × St) :=
  match iterCW ctx base keep a s with
  | some (e, s') => some (e, gc base (kOf keepx (exN e)) s')
  | none => none
noncomputable def goE (ctx : Ctx) (base : Nat) (r : Option (Ex × St)) (K : List Fr) : Option (Ex × St) :=
  match r with
  | some (.nrm, s) => go ctx base K s
  | some (e, s) => unw ctx base K e s
  | none => none
noncomputable def rnd (ctx : Ctx) (base : Nat) (keep : List Nat) (keepx : List (Nat × List Nat)) (a : RC) (r : Option (Ex × St)) : Option (Ex × St) :=
  match r with
  | some (.nrm, s) => loopV ctx base keep keepx a (gc base keep s)
  | some (e, s) => some (e, gc base (kOf keepx (exN e)) s)
  | none => none
open Classical in
theorem pick_congr {α : Type} (g h : Nat → Option α) (e : ∀ n, g n = h n) : (if x : ∃ n, (g n).isSome then g x.choose else none) = (if x : ∃ n, (h n).isSome then h x.choose else none) := by
  obtain rfl : g = h := funext e
  rfl
section
variable {ctx : Ctx} {base : Nat} {K : List Fr} {s : St} {tm : List (Nat × AV)} {hp : Hp} {keep : List Nat} {keepx : List (Nat × List Nat)} {a : RC}
theorem go_loop : go ctx base (.c (.loop keep keepx a) :: K) s = goE ctx base (loopV ctx base keep keepx a (gc base keep s)) K := by
  have e : iterW (fun s => run ctx base a (gc base keep s)) s = iterCW ctx base keep a (gc base keep s) := by
    unfold iterW iterCW
    exact pick_congr _ _ fun n => iterN_C n s
  simp only [go, run, e, loopV, goE]
  rcases iterCW ctx base keep a (gc base keep s) with _ | ⟨e, s'⟩
  · rfl
  · cases e <;> rfl
theorem loopV_eq (ctx : Ctx) (base : Nat) (keep : List Nat) (keepx : List (Nat × List Nat)) (a : RC) (s : St) : loopV ctx base keep keepx a s = rnd ctx base keep keepx a (go ctx base [.c a] s) := by
  rw [← go_run]
  simp only [loopV, rnd]
  rw [iterCW_eq]
  rcases run ctx base a s with _ | ⟨e, s'⟩
  · rfl
  · cases e <;> rfl
theorem goE_exit {i : Nat} : goE ctx base (some (.exit i, s)) K = unw ctx base K (.exit i) s := rfl
theorem goE_ret : goE ctx base (some (.ret, s)) K = unw ctx base K .ret s := rfl
theorem goE_none : goE ctx base none K = none := rfl
theorem goE_ite {p : Prop} [Decidable p] {x y : Option (Ex × St)} : goE ctx base (if p then x else y) K = if p then goE ctx base x K else goE ctx base y K := by split <;> rfl
theorem rnd_nrm : rnd ctx base keep keepx a (some (.nrm, s)) = loopV ctx base keep keepx a (gc base keep s) := rfl
theorem rnd_exit {i : Nat} : rnd ctx base keep keepx a (some (.exit i, s)) = some (.exit i, gc base (kOf keepx (i + 1)) s) := rfl
theorem rnd_ret : rnd ctx base keep keepx a (some (.ret, s)) = some (.ret, gc base (kOf keepx 0) s) := rfl
theorem rnd_none : rnd ctx base keep keepx a none = none := rfl
theorem rnd_ite {p : Prop} [Decidable p] {x y : Option (Ex × St)} : rnd ctx base keep keepx a (if p then x else y) = if p then rnd ctx base keep keepx a x else rnd ctx base keep keepx a y := by split <;> rfl
end
theorem loop_list {β α : Type} {ctx : Ctx} {base : Nat} {keep : List Nat} {keepx : List (Nat × List Nat)} {body : RC} (xs : List β) (I : Nat → α → Prop) (st : Nat → α → St) (R : List β → α → Option (Ex × St))
    (hnil : ∀ a, I xs.length a → loopV ctx base keep keepx body (st xs.length a) = R [] a)
    (hcons : ∀ i (h : i < xs.length) x rest a, xs[i] = x → xs.drop (i + 1) = rest → I i a → (∀ a', I (i + 1) a' → loopV ctx base keep keepx body (st (i + 1) a') = R rest a') → loopV ctx base keep keepx body (st i a) = R (x :: rest) a)
    (a : α) (h0 : I 0 a) : loopV ctx base keep keepx body (st 0 a) = R xs a := by
  have key : ∀ d i a, i + d = xs.length → I i a → loopV ctx base keep keepx body (st i a) = R (xs.drop i) a := by
    intro d
    induction d with
    | zero =>
      intro i a h hI
      have : i = xs.length := by omega
      subst this
      rw [List.drop_length]; exact hnil a hI
    | succ d ih =>
      intro i a h hI
      have hi : i < xs.length := by omega
      rw [List.drop_eq_getElem_cons hi]
      exact hcons i hi _ _ a rfl rfl hI fun a' h' => ih (i + 1) a' (by omega) h'
  have := key xs.length 0 a (by omega) h0
  simpa using this
section
variable {ctx : Ctx} {base : Nat} {K : List Fr} {s : St} {tm : List (Nat × AV)} {hp : Hp} {d : Option Nat} {ps : List (Nat × Nat)} {ms : List Mark} {os : List (Nat × ROp)}
theorem runRD_ms : ∀ (l : List (Nat × ROp)) (s : St) (ms ms' : List Mark), (runRD ctx [] l s ms).map (·.1) = (runRD ctx [] l s ms').map (·.1)
  | [], _, _, _ => rfl
  | o :: os, s, ms, ms' => by
    simp only [runRD, pairOk, List.all_nil, if_true]
    rcases runOD ctx o.1 o.2 s with _ | ⟨s', m⟩
    · rfl
    · exact runRD_ms os s' _ _
theorem go_ms {l : List (Nat × ROp)} (ms : List Mark) : go ctx base (.opd [] l ms :: K) s = go ctx base (.opd [] l [] :: K) s := by
  simp only [go]
  have := runRD_ms (ctx := ctx) l s ms []
  rcases h1 : runRD ctx [] l s ms with _ | ⟨s1, m1⟩ <;> rcases h2 : runRD ctx [] l s [] with _ | ⟨s2, m2⟩ <;> simp_all
theorem go_opd_nil : go ctx base (.opd ps [] ms :: K) s = go ctx base K s := by simp only [go, runRD]
noncomputable def goD (ctx : Ctx) (base : Nat) (r : Option (AV × Hp × Mark)) (d : Option Nat) (ps : List (Nat × Nat)) (os : List (Nat × ROp)) (ms : List Mark) (K : List Fr) (tm : List (Nat × AV)) : Option (Ex × St) :=
  match r with
  | some (v, hp, m) => if pairOk ps ms ms.length m = true then go ctx base (.opd ps os (ms ++ [m]) :: K) ⟨put tm d v, hp⟩ else none
  | none => none
theorem go_opd {kd : Nat} {op : RO} : go ctx base (.opd ps ((kd, ⟨d, none, op⟩) :: os) ms :: K) ⟨tm, hp⟩ = goD ctx base (stepD ctx kd op ⟨tm, hp⟩) d ps os ms K tm := by
  simp only [go, runRD, runOD, goD]
  rcases stepD ctx kd op ⟨tm, hp⟩ with _ | ⟨v, hp', m⟩
  · rfl
  · simp only []
    by_cases h : pairOk ps ms ms.length m = true <;> simp only [h, if_true, Bool.false_eq_true, if_false, go]
theorem goD_none : goD ctx base none d ps os ms K tm = none := rfl
theorem goD_some {v : AV} {m : Mark} : goD ctx base (some (v, hp, m)) d ps os ms K tm = if pairOk ps ms ms.length m = true then go ctx base (.opd ps os (ms ++ [m]) :: K) ⟨put tm d v, hp⟩ else none := rfl
noncomputable def goDV (ctx : Ctx) (base : Nat) (r : Option AV) (d : Option Nat) (os : List (Nat × ROp)) (K : List Fr) (tm : List (Nat × AV)) (hp : Hp) : Option (Ex × St) :=
  match r with
  | some v => go ctx base (.opd [] os [] :: K) ⟨put tm d v, hp⟩
  | none => none
theorem goDV_some {v : AV} : goDV ctx base (some v) d os K tm hp = go ctx base (.opd [] os [] :: K) ⟨put tm d v, hp⟩ := rfl
theorem goDV_none : goDV ctx base none d os K tm hp = none := rfl
theorem goDV_ite {p : Prop} [Decidable p] {a b : Option AV} : goDV ctx base (if p then a else b) d os K tm hp = if p then goDV ctx base a d os K tm hp else goDV ctx base b d os K tm hp := by split <;> rfl
noncomputable def goDC (ctx : Ctx) (base : Nat) (r : Option (AV × Hp)) (n : Nat) (d : Option Nat) (os : List (Nat × ROp)) (K : List Fr) (tm : List (Nat × AV)) : Option (Ex × St) :=
  match r with
  | some (v, hp) => if n ≤ hp.length then go ctx base (.opd [] os [] :: K) ⟨put tm d v, hp⟩ else none
  | none => none
theorem goDC_some {v : AV} {n : Nat} : goDC ctx base (some (v, hp)) n d os K tm = if n ≤ hp.length then go ctx base (.opd [] os [] :: K) ⟨put tm d v, hp⟩ else none := rfl
theorem goDC_none {n : Nat} : goDC ctx base none n d os K tm = none := rfl
theorem goDC_ite {n : Nat} {p : Prop} [Decidable p] {a b : Option (AV × Hp)} : goDC ctx base (if p then a else b) n d os K tm = if p then goDC ctx base a n d os K tm else goDC ctx base b n d os K tm := by split <;> rfl
def fst? (r : Option (AV × Hp)) : Option AV := match r with | some (v, _) => some v | none => none
theorem fst?_vh {r : Option AV} : fst? (vh r hp) = r := by cases r <;> rfl
theorem fst?_some {v : AV} : fst? (some (v, hp)) = some v := rfl
theorem go_opd0 {op : RO} : go ctx base (.opd [] ((0, ⟨d, none, op⟩) :: os) [] :: K) ⟨tm, hp⟩ = goDV ctx base (fst? (stepC ctx (ev tm) hp op)) d os K tm hp := by
  rw [go_opd]
  simp only [stepD]
  rcases stepC ctx (ev tm) hp op with _ | ⟨v, hp'⟩
  · rfl
  · rw [goD_some]
    simp only [pairOk, List.all_nil, if_true, fst?, goDV]
    rw [go_ms]
theorem go_opd1 {op : RO} : go ctx base (.opd [] ((1, ⟨d, none, op⟩) :: os) [] :: K) ⟨tm, hp⟩ = if still op = true then goDV ctx base (fst? (stepC ctx (ev tm) hp op)) d os K tm hp else goDC ctx base (stepC ctx (ev tm) hp op) hp.length d os K tm := by
  rw [go_opd]
  simp only [stepD]
  rcases stepC ctx (ev tm) hp op with _ | ⟨v, hp'⟩
  · simp only [goD_none, fst?, goDV, goDC, ite_self]
  · simp only [fst?, goDV, goDC]
    by_cases h : still op = true
    · simp only [h, if_true, goD_some, pairOk, List.all_nil]
      rw [go_ms]
    · simp only [h, if_false, Bool.false_eq_true]
      split
      · rw [goD_some]
        simp only [pairOk, List.all_nil, if_true]
        rw [go_ms]
      · rfl
noncomputable def goDG (ctx : Ctx) (base : Nat) (v : AV) (t : Nat) (w : Bool) (kd : Nat) (d : Option Nat) (op : RO) (ps : List (Nat × Nat)) (os : List (Nat × ROp)) (ms : List Mark) (K : List Fr) (tm : List (Nat × AV)) (hp : Hp) : Option (Ex × St) :=
  match v with
  | .bool b => if b = w then go ctx base (.opd ps ((kd, ⟨d, none, op⟩) :: os) ms :: K) ⟨sub1 tm t (.bool w), hp⟩ else goD ctx base (some (.tup [], hp, ⟨[], false, hp.length, hp.length, []⟩)) d ps os ms K (sub1 tm t (.bool (!w)))
  | .tup [] => goD ctx base (some (.tup [], hp, ⟨[], false, hp.length, hp.length, []⟩)) d ps os ms K tm
  | _ => none
theorem go_opd_guard {t : Nat} {w : Bool} {kd : Nat} {op : RO} : go ctx base (.opd ps ((kd, ⟨d, some (t, w), op⟩) :: os) ms :: K) ⟨tm, hp⟩ = goDG ctx base (lk tm t) t w kd d op ps os ms K tm hp := by
  have hskip : ∀ tm, goD ctx base (some (.tup [], hp, ⟨[], false, hp.length, hp.length, []⟩)) d ps os ms K tm = (match (if pairOk ps ms ms.length ⟨[], false, hp.length, hp.length, []⟩ = true then runRD ctx ps os ⟨put tm d (.tup []), hp⟩ (ms ++ [⟨[], false, hp.length, hp.length, []⟩]) else none) with | some (s', _) => go ctx base K s' | none => none) := by
    intro tm
    rw [goD_some]
    by_cases h : pairOk ps ms ms.length ⟨[], false, hp.length, hp.length, []⟩ = true <;> simp only [h, if_true, Bool.false_eq_true, if_false, go]
    rcases runRD ctx ps os _ _ with _ | ⟨_, _⟩ <;> rfl
  generalize hv : lk tm t = v
  unfold goDG
  split
  · rename_i b
    by_cases h : b = w
    · subst h
      rw [if_pos rfl, sub1_lk hv (by simp)]
      simp only [go, runRD, runOD, hv, if_true]
    · have hb : b = !w := by cases b <;> cases w <;> simp_all
      rw [if_neg h, ← hb, sub1_lk hv (by simp), hskip]
      simp only [go, runRD, runOD, hv, if_neg h]
      generalize (if pairOk ps ms ms.length _ = true then runRD ctx ps os _ _ else none) = z
      rcases z with _ | ⟨_, _⟩ <;> rfl
  · rw [hskip]
    simp only [go, runRD, runOD, hv]
    generalize (if pairOk ps ms ms.length _ = true then runRD ctx ps os _ _ else none) = z
    rcases z with _ | ⟨_, _⟩ <;> rfl
  · simp only [go, runRD, runOD, hv]
theorem goDG_bool {t kd : Nat} {w b : Bool} {op : RO} : goDG ctx base (.bool b) t w kd d op ps os ms K tm hp = if b = w then go ctx base (.opd ps ((kd, ⟨d, none, op⟩) :: os) ms :: K) ⟨sub1 tm t (.bool w), hp⟩ else goD ctx base (some (.tup [], hp, ⟨[], false, hp.length, hp.length, []⟩)) d ps os ms K (sub1 tm t (.bool (!w))) := rfl
theorem goDG_tup {t kd : Nat} {w : Bool} {op : RO} : goDG ctx base (.tup []) t w kd d op ps os ms K tm hp = goD ctx base (some (.tup [], hp, ⟨[], false, hp.length, hp.length, []⟩)) d ps os ms K tm := rfl
theorem goD_nil {v : AV} {m : Mark} : goD ctx base (some (v, hp, m)) d [] os [] K tm = go ctx base (.opd [] os [] :: K) ⟨put tm d v, hp⟩ := by
  rw [goD_some]
  simp only [pairOk, List.all_nil, if_true]
  rw [go_ms]
end
def callX (ctx : Ctx) (f : Nat) (args : List AV) (hp : Hp) : Option (AV × Hp) := match ctx f with | some c => callS c args hp | none => none
theorem sc_callX {ctx : Ctx} {tm : List (Nat × AV)} {hp : Hp} {f : Nat} {xs : List X} : stepC ctx (ev tm) hp (.call f xs) = callX ctx f (xs.map (ev tm)) hp := rfl
def callF (ctx : Ctx) (v : AV) (args : List AV) (hp : Hp) : Option (AV × Hp) := match v with | .fn f caps => callX ctx f (args ++ caps) hp | _ => none
theorem sc_callv {ctx : Ctx} {tm : List (Nat × AV)} {hp : Hp} {x : X} {xs : List X} : stepC ctx (ev tm) hp (.callv x xs) = callF ctx (ev tm x) (xs.map (ev tm)) hp := by
  simp only [stepC, callF, callX]
  cases ev tm x <;> rfl
theorem callF_fn {ctx : Ctx} {f : Nat} {caps args : List AV} {hp : Hp} : callF ctx (.fn f caps) args hp = callX ctx f (args ++ caps) hp := rfl
theorem sc_mkf {ctx : Ctx} {tm : List (Nat × AV)} {hp : Hp} {f : Nat} {xs : List X} : stepC ctx (ev tm) hp (.mkf f xs) = some (.fn f (xs.map (ev tm)), hp) := rfl
def cons2 {α : Type} (x : Option α) (xs : Option (List α)) : Option (List α) := match x, xs with | some y, some ys => some (y :: ys) | _, _ => none
theorem mapO_nil {α β : Type} {f : α → Option β} : mapO f [] = some [] := rfl
theorem mapO_cons {α β : Type} {f : α → Option β} {x : α} {xs : List α} : mapO f (x :: xs) = cons2 (f x) (mapO f xs) := by
  simp only [mapO, cons2]
  cases f x <;> cases mapO f xs <;> rfl
theorem cons2_some {α : Type} {y : α} {ys : List α} : cons2 (some y) (some ys) = some (y :: ys) := rfl
def bv2 (r : Option (AV × List (List AV))) (hp : Hp) : Option (AV × Hp) := match r with | none => none | some (v, _) => some (unown v hp)
def bv1 (G : ByV) (ps : Option (List AV)) (hp : Hp) : Option (AV × Hp) := match ps with | none => none | some ps => bv2 (G.sem ps) hp
theorem byvS_eq {G : ByV} {args : List AV} {hp : Hp} : byvS G args hp = bv1 G (mapO (packR 5 hp) args) hp := rfl
theorem bv1_some {G : ByV} {ps : List AV} {hp : Hp} : bv1 G (some ps) hp = bv2 (G.sem ps) hp := rfl
theorem bv2_some {v : AV} {l : List (List AV)} {hp : Hp} : bv2 (some (v, l)) hp = some (unown v hp) := rfl
theorem bv2_none {hp : Hp} : bv2 none hp = none := rfl
theorem bv2_ite {p : Prop} [Decidable p] {a b : Option (AV × List (List AV))} {hp : Hp} : bv2 (if p then a else b) hp = if p then bv2 a hp else bv2 b hp := by split <;> rfl
def res1 (vs : Option (List AV)) : Option AV := match vs with | some [v] => some v | some vs => some (.tup vs) | none => none
theorem result_eq {F : RF} {s : St} : result F s = res1 (mapO (resV s) F.res) := rfl
def handV (v : Option AV) (hp : Hp) : Option (AV × List (List AV)) := match v with | some v => (hand v hp).map fun x => (x.1, []) | none => none
def fin (rs : List RV) (r : Option (Ex × St)) : Option (AV × List (List AV)) :=
  match r with
  | some (.nrm, s) => handV (res1 (mapO (resV s) rs)) s.hp
  | some (.ret, s) => handV (res1 (mapO (resV s) rs)) s.hp
  | _ => none
theorem fin_nrm {rs : List RV} {s : St} : fin rs (some (.nrm, s)) = handV (res1 (mapO (resV s) rs)) s.hp := rfl
theorem fin_ret {rs : List RV} {s : St} : fin rs (some (.ret, s)) = handV (res1 (mapO (resV s) rs)) s.hp := rfl
theorem fin_none {rs : List RV} : fin rs none = none := rfl
theorem fin_ite {rs : List RV} {p : Prop} [Decidable p] {x y : Option (Ex × St)} : fin rs (if p then x else y) = if p then fin rs x else fin rs y := by split <;> rfl
theorem sem_go {ctx : Ctx} {F : RF} {args : List AV} : semF ctx F none false args = if args.length = F.nargs then fin F.res (go ctx 0 [.c F.body] ⟨params 0 args, []⟩) else none := by
  unfold semF
  rw [go_run]
  by_cases h : args.length = F.nargs
  · simp only [h, ne_eq, not_true_eq_false, if_false, if_true]
    rcases go ctx 0 [.c F.body] ⟨params 0 args, []⟩ with _ | ⟨e, s⟩
    · rfl
    · cases e
      · simp only [fin, handV, result_eq]
        cases res1 (mapO (resV s) F.res) <;> rfl
      · rfl
      · simp only [fin, handV, result_eq]
        cases res1 (mapO (resV s) F.res) <;> rfl
  · simp only [h, ne_eq, not_false_eq_true, if_true, if_false]
def gcI (base : Nat) (v : Option AV) (hp : Hp) : Option (AV × Hp) := match v with | some v => (match gcV base [v] hp with | ([v'], hp') => some (v', hp') | _ => none) | none => none
def finI (base : Nat) (rs : List RV) (r : Option (Ex × St)) : Option (AV × Hp) :=
  match r with
  | some (.nrm, s) => gcI base (res1 (mapO (resV s) rs)) s.hp
  | some (.ret, s) => gcI base (res1 (mapO (resV s) rs)) s.hp
  | _ => none
theorem finI_nrm {base : Nat} {rs : List RV} {s : St} : finI base rs (some (.nrm, s)) = gcI base (res1 (mapO (resV s) rs)) s.hp := rfl
theorem finI_ret {base : Nat} {rs : List RV} {s : St} : finI base rs (some (.ret, s)) = gcI base (res1 (mapO (resV s) rs)) s.hp := rfl
theorem finI_none {base : Nat} {rs : List RV} : finI base rs none = none := rfl
theorem finI_ite {base : Nat} {rs : List RV} {p : Prop} [Decidable p] {x y : Option (Ex × St)} : finI base rs (if p then x else y) = if p then finI base rs x else finI base rs y := by split <;> rfl
def gcP (x : List AV × Hp) : Option (AV × Hp) := match x with | ([v'], hp') => some (v', hp') | _ => none
theorem gcI_some {base : Nat} {v : AV} {hp : Hp} : gcI base (some v) hp = gcP (gcV base [v] hp) := rfl
theorem gcP_mk {v : AV} {hp : Hp} : gcP ([v], hp) = some (v, hp) := rfl
theorem run_goF {ctx : Ctx} {F : RF} {args : List AV} {hp : Hp} : runF ctx F args hp = if args.length = F.nargs then finI hp.length F.res (go ctx hp.length [.c F.body] ⟨params 0 args, hp⟩) else none := by
  unfold runF
  rw [go_run]
  by_cases h : args.length = F.nargs
  · simp only [h, if_true]
    rcases go ctx hp.length [.c F.body] ⟨params 0 args, hp⟩ with _ | ⟨e, s⟩
    · rfl
    · cases e
      · simp only [finI, gcI, result_eq]
        cases res1 (mapO (resV s) F.res) <;> rfl
      · rfl
      · simp only [finI, gcI, result_eq]
        cases res1 (mapO (resV s) F.res) <;> rfl
  · simp only [h, if_false]
def tru (rs : List RV) (r : Option (Ex × St)) : Prop :=
  match r with
  | some (.nrm, s) => res1 (mapO (resV s) rs) = some (.bool true)
  | some (.ret, s) => res1 (mapO (resV s) rs) = some (.bool true)
  | _ => False
theorem tru_nrm {rs : List RV} {s : St} : tru rs (some (.nrm, s)) = (res1 (mapO (resV s) rs) = some (.bool true)) := rfl
theorem tru_ret {rs : List RV} {s : St} : tru rs (some (.ret, s)) = (res1 (mapO (resV s) rs) = some (.bool true)) := rfl
theorem tru_ite {rs : List RV} {p : Prop} [Decidable p] {x y : Option (Ex × St)} : tru rs (if p then x else y) = if p then tru rs x else tru rs y := by split <;> rfl
theorem run_of_tru {ctx : Ctx} {F : RF} {avs : List AV} (hn : avs.length = F.nargs) (h : tru F.res (go ctx 0 [.c F.body] ⟨params 0 avs, []⟩)) : ∃ hp', runF ctx F avs [] = some (.bool true, hp') := by
  unfold runF
  rw [if_pos hn, go_run]
  simp only [List.length_nil]
  generalize go ctx 0 [.c F.body] ⟨params 0 avs, []⟩ = r at h
  have key : ∀ s : St, ∃ hp', (match gcV 0 [.bool true] s.hp with | ([v'], hp') => some (v', hp') | _ => none) = some (AV.bool true, hp') := by
    intro s
    exact ⟨(gcV 0 [.bool true] s.hp).2, rfl⟩
  rcases r with _ | ⟨e, s⟩
  · exact h.elim
  · cases e
    · simp only [tru] at h
      simp only [result_eq, h]
      exact key s
    · exact h.elim
    · simp only [tru] at h
      simp only [result_eq, h]
      exact key s
inductive Hol (p : Prop) : Prop
  | mk (h : p) : Hol p
theorem law_tru [Tabs] {P : Program} {ctx : Ctx} (hctx : CtxOk P ctx) {f : FuncId} {fn : Func} {F : RF} {ks : Keeps} (hf : P.funcs[f]? = some fn) (hr : resolveF P fn ks = some F) {w : World} (htb : ∀ B, Tabs.at_ B → ∃ x, w.heap[B]? = some x ∧ Tabs.ok B x) {avs : List AV} {args : Array Value}
    (hV : VL (Bx.all w) w (root? []) ([] : Hp).length (fun _ _ => none) avs args.toList) (hn : avs.length = F.nargs) (h : Hol (tru F.res (go ctx 0 [.c F.body] ⟨params 0 avs, []⟩))) : Calls P f args w (fun e w' => e = .returned (.bool true) ∧ Below w.heap.size w w') := by
  obtain ⟨h⟩ := h
  obtain ⟨hp', hrun⟩ := run_of_tru hn h
  exact law_of hctx hf hr htb hV hrun
end Go.Proofs.Ytldmpjoddghdkaa.AI
