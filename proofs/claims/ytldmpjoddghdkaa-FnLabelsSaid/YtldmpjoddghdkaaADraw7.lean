import Derived.Test.YtldmpjoddghdkaaADraw6
namespace Go.Proofs.Ytldmpjoddghdkaa.AI
set_option linter.all false
open Go.RowKit
set_option autoImplicit false
set_option linter.unusedVariables false
set_option linter.unusedSimpArgs false
variable [Tabs]
def DC (ops : Array Oper) (S : Nat → Bool) : Prop := ∀ (i : Nat) o, ops[i]? = some o → S i = true → ∀ e ∈ o.after, Region.binds .any e = true → S e.on = true
def Goes (ops : Array Oper) (S : Nat → Bool) (j : Nat) : Prop := ∀ o, ops[j]? = some o → ∀ e ∈ o.after, Region.binds .any e = true → S e.on = true
theorem ins_mem : ∀ {ks l : List Nat} {k : Nat}, k ∈ ins ks l → k ∈ ks ∨ k ∈ l
  | [], l, k, h => .inr h
  | x :: ks, l, k, h => by
    simp only [ins] at h
    split at h
    · rcases ins_mem h with h | h
      · exact .inl (by simp [h])
      · exact .inr h
    · rcases ins_mem h with h | h
      · exact .inl (by simp [h])
      · simp only [List.mem_cons] at h
        rcases h with h | h
        · exact .inl (by simp [h])
        · exact .inr h
theorem ahead_mem (acc : List (List Nat)) : ∀ (es : List Edge) (l : List Nat) (k : Nat), k ∈ es.foldl (fun l e => if Region.binds .any e then ins (e.on :: acc.getD e.on []) l else l) l → k ∈ l ∨ ∃ e ∈ es, Region.binds .any e = true ∧ (k = e.on ∨ k ∈ acc.getD e.on [])
  | [], l, k, h => .inl h
  | e :: es, l, k, h => by
    simp only [List.foldl_cons] at h
    rcases ahead_mem acc es _ k h with h1 | ⟨e', h1, h2, h3⟩
    · split at h1
      · rename_i hb
        rcases ins_mem h1 with h1 | h1
        · simp only [List.mem_cons] at h1
          rcases h1 with h1 | h1
          · exact .inr ⟨e, by simp, hb, .inl h1⟩
          · exact .inr ⟨e, by simp, hb, .inr h1⟩
        · exact .inl h1
      · exact .inl h1
    · exact .inr ⟨e', by simp [h1], h2, h3⟩
theorem aheads_good {ops : Array Oper} {S : Nat → Bool} (dc : DC ops S) : ∀ (os : List Oper) (acc : List (List Nat)), (∀ m : Nat, os[m]? = ops[acc.length + m]?) → (∀ j, ∀ k ∈ acc.getD j [], Goes ops S j → S k = true) → ∀ j, ∀ k ∈ (aheads os acc).getD j [], Goes ops S j → S k = true
  | [], acc, _, h => h
  | o :: os, acc, hm, h => by
    simp only [aheads]
    refine aheads_good dc os _ (fun m => ?_) (fun j k hk hg => ?_)
    · rw [List.length_append, List.length_singleton, Nat.add_assoc, Nat.add_comm 1 m]
      exact hm (m + 1)
    · by_cases e : j < acc.length
      · rw [List.getD_eq_getElem?_getD, List.getElem?_append_left e, ← List.getD_eq_getElem?_getD] at hk
        exact h j k hk hg
      · by_cases e2 : j = acc.length
        · subst e2
          rw [List.getD_eq_getElem?_getD, List.getElem?_append_right (Nat.le_refl _)] at hk
          simp only [Nat.sub_self, List.getElem?_cons_zero, Option.getD_some] at hk
          have ho : ops[acc.length]? = some o := by have := hm 0; simpa using this.symm
          rcases ahead_mem acc _ _ k hk with h1 | ⟨e', h1, h2, h3⟩
          · simp at h1
          · have hS := hg o ho e' (by simpa using h1) h2
            rcases h3 with h3 | h3
            · rw [h3]; exact hS
            · exact h e'.on k h3 fun o' ho' e2 he2 hb2 => dc e'.on o' ho' hS e2 he2 hb2
        · rw [List.getD_eq_getElem?_getD, List.getElem?_eq_none (by simp; omega)] at hk
          simp at hk
def left (S : Nat → Bool) : Nat → Nat
  | 0 => 0
  | n + 1 => (if S n then 0 else 1) + left S n
theorem left_congr {S S' : Nat → Bool} : ∀ {n : Nat}, (∀ i, i < n → S i = S' i) → left S n = left S' n
  | 0, _ => rfl
  | n + 1, h => by simp only [left]; rw [h n (by omega), left_congr fun i hi => h i (by omega)]
theorem left_le {S : Nat → Bool} : ∀ (n : Nat), left S n ≤ n
  | 0 => Nat.le_refl _
  | n + 1 => by simp only [left]; have := left_le (S := S) n; split <;> omega
theorem left_add {S : Nat → Bool} {j : Nat} (hj : S j = false) : ∀ {n : Nat}, j < n → left (add S j) n + 1 = left S n
  | 0, h => by omega
  | n + 1, h => by
    simp only [left]
    by_cases e : j = n
    · subst e
      have : left (add S j) j = left S j := left_congr fun i hi => by simp [add]; omega
      rw [this]
      simp [add, hj]
      omega
    · have h1 := left_add hj (n := n) (by omega)
      have h2 : add S j n = S n := by simp [add]; omega
      rw [h2]
      omega
theorem left_zero {S : Nat → Bool} : ∀ {n : Nat}, left S n = 0 → ∀ i, i < n → S i = true
  | 0, _, i, hi => by omega
  | n + 1, h, i, hi => by
    simp only [left] at h
    by_cases e : i = n
    · subst e
      cases hS : S i
      · rw [hS] at h; simp at h
      · rfl
    · exact left_zero (n := n) (by omega) i (by omega)
section
variable {P : Program} {ctx : Ctx} {N : Nat} {ops : Array Oper} {rs : List (Nat × ROp)} {pairs : List (Nat × Nat)} {st : Nat → St} {mk : Nat → Mark}
variable {RO : Bx} {w0 : World} {R0 : Rf} {base : Nat} {L0 : Lf}
theorem InvS.all (C : Canon P ctx N ops rs (aheads ops.toList []) pairs st mk) {S : Nat → Bool} (hS : ∀ i, i < rs.length → S i = true) {a : Act} {w : World} {L : Lf} (hi : InvS RO w0 R0 base L0 N rs st mk S a w L) : Inv RO w0 R0 base L0 N (st rs.length) a w L := by
  have hR : RS rs st mk S = root? (st rs.length).hp := funext fun q => by
    rw [← RS_can C (Nat.le_refl _) q]
    unfold RS
    rw [show lastW S (Wr rs mk q) rs.length = lastW (fun i => decide (i < rs.length)) (Wr rs mk q) rs.length from last_congr fun i hi => by simp [hS i hi, hi]]
  have hT : ∀ t, TS rs st S t = lk (st rs.length).tm t := fun t => by
    rw [← TS_can C (Nat.le_refl _) t]
    unfold TS
    rw [show lastW S (Dr rs t) rs.length = lastW (fun i => decide (i < rs.length)) (Dr rs t) rs.length from last_congr fun i hi => by simp [hS i hi, hi]]
  refine ⟨hR ▸ hi.rel, hR ▸ hi.pres, hi.same, hi.size, hi.os, hi.tape, hi.output, fun t => ?_, hi.tmps, hi.defers⟩
  have := hi.ev t
  rw [hR, hT] at this
  exact this
theorem InvS.congr {S S' : Nat → Bool} (h : ∀ i, i < rs.length → S i = S' i) {a : Act} {w : World} {L : Lf} (hi : InvS RO w0 R0 base L0 N rs st mk S a w L) : InvS RO w0 R0 base L0 N rs st mk S' a w L := by
  have hR : RS rs st mk S = RS rs st mk S' := funext fun q => by
    unfold RS; rw [last_congr fun i hi => by rw [h i hi]]
  have hT : TS rs st S = TS rs st S' := funext fun q => by
    unfold TS; rw [last_congr fun i hi => by rw [h i hi]]
  have hK : ∀ q, Kn rs st mk S q → Kn rs st mk S' q := by
    rintro q (hq | ⟨i, h1, h2, h3⟩)
    · exact .inl hq
    · exact .inr ⟨i, h1, by rw [← h i h1]; exact h2, h3⟩
  refine ⟨hR ▸ hi.rel, hR ▸ hi.pres, hi.same, hi.size, hi.os, hi.tape, hi.output, fun t => ?_, fun t q hq => ?_, fun r b hb => ?_, hi.tmps, hi.defers⟩
  · have := hi.ev t; rw [hR, hT] at this; exact this
  · rw [← hT] at hq; exact hK q (hi.knT t q hq)
  · rw [← hR] at hb
    obtain ⟨e1, e2⟩ := hi.knB r b hb
    exact ⟨hK _ e1, fun q hq => hK q (e2 q hq)⟩
theorem drawAny (hctx : CtxOk P ctx) (C : Canon P ctx N ops rs (aheads ops.toList []) pairs st mk) (hbase : base ≤ (st 0).hp.length) (hback : backOk ops = true) {Q : Exit → Act → World → Prop}
    (hQ : ∀ a w L, Inv RO w0 R0 base L0 N (st rs.length) a w L → Q .normal a w) : ∀ (fuel : Nat) (listed : Array Bool) (a : Act) (w : World) (L : Lf), listed.size = ops.size → left (fun i => listed.getD i true) ops.size ≤ fuel → DC ops (fun i => listed.getD i true) →
      InvS RO w0 R0 base L0 N rs st mk (fun i => listed.getD i true) a w L → wpAny P .any ops Q fuel listed a w := by
  have hdone : ∀ (listed : Array Bool), listed.size = ops.size → Region.ready .any ops listed = [] → ∀ i, i < ops.size → listed.getD i true = true := by
    intro listed hsz hr i
    induction i using Nat.strongRecOn with
    | _ i ih =>
      intro hi
      cases hS : listed.getD i true
      · exfalso
        have hm : i ∈ Region.ready .any ops listed := by
          rw [mem_ready]
          refine ⟨hS, ops[i], by simp [hi], fun e he hb => ?_⟩
          simp only [backOk, List.all_eq_true, List.mem_range] at hback
          have h1 := hback i hi
          simp only [hi, getElem?_pos] at h1
          have h2 : e.on < i := by
            rw [List.all_eq_true] at h1
            have h2 := h1 e (by simpa using he)
            simpa [hb] using h2
          have h3 := ih e.on h2 (by omega)
          have h4 : e.on < listed.size := by omega
          simpa [Array.getD, h4] using h3
        rw [hr] at hm
        simp at hm
      · rfl
  intro fuel
  induction fuel with
  | zero =>
    intro listed a w L hsz hl dc hi
    have hall := left_zero (Nat.le_zero.1 hl)
    refine ⟨?_, hQ a w L (hi.all C fun i hh => hall i (by rw [← C.len]; exact hh))⟩
    apply List.eq_nil_iff_forall_not_mem.2
    intro j hj
    rw [mem_ready] at hj
    obtain ⟨h1, o, h2, _⟩ := hj
    have := hall j (Array.getElem?_eq_some_iff.1 h2).1
    rw [h1] at this; simp at this
  | succ fuel ih =>
    intro listed a w L hsz hl dc hi
    refine ⟨fun hr => hQ a w L (hi.all C fun i hh => hdone listed hsz hr i (by rw [← C.len]; exact hh)), fun j hj => ?_⟩
    rw [mem_ready] at hj
    obtain ⟨h1, o, h2, h3⟩ := hj
    have hjs : j < ops.size := (Array.getElem?_eq_some_iff.1 h2).1
    have hgo : Goes ops (fun i => listed.getD i true) j := by
      intro o' ho' e he hb
      rw [h2] at ho'
      simp only [Option.some.injEq] at ho'
      subst ho'
      have := h3 e he hb
      have hlt : e.on < listed.size := by
        rcases Nat.lt_or_ge e.on listed.size with h | h
        · exact h
        · simp [Array.getD, Nat.not_lt.2 h] at this
      simpa [Array.getD, hlt] using this
    have hgood := aheads_good dc ops.toList [] (fun m => by simp) (fun j k hk => by simp at hk)
    have hready : Ready rs.length (aheads ops.toList []) (fun i => listed.getD i true) j := by
      refine ⟨by rw [C.len]; exact hjs, h1, fun k hk => hgood j k hk hgo, fun i hii hS k hk => hgood i k hk fun o' ho' e he hb => dc i o' ho' hS e he hb⟩
    refine drawO_sound hctx C hbase hready hi (fun a' w' L' hi' => ?_)
    have hset : ∀ i, i < ops.size → (listed.setIfInBounds j true).getD i true = add (fun i => listed.getD i true) j i := by
      intro i hii
      unfold add
      by_cases e : i = j
      · subst e; simp [Array.getD, hsz, hii]
      · rw [Go.getD_set_ne true (Ne.symm e)]; simp [e]
    refine ih (listed.setIfInBounds j true) a' w' L' (by simp [hsz]) ?_ ?_ (hi'.congr fun i hii => (hset i (by rw [← C.len]; exact hii)).symm)
    · have h4 := left_add (S := fun i => listed.getD i true) h1 hjs
      rw [left_congr hset]
      omega
    · intro i o' ho' hS e he hb
      have hii : i < ops.size := (Array.getElem?_eq_some_iff.1 ho').1
      have hon : ∀ k, listed.getD k true = true → (listed.setIfInBounds j true).getD k true = true := by
        intro k hk
        by_cases e : j = k
        · subst e; simp [Array.getD, hsz, hjs]
        · rw [Go.getD_set_ne true e]; exact hk
      by_cases e2 : i = j
      · subst e2
        exact hon _ (hgo o' ho' e he hb)
      · have hS2 : (listed.setIfInBounds j true).getD i true = true := hS
        rw [Go.getD_set_ne true (Ne.symm e2)] at hS2
        exact hon _ (dc i o' ho' hS2 e he hb)
theorem runRD_canon {pairs : List (Nat × Nat)} : ∀ (os : List (Nat × ROp)) (s s' : St) (ms ms' : List Mark), runRD ctx pairs os s ms = some (s', ms') →
    ∃ (st : Nat → St) (mk : Nat → Mark), st 0 = s ∧ st os.length = s' ∧ (∀ (j : Nat) r, os[j]? = some r → runOD ctx r.1 r.2 (st j) = some (st (j + 1), mk j)) ∧
      (∀ j, j < os.length → ∀ p ∈ pairs, p.2 = ms.length + j → ∃ n, (ms ++ (List.range j).map mk)[p.1]? = some n ∧ apartM n (mk j) = true)
  | [], s, s', ms, ms', h => by
    simp only [runRD, Option.some.injEq, Prod.mk.injEq] at h
    obtain ⟨rfl, rfl⟩ := h
    exact ⟨fun _ => s, fun _ => ⟨[], false, 0, 0, []⟩, rfl, rfl, fun j r hj => by simp at hj, fun j hj => by simp at hj⟩
  | o :: os, s, s', ms, ms', h => by
    simp only [runRD] at h
    split at h
    · rename_i s1 m h1
      split at h
      · rename_i hp
        obtain ⟨st, mk, e1, e2, e3, e4⟩ := runRD_canon os s1 s' (ms ++ [m]) ms' h
        refine ⟨fun j => match j with | 0 => s | j + 1 => st j, fun j => match j with | 0 => m | j + 1 => mk j, rfl, by simpa using e2, fun j r hj => ?_, fun j hj p hpm hpe => ?_⟩
        · cases j with
          | zero => simp at hj; subst hj; simp only [e1]; exact h1
          | succ j => exact e3 j r (by simpa using hj)
        · cases j with
          | zero =>
            have := List.all_eq_true.1 hp p hpm
            simp only [Nat.add_zero] at hpe
            rw [if_pos hpe] at this
            split at this
            · rename_i n hn; exact ⟨n, by simpa using hn, this⟩
            · simp at this
          | succ j =>
            obtain ⟨n, h5, h6⟩ := e4 j (by simpa using hj) p hpm (by simp; omega)
            refine ⟨n, ?_, h6⟩
            rw [← h5]
            congr 1
            rw [List.append_assoc]
            congr 1
            rw [List.range_succ_eq_map]
            simp [List.map_map]
      · simp at h
    · simp at h
theorem kinds_get (pairs : List (Nat × Nat)) : ∀ (rs : List ROp) (i j : Nat), (kinds pairs i rs)[j]? = (rs[j]?).map fun r => (kindOf' pairs (i + j) r, r)
  | [], i, j => by simp [kinds]
  | r :: rs, i, 0 => by simp [kinds]
  | r :: rs, i, j + 1 => by
    simp only [kinds, List.getElem?_cons_succ]
    rw [kinds_get pairs rs (i + 1) j, show i + 1 + j = i + (j + 1) by omega]
theorem kinds_length (pairs : List (Nat × Nat)) : ∀ (rs : List ROp) (i : Nat), (kinds pairs i rs).length = rs.length
  | [], i => by simp [kinds]
  | r :: rs, i => by simp [kinds, kinds_length pairs rs (i + 1)]
theorem kinds_some {pairs : List (Nat × Nat)} {rs : List ROp} {j : Nat} {r : Nat × ROp} (h : (kinds pairs 0 rs)[j]? = some r) : rs[j]? = some r.2 ∧ r.1 = kindOf' pairs j r.2 := by
  rw [kinds_get] at h
  simp only [Option.map_eq_some_iff, Nat.zero_add] at h
  obtain ⟨a, h1, rfl⟩ := h
  exact ⟨h1, rfl⟩
theorem runRD_sound (hctx : CtxOk P ctx) {id : Nat} {rs : List ROp} (hrs : resolveL P N ops ops.toList = some rs) (hback : backOk ops = true) (hord : orderOk rs (aheads ops.toList []) pairs = true) (hmix : P.follows .mixedOrders = true) (hcon : rs.all constsOk = true)
    {s s' : St} {ms : List Mark} {a : Act} {w : World} {L : Lf} (hi : Inv RO w0 R0 base L0 N s a w L) (hs : runRD ctx pairs (kinds pairs 0 rs) s [] = some (s', ms)) {Q : Exit → Act → World → Prop} (hQ : ∀ a w L, Inv RO w0 R0 base L0 N s' a w L → Q .normal a w) : (Code.region id ops true).wp P Q a w := by
  obtain ⟨st, mk, e1, e2, e3, e4⟩ := runRD_canon _ _ _ _ _ hs
  obtain ⟨hlen, hget⟩ := resolveL_get hrs
  have C : Canon P ctx N ops (kinds pairs 0 rs) (aheads ops.toList []) pairs st mk := by
    refine ⟨by rw [kinds_length, ← hlen]; simp, fun j o ho => ?_, e3, fun j r hj => (kinds_some hj).2, fun i j ri rj hij hri hrj => ?_, fun j r hj => ?_⟩
    · obtain ⟨r, h1, h2⟩ := hget j o (by simpa using ho)
      exact ⟨(kindOf' pairs j r, r), by rw [kinds_get, h1]; simp, h2⟩
    · have hr1 := (kinds_some hri).1
      have hr2 := (kinds_some hrj).1
      have hjl : j < rs.length := (List.getElem?_eq_some_iff.1 hr2).1
      simp only [orderOk, List.all_eq_true, List.mem_range] at hord
      have h1 := hord j hjl i hij
      simp only [hr1, hr2, Bool.or_eq_true, Bool.and_eq_true, Bool.not_eq_true'] at h1
      rcases h1 with h1 | ⟨h1, h2⟩
      · exact .inl (has_iff.1 h1)
      · refine .inr ⟨h1, ?_⟩
        rcases h2 with h2 | h2
        · exact .inl h2
        · right
          simp only [List.any_eq_true, Bool.and_eq_true, beq_iff_eq] at h2
          obtain ⟨p, hp, h3, h4⟩ := h2
          have hpe : p = (i, j) := by cases p; simp_all
          subst hpe
          refine ⟨hp, ?_⟩
          obtain ⟨n, h5, h6⟩ := e4 j (by rw [kinds_length]; exact hjl) (i, j) hp (by simp)
          simp only [List.nil_append, List.getElem?_map, List.getElem?_range hij, Option.map_some, Option.some.injEq] at h5
          rw [h5]; exact h6
    · exact List.all_eq_true.1 hcon r.2 (List.mem_of_getElem? (kinds_some hj).1)
  refine wp_region_any hmix ?_
  have hheap : ∀ B : Nat, ({ w with drawn := w.drawn + 1 } : World).heap[B]? = w.heap[B]? := fun B => rfl
  have hsame : Same RO w { w with drawn := w.drawn + 1 } := fun B _ => rfl
  subst e1
  have hrel : HRel RO { w with drawn := w.drawn + 1 } (root? (st 0).hp) (st 0).hp.length L := hi.rel.world hsame (Nat.le_refl _) fun r p x b o T _ _ i _ => ⟨cell_of (hheap b), frozen_of (hheap b)⟩
  have hS0 : ∀ (S : Nat → Bool), (∀ i, i < (kinds pairs 0 rs).length → S i = false) → RS (kinds pairs 0 rs) st mk S = root? (st 0).hp ∧ ∀ t, TS (kinds pairs 0 rs) st S t = lk (st 0).tm t := by
    intro S hS
    refine ⟨funext fun q => ?_, fun t => ?_⟩
    · rw [← RS_can C (j := 0) (by omega) q]
      unfold RS
      rw [show lastW S (Wr (kinds pairs 0 rs) mk q) (kinds pairs 0 rs).length = lastW (fun i => decide (i < 0)) (Wr (kinds pairs 0 rs) mk q) (kinds pairs 0 rs).length from last_congr fun i hi => by simp [hS i hi]]
    · rw [← TS_can C (j := 0) (by omega) t]
      unfold TS
      rw [show lastW S (Dr (kinds pairs 0 rs) t) (kinds pairs 0 rs).length = lastW (fun i => decide (i < 0)) (Dr (kinds pairs 0 rs) t) (kinds pairs 0 rs).length from last_congr fun i hi => by simp [hS i hi]]
  have hSf : ∀ i, i < ops.size → (Array.replicate ops.size false).getD i true = false := fun i hi => by simp [Array.getD, hi]
  obtain ⟨hR, hT⟩ := hS0 (fun i => (Array.replicate ops.size false).getD i true) fun i hi => hSf i (by rw [← C.len]; exact hi)
  have hmono := C.mono (i := 0) (j := (kinds pairs 0 rs).length) (by omega) (Nat.le_refl _)
  have hdomV : ∀ (v : AV) (x : Value), V RO w (root? (st 0).hp) (st 0).hp.length L v x → V RO { w with drawn := w.drawn + 1 } (root? (st 0).hp) (st (kinds pairs 0 rs).length).hp.length L v x := fun v x hv =>
    V_on hsame v x (fun q hq => OkRoot.of_eq (Nat.lt_of_lt_of_le (V_roots _ _ hv q hq) hmono) rfl fun _ => rfl) hv
  refine drawAny hctx C hi.pres.le hback (Q := Q) (fun a w L hh => hQ a w L (by rw [← e2]; exact hh)) ops.size _ a _ L (by simp) (left_le _) ?_ ?_
  · intro i o ho hS
    have := hSf i (Array.getElem?_eq_some_iff.1 ho).1
    simp only at hS
    rw [this] at hS; simp at hS
  · refine ⟨?_, ?_, hi.same.trans hsame, hi.size, hi.os, hi.tape, hi.output, fun t => ?_, fun t q hq => ?_, fun r b hb => ?_, hi.tmps, hi.defers⟩
    · rw [hR]
      refine ⟨fun r b hb => Nat.lt_of_lt_of_le (hrel.dom r b hb) hmono, fun r p bx k es hr => ?_, hrel.inj, hrel.ro, hrel.tb⟩
      have h0 := hrel.rows r p bx k es hr
      refine ⟨h0.shape, h0.cells, h0.no, fun b o T hL => ?_⟩
      obtain ⟨k1, k2, k3, k4⟩ := h0.yes b o T hL
      refine ⟨k1, k2, k3, fun i j hi' hj => ?_⟩
      obtain ⟨v, k5, k6⟩ := k4 i j hi' hj
      refine ⟨v, k5, ?_⟩
      generalize cellAt es i j = c at k6
      have go : V RO { w with drawn := w.drawn + 1 } (root? (st 0).hp) (st 0).hp.length L c v → V RO { w with drawn := w.drawn + 1 } (root? (st 0).hp) (st (kinds pairs 0 rs).length).hp.length L c v := fun hv =>
        V_on (Same.refl _ _) c v (fun q hq => OkRoot.of_eq (Nat.lt_of_lt_of_le (V_roots _ _ hv q hq) hmono) rfl fun _ => rfl) hv
      unfold Cl at k6 ⊢
      split
      · exact k6
      · rename_i hne
        split at k6
        · exact absurd rfl (hne _ _ rfl)
        · exact go k6
    · rw [hR]
      exact hi.pres.step (Nat.le_trans hi.pres.le hmono) fun r hr => OkRoot.of_eq (Nat.lt_of_lt_of_le hr (Nat.le_trans hi.pres.le hmono)) rfl fun _ => rfl
    · rw [hR, hT]
      exact hdomV _ _ (hi.ev t)
    · rw [hT] at hq
      exact .inl (V_roots _ _ (hi.ev t) q hq)
    · rw [hR] at hb
      exact ⟨.inl (root_lt hb), fun q hq => .inl (hi.rel.rootsB_lt hb hq)⟩
end
end Go.Proofs.Ytldmpjoddghdkaa.AI
