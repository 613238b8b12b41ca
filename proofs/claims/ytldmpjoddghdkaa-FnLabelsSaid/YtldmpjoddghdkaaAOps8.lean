import Derived.Test.YtldmpjoddghdkaaAOps7
import Derived.Laws.BytesString
import Derived.Laws.AppendOwn
import Derived.Lib.ConvBytes
namespace Go.Proofs.Ytldmpjoddghdkaa.AI
set_option linter.all false
open Go.RowKit
set_option autoImplicit false
set_option linter.unusedVariables false
set_option linter.unusedSimpArgs false
variable [Tabs]
section
variable {P : Program} {RO : Bx} {nx : Nat} {tm : List (Nat × AV)} {a : Act}
theorem wrap_i64 {n : Int} (h0 : 0 ≤ n) (h1 : n ≤ 70368744177664) : IntKind.i64.wrap n = n := by
  rw [IntKind.wrap_i64]
  omega
theorem cellV_noTree {k : Option Nat} {v : Value} {c : AV} (h : cellV k v = some c) (q : Nat) (es : List (List AV)) : c ≠ .tree q es := by
  unfold cellV at h
  split at h <;> simp at h <;> subst h <;> simp
theorem cellsV_noTree : ∀ {ks : List (Option Nat)} {vs : List Value} {cs : List AV}, cellsV ks vs = some cs → ∀ c ∈ cs, ∀ q es, c ≠ .tree q es
  | [], [], cs, h => by simp [cellsV] at h; subst h; simp
  | k :: ks, v :: vs, cs, h => by
    simp only [cellsV] at h
    split at h
    · rename_i c cs' hc hcs
      simp at h
      subst h
      intro d hd
      rcases List.mem_cons.1 hd with rfl | hd
      · exact cellV_noTree hc
      · exact cellsV_noTree hcs d hd
    · simp at h
  | [], _ :: _, cs, h => by simp [cellsV] at h
  | _ :: _, [], cs, h => by simp [cellsV] at h
theorem zeroV_noTree {t : TypeId} {cs : List AV} (h : (zeroV P t).bind (·.cl) = some cs) : ∀ c ∈ cs, ∀ q es, c ≠ .tree q es := by
  simp only [Option.bind_eq_some_iff] at h
  obtain ⟨v, h1, h2⟩ := h
  unfold zeroV at h1
  simp only [Option.bind_eq_some_iff] at h1
  obtain ⟨z, _, h4⟩ := h1
  unfold constV at h4
  split at h4
  · simp at h4
  · split at h4
    · simp only [Option.map_eq_some_iff] at h4
      obtain ⟨l, h5, rfl⟩ := h4
      simp only [AV.cl, Option.some.injEq] at h2
      subst h2
      exact cellsV_noTree h5
    · split at h4
      · have hn := cellV_noTree h4
        intro c hc q es e
        cases v <;> simp only [AV.cl, Option.some.injEq, reduceCtorEq] at h2 <;> subst h2 <;> first | (simp at hc; subst hc; exact hn q es e) | (unfold cellV at h4; split at h4 <;> simp at h4)
      · simp at h4
theorem d_mk {w : World} {hp : Hp} {L : Lf} (h : HRel RO w (root? hp) hp.length L) (he : EV RO w (root? hp) hp.length L tm a) {o : Oper} {t e : TypeId} {k bb : Nat} {x y : Operand} {x' y' : X} (ho : o.op = .makeSlice t x y) (ht : P.underlying t = some (.slice e)) (hks : size? P e = some k) (hk0 : k ≠ 0)
    (hbb : bytes? P e = some bb) {z : List AV} (hz : zeroE P e = some z) (hzl : z.length = k) (hx : rX0 x = some x') (hy : rX0 y = some y') {l c : Int} (hl : ev tm x' = .int .i64 l) (hc : ev tm y' = .int .i64 c) (h0 : 0 ≤ l) (hlc : l ≤ c) (hb : bb * c ≤ 70368744177664) (hcc : c ≤ 70368744177664) (hok : z.all okZ = true) :
    Does P o a RO w (root? hp) hp.length L (.sl ⟨hp.length, none, 0⟩ k 0 l.toNat) (root? (hp ++ [some ⟨false, 0, k, List.replicate l.toNat z⟩])) (hp ++ [some (Blk.mk false 0 k (List.replicate l.toNat z))]).length := by
  have hV1 := rX0_V he hx
  have hV2 := rX0_V he hy
  rw [hl] at hV1
  rw [hc] at hV2
  have e1 := V_int hV1
  have e2 := V_int hV2
  obtain ⟨zv, hzv, hzs, hzc⟩ : ∃ zv, (P.info? e).bind (·.zero) = some zv ∧ zv.cells.size = k ∧ ∀ j, j < k → ∃ u, zv.cells[j]? = some u ∧ fresh RO w (root? hp) hp.length L false (z.getD j .dead) u := by
    unfold zeroE at hz
    simp only [Option.map_eq_some_iff] at hz
    obtain ⟨cs, h1, h2⟩ := hz
    obtain ⟨zv, h3, h4⟩ := zeroV_cl (RO := RO) (w := w) (R := root? hp) (nx := hp.length) (L := L) h1
    have hlen := VL_len h4
    rw [← h2, List.length_map] at hzl
    refine ⟨zv, h3, by rw [← Array.length_toList, ← hlen, hzl], fun j hj => ?_⟩
    obtain ⟨u, hu, hVu⟩ := VL_get h4 (List.getElem?_eq_getElem (i := j) (by omega))
    refine ⟨u, by simpa using hu, ?_⟩
    have hzj : z.getD j .dead = nil0 (cs[j]'(by omega)) := by
      rw [← h2, List.getD_eq_getElem?_getD, List.getElem?_map, List.getElem?_eq_getElem (by omega)]; rfl
    have hokj : okZ (z.getD j .dead) = true := by
      rw [List.all_eq_true] at hok
      refine hok _ (mem_getD (by rw [← h2]; simp; omega))
    rw [hzj] at hokj ⊢
    have hnt : ∀ q es, cs[j]'(by omega) ≠ .tree q es := zeroV_noTree h1 _ (List.getElem_mem _)
    generalize cs[j]'(by omega) = d at *
    simp only [fresh, Bool.false_eq_true, if_false]
    cases d with
    | nil q => right; left; simp only [V] at hVu; exact ⟨q, rfl, hVu⟩
    | tree q es =>
      cases es with
      | nil => exact absurd rfl (hnt q [])
      | cons e es => simp [nil0, okZ, scal] at hokj
    | bool b => left; exact ⟨rfl, by simpa only [nil0] using hVu⟩
    | int a b => left; exact ⟨rfl, by simpa only [nil0] using hVu⟩
    | str b => left; exact ⟨rfl, by simpa only [nil0] using hVu⟩
    | _ => simp [nil0, okZ, scal] at hokj
  have hl0 : IntKind.i64.wrap l = l := wrap_i64 h0 (by omega)
  have hc0 : IntKind.i64.wrap c = c := wrap_i64 (by omega) hcc
  obtain ⟨inf, hinf, hib⟩ : ∃ i, P.info? e = some i ∧ i.bytes = bb := by simp only [bytes?, Option.map_eq_some_iff] at hbb; exact hbb
  let cells : Array Value := (Array.range (c.toNat * k)).map (fun i => zv.cells[i % zv.cells.size]!)
  have hcs : cells.size = c.toNat * k := by simp [cells]
  have hrun : (execOp a.eval o).run P w = .ok (.value (.slice (some ⟨w.heap.size, 0, none⟩) l.toNat c.toNat)) (w.alloc (.cells cells e)) := by
    have hti : ∀ w : World, (typeInfo e).run P w = .ok inf w := fun w => by simp [typeInfo, hinf]
    have hb1 : ¬ ((inf.bytes : Int) * c > 2 ^ 48) := by
      rw [hib]
      generalize (bb : Int) * c = m at hb ⊢
      have : (2 : Int) ^ 48 = 281474976710656 := by rfl
      omega
    have hc1 : ¬ (c < 0) := by omega
    have hl1 : ¬ (l < 0) := by omega
    have hlc1 : ¬ (l > c) := by omega
    simp only [execOp, ho, Instr.makeSlice, Sem.run_bind, run_under ht, Result.andThen_ok, e1, e2, asInt, asIntOf, Sem.run_pure, hti, hl0, hc0, hb1, hc1, hl1, hlc1, decide_false, Bool.or_false, Bool.false_eq_true, if_false, run_askRoom, run_sizeOf hks]
    by_cases hz0 : c.toNat * k = 0
    · have : cells = #[] := Array.eq_empty_of_size_eq_zero (by rw [hcs, hz0])
      rw [this]
      have h0 : (Array.range 0) = #[] := rfl
      simp [hz0, newRow, h0]
    · simp only [hz0, if_false, Sem.run_bind, run_zero hzv, Result.andThen_ok, Sem.run_pure, newRow, run_newObj, World.alloc_eq]
      rfl
  have hm := h.make e cells ⟨false, 0, k, List.replicate l.toNat z⟩ (by simp [hzl]) (by simp only [List.length_replicate, hcs]; exact Nat.mul_le_mul_right _ (by omega)) (fun i j hi hj => by
    simp only [List.length_replicate] at hi
    have hj : j < k := hj
    obtain ⟨u, hu, hf⟩ := hzc j hj
    have hlt : i * k + j < c.toNat * k := idx_lt (n := c.toNat) (by omega) hj (Nat.le_refl _)
    refine ⟨u, ?_, ?_⟩
    · simp only [cells, Array.getElem?_map, Array.getElem?_range, hlt, if_true, Option.map_some, hzs]
      congr 1
      rw [Nat.mul_comm i k, Nat.mul_add_mod, Nat.mod_eq_of_lt hj]
      have hjz : j < zv.cells.size := by rw [hzs]; exact hj
      rw [getElem!_pos zv.cells j hjz]
      rw [Array.getElem?_eq_getElem hjz] at hu
      exact Option.some.inj hu
    · have : cellAt (List.replicate l.toNat z) i j = z.getD j .dead := by simp [cellAt, List.getD_eq_getElem?_getD, hi]
      rw [this]
      exact hf)
  have hV := V_newsl (RO := RO) (w := w.alloc (.cells cells e)) (R := root? hp) (nx := hp.length) (L := L) (blk := ⟨false, 0, k, List.replicate l.toNat z⟩) rfl (b := w.heap.size) (T := cells.size) (cap := c.toNat) (by simp; omega) (by rw [hcs]; exact Nat.le_refl _)
  simp only [List.length_replicate] at hV
  rw [root_push]
  simp only [List.length_append, List.length_cons, List.length_nil]
  exact ⟨_, _, _, .inl hrun, hm, hV⟩
theorem bytesOf_nums : ∀ {es : List (List AV)} {bs : List UInt8}, bytesOf es = some bs → ∃ ns : List Int, es = ns.map (fun n => [AV.int .u8 n]) ∧ bs = ns.map fun n => UInt8.ofNat n.toNat
  | [], bs, h => by simp only [bytesOf, Option.some.injEq] at h; subst h; exact ⟨[], rfl, rfl⟩
  | [.int .u8 n] :: es, bs, h => by
    simp only [bytesOf, Option.map_eq_some_iff] at h
    obtain ⟨bs', h1, rfl⟩ := h
    obtain ⟨ns, h2, h3⟩ := bytesOf_nums h1
    exact ⟨n :: ns, by simp [h2], by simp [h3]⟩
theorem push_fold : ∀ (ns : List Int) (s : ByteArray), ns.foldl (fun r n => r.push (UInt8.ofNat n.toNat)) s = ⟨s.data ++ (ns.map fun n => UInt8.ofNat n.toNat).toArray⟩
  | [], s => by simp
  | n :: ns, s => by
    simp only [List.foldl_cons, push_fold ns, List.map_cons]
    congr 1
    apply Array.ext'
    show ((s.push _).data ++ _).toList = _
    simp [ByteArray.push]
theorem d_b2s {w : World} {hp : Hp} {L : Lf} (h : HRel RO w (root? hp) nx L) (he : EV RO w (root? hp) nx L tm a) {o : Oper} {s d e : TypeId} {x : Operand} {y : X} (ho : o.op = .convert s d x) (hs : P.underlying s = some (.slice e)) (hd : P.underlying d = some .string) (hu8 : P.underlying e = some (.int .u8))
    (hx : rX P s x = some y) {es : List (List AV)} (hel : elems hp 1 (ev tm y) = some es) {bs : List UInt8} (hb : bytesOf es = some bs) : Does P o a RO w (root? hp) nx L (.str ⟨bs.toArray⟩) (root? hp) nx := by
  have hV := rX_V he hx
  obtain ⟨hsh, A, cap, hx1, hcap, hm⟩ := elems_mem h hel hV
  obtain ⟨ns, hns, rfl⟩ := bytesOf_nums hb
  refine Does.pure h (x := .string ⟨(ns.map fun n => UInt8.ofNat n.toNat).toArray⟩) ?_ (by simp [V, Rd])
  have hr : (Conv.bytesToString (.slice A es.length cap)).run P w = .ok (.string ⟨(ns.map fun n => UInt8.ofNat n.toNat).toArray⟩) w := by
    cases A with
    | none =>
      have hes : es = [] := by
        rcases hm with h1 | ⟨b, o, h1, _⟩
        · exact h1
        · simp at h1
      have : ns = [] := by rw [hes] at hns; simpa using hns.symm
      subst this
      rfl
    | some A =>
      have hl : (loadCells A es.length).run P w = .ok (ns.map (Value.int .u8)).toArray w := by
        rcases hm with h1 | ⟨b, o, h1, h2⟩
        · have : ns = [] := by rw [h1] at hns; simpa using hns.symm
          subst this
          subst h1
          rfl
        · simp only [Option.some.injEq] at h1
          subst h1
          refine loadCells_run (by rw [hns]; simp) (fun j v hv => ?_)
          have hj : j < ns.length := by simpa using (List.getElem?_eq_some_iff.1 hv).1
          obtain ⟨u, hu, hVu⟩ := h2 j 0 (by rw [hns]; simpa using hj) (by omega)
          have hc : cellAt es j 0 = .int .u8 ns[j] := by rw [hns]; simp [cellAt, List.getD_eq_getElem?_getD, hj]
          rw [hc] at hVu
          have := V_int (hVu rfl)
          subst this
          simp only [List.getElem?_map, List.getElem?_eq_getElem hj, Option.map_some, Option.some.injEq] at hv
          rw [← hv]
          simpa using hu
      rw [run_bytesToString w A es.length cap ns hl, push_fold]
      congr 2
      simp
  simp only [execOp, ho, Sem.run_bind, hx1, run_convert_bytes_string w s d e _ _ _ hs hu8 hd, hr, Result.andThen_ok, Sem.run_pure]
theorem d_s2b {w : World} {hp : Hp} {L : Lf} (h : HRel RO w (root? hp) hp.length L) (he : EV RO w (root? hp) hp.length L tm a) {o : Oper} {s d e : TypeId} {x : Operand} {y : X} (ho : o.op = .convert s d x) (hs : P.underlying s = some .string) (hd : P.underlying d = some (.slice e)) (hu8 : P.underlying e = some (.int .u8))
    (hx : rX0 x = some y) {z : ByteArray} (hy : ev tm y = .str z) : Does P o a RO w (root? hp) hp.length L (.sl ⟨hp.length, none, 0⟩ 1 0 z.size) (root? (hp ++ [some ⟨false, 0, 1, byteE z⟩])) (hp ++ [some (Blk.mk false 0 1 (byteE z))]).length := by
  have hV := rX0_V he hx
  rw [hy] at hV
  have hrun : (execOp a.eval o).run P w = .ok (.value (.slice (some ⟨w.heap.size, 0, none⟩) z.size (grownCap w z.size 0 e))) (Lib.bytesWorld w e z) := by
    simp only [execOp, ho, Sem.run_bind, V_str hV, Lib.run_convert_string_bytes w s d e z hs hd hu8, Result.andThen_ok, Sem.run_pure]
  have hl : (byteE z).length = z.size := by simp [byteE]
  have hgc : z.size ≤ grownCap w z.size 0 e := grownCap_ge w z.size 0 e
  have hm := (h.drew).make e (Lib.bytesCells w e z) ⟨false, 0, 1, byteE z⟩ (by simp [byteE]) (by simp [byteE, Lib.bytesCells]) (fun i j hi hj => by
    have hi : i < (byteE z).length := hi
    have hj : j < 1 := hj
    have hj0 : j = 0 := by omega
    subst hj0
    have hi2 : i < z.data.toList.length := by rw [hl] at hi; exact hi
    refine ⟨.int .u8 (z.data.toList[i]).toNat, ?_, ?_⟩
    · have : i < z.data.size := by simpa using hi2
      have hiz : i < z.size := this
      simp [Lib.bytesCells, Array.getElem?_append, hiz]
    · have : cellAt (byteE z) i 0 = .int .u8 (z.data.toList[i]).toNat := by
        simp only [cellAt, byteE, List.getD_eq_getElem?_getD, List.getElem?_map, List.getElem?_eq_getElem hi2, Option.map_some, Option.getD_some]
        rfl
      rw [this]
      simp only [fresh, Bool.false_eq_true, if_false]
      exact .inl ⟨rfl, by simp [V, Rd]⟩)
  have hT : (Lib.bytesCells w e z).size = grownCap w z.size 0 e := by simp [Lib.bytesCells]; omega
  have hsame : Same RO w (Lib.bytesWorld w e z) := fun B hB => Lib.bytesWorld_at_old w e z B (h.ro B hB)
  have hold : ∀ B off, B < w.heap.size → (Lib.bytesWorld w e z).cell? ⟨B, off, none⟩ = w.cell? ⟨B, off, none⟩ ∧ (Lib.bytesWorld w e z).frozen? ⟨B, off, none⟩ = w.frozen? ⟨B, off, none⟩ := by
    intro B off hB
    have := Lib.bytesWorld_at_old w e z B hB
    exact ⟨by simp only [World.cell?, this], by simp only [World.frozen?, this]⟩
  have hrel2 : HRel RO (Lib.bytesWorld w e z) (upd (root? hp) hp.length (some ⟨false, 0, 1, byteE z⟩)) (hp.length + 1) (newL L hp.length (some (w.heap.size, 0, (Lib.bytesCells w e z).size))) := by
    refine hm.rel.world (fun B hB => ?_) (by rw [Lib.bytesWorld_size]; simp) (fun r p x b o T hr hL i hi => ?_)
    · rw [hsame B hB, hm.same B hB]; rfl
    · by_cases hb : b < w.heap.size
      · obtain ⟨g1, g2⟩ := hold b (o + i) hb
        rw [g1, g2]
        exact ⟨(World.cell?_alloc_lt w.drew _ ⟨b, o + i, none⟩ hb).symm, (World.frozen?_alloc_old w.drew _ ⟨b, o + i, none⟩ (Nat.ne_of_lt hb)).symm⟩
      · obtain ⟨bx, k, es⟩ := x
        have hmem := ((hm.rel.rows _ _ _ _ _ hr).yes _ _ _ hL).2.1
        have hlt := hmem.lt
        simp only [World.size_alloc, World.size_drew] at hlt
        have hbe : b = w.heap.size := by omega
        subst hbe
        obtain ⟨u, hu⟩ := hmem.cell i hi
        have hu' : (w.drew.alloc (.cells (Lib.bytesCells w e z) e)).cell? ⟨w.drew.heap.size, o + i, none⟩ = some u := hu
        rw [World.cell?_alloc_new] at hu'
        have hi2 : o + i < (Lib.bytesCells w e z).size := (Array.getElem?_eq_some_iff.1 hu').1
        refine ⟨?_, ?_⟩
        · rw [hu]
          simp only [World.cell?, Lib.bytesWorld_at_new]
          simpa using hu'
        · rw [hmem.free i hi]
          simp only [World.frozen?, Lib.bytesWorld_at_new]
          simp
          omega
  have hV2 := V_newsl (RO := RO) (w := Lib.bytesWorld w e z) (R := root? hp) (nx := hp.length) (L := L) (blk := ⟨false, 0, 1, byteE z⟩) rfl (b := w.heap.size) (T := (Lib.bytesCells w e z).size) (cap := grownCap w z.size 0 e) (by simp only [hl]; exact hgc) (by simp only [Nat.mul_one]; omega)
  simp only [hl] at hV2
  rw [root_push]
  simp only [List.length_append, List.length_cons, List.length_nil]
  refine ⟨_, Lib.bytesWorld w e z, _, .inl hrun, ⟨hrel2, hm.pres, hsame, by rw [Lib.bytesWorld_size]; omega, ?_, ?_, ?_⟩, hV2⟩
  · simp only [Lib.bytesWorld, World.freeze]; split <;> rfl
  · simp only [Lib.bytesWorld, World.freeze]; split <;> rfl
  · simp only [Lib.bytesWorld, World.freeze]; split <;> rfl
end
end Go.Proofs.Ytldmpjoddghdkaa.AI
