import Derived.Test.YtldmpjoddghdkaaALoop
import Derived.SizedLaws
import Derived.ChangeSlices
import Derived.WideShapes
namespace Go.Proofs.Ytldmpjoddghdkaa.AI
set_option linter.all false
open Go.RowKit Go.ChangeShapes Go.WideShapes
set_option autoImplicit false
set_option linter.unusedVariables false
set_option linter.unusedSimpArgs false
def Bx.all (w : World) : Bx := ⟨fun B => B < w.heap.size, fun B => B < w.heap.size, fun _ h => h⟩
def RdL (w : World) : List AV → List Value → Prop
  | [], [] => True
  | c :: cs, v :: vs => Rd (Bx.all w) w c v ∧ RdL w cs vs
  | _, _ => False
theorem RdL.append {w : World} : ∀ {cs ds : List AV} {us vs : List Value}, RdL w cs us → RdL w ds vs → RdL w (cs ++ ds) (us ++ vs)
  | [], _, [], _, _, h => h
  | c :: cs, ds, u :: us, vs, h, k => by simp only [RdL] at h; simp only [List.cons_append, RdL]; exact ⟨h.1, RdL.append h.2 k⟩
  | [], _, _ :: _, _, h, _ => by simp [RdL] at h
  | _ :: _, _, [], _, h, _ => by simp [RdL] at h
theorem RdL.length {w : World} : ∀ {cs : List AV} {us : List Value}, RdL w cs us → cs.length = us.length
  | [], [], _ => rfl
  | c :: cs, u :: us, h => by simp only [RdL] at h; simp [RdL.length h.2]
  | [], _ :: _, h => by simp [RdL] at h
  | _ :: _, [], h => by simp [RdL] at h
theorem RdL.get {w : World} : ∀ {cs : List AV} {us : List Value} {j : Nat} {c : AV}, RdL w cs us → cs[j]? = some c → ∃ u, us[j]? = some u ∧ Rd (Bx.all w) w c u
  | [], _, _, _, _, h => by simp at h
  | c :: cs, u :: us, 0, c', hx, h => by simp only [RdL] at hx; simp at h; subst h; exact ⟨u, by simp, hx.1⟩
  | c :: cs, u :: us, j + 1, c', hx, h => by
    simp only [RdL] at hx
    obtain ⟨v, h1, h2⟩ := RdL.get hx.2 (by simpa using h)
    exact ⟨v, by simpa using h1, h2⟩
  | _ :: _, [], _, _, hx, _ => by simp [RdL] at hx
structure Kd (α : Type) where
  sz : Nat
  cl : α → List AV
def Kd.K {α : Type} (d : Kd α) (w : World) (y : α) (cs : List Value) : Prop := cs.length = d.sz ∧ RdL w (d.cl y) cs
def Kd.int (k : IntKind) : Kd Int := ⟨1, fun n => [.int k n]⟩
def Kd.bool : Kd Bool := ⟨1, fun b => [.bool b]⟩
def Kd.string : Kd ByteArray := ⟨1, fun s => [.str s]⟩
def Kd.slice {α : Type} (d : Kd α) : Kd (List α) := ⟨1, fun ys => [.tree d.sz (ys.map d.cl)]⟩
def Kd.pair {α β : Type} (a : Kd α) (b : Kd β) : Kd (α × β) := ⟨a.sz + b.sz, fun y => a.cl y.1 ++ b.cl y.2⟩
def Kd.iso {α β : Type} (d : Kd α) (f : β → α) : Kd β := ⟨d.sz, fun b => d.cl (f b)⟩
def Opens {α : Type} (P : Program) (t : TypeId) (d : Kd α) (G : α → Prop) : Prop :=
  ∀ (H : Type) (enc : TypeId × Value → H) (w : World) (fuel : Nat) (cs : List Value) (x : DataW H × List MemPlace),
    DataW.trod enc P w 0 (fun _ => true) true fuel t cs = some x → (∀ n ∈ x.1.weights P t, n ≤ reachBytes) → ∃ y, d.K w y cs ∧ G y
theorem opens_int {P : Program} {t : TypeId} {k : IntKind} (ht : P.underlying t = some (.int k)) : Opens P t (Kd.int k) (fun n => (Lit.int k n).wf = true) := by
  intro H enc w fuel cs x h _
  obtain ⟨n, rfl, _, hw⟩ := DataW.trod_int ht h
  exact ⟨n, ⟨rfl, by simp [Kd.int, RdL, Rd]⟩, hw⟩
theorem opens_bool {P : Program} {t : TypeId} (ht : P.underlying t = some .bool) : Opens P t Kd.bool (fun _ => True) := by
  intro H enc w fuel cs x h _
  obtain ⟨n, rfl, _⟩ := DataW.trod_bool ht h
  exact ⟨n, ⟨rfl, by simp [Kd.bool, RdL, Rd]⟩, trivial⟩
theorem opens_string {P : Program} {t : TypeId} (ht : P.underlying t = some .string) : Opens P t Kd.string (fun s => s.size ≤ 140737488351232) := by
  intro H enc w fuel cs x h hz
  obtain ⟨n, rfl, rfl, hw⟩ := DataW.trod_string ht h
  refine ⟨n, ⟨rfl, by simp [Kd.string, RdL, Rd]⟩, ?_⟩
  have := hz n.data.toList.length (by simp [DataW.weights])
  simpa [reachBytes] using this
theorem weights_mem_all {H : Type} {P : Program} {e : TypeId} {d : DataW H} : ∀ {ds : List (DataW H)}, d ∈ ds → ∀ n ∈ d.weights P e, n ∈ DataW.weightsAll P e ds
  | [], h, _, _ => by simp at h
  | d0 :: ds, h, n, hn => by
    simp only [DataW.weightsAll, List.mem_append]
    rcases List.mem_cons.1 h with rfl | h
    · exact Or.inl hn
    · exact Or.inr (weights_mem_all h n hn)
theorem chooses {α : Type} {Q : Nat → α → Prop} : ∀ n, (∀ i, i < n → ∃ y, Q i y) → ∃ ys : List α, ys.length = n ∧ ∀ i y, ys[i]? = some y → Q i y
  | 0, _ => ⟨[], rfl, fun i y h => by simp at h⟩
  | n + 1, h => by
    obtain ⟨ys, hl, hq⟩ := chooses n (fun i hi => h i (by omega))
    obtain ⟨y, hy⟩ := h n (by omega)
    refine ⟨ys ++ [y], by simp [hl], fun i z hz => ?_⟩
    rcases Nat.lt_trichotomy i n with hi | hi | hi
    · rw [List.getElem?_append_left (by omega)] at hz
      exact hq i z hz
    · subst hi
      rw [List.getElem?_append_right (by omega), hl] at hz
      simp at hz
      subst hz
      exact hy
    · rw [List.getElem?_eq_none (by simp [hl]; omega)] at hz
      simp at hz
theorem cell_spot {w : World} {a : Addr} {v : Value} (h : w.cell? a = some v) : a.spot = none ∧ a.block < w.heap.size := by
  unfold World.cell? at h
  split at h
  · rename_i c _ _ hh
    split at h
    · simp at h
    · rename_i hs
      refine ⟨by simpa using hs, ?_⟩
      rcases Nat.lt_or_ge a.block w.heap.size with hlt | hge
      · exact hlt
      · rw [Array.getElem?_eq_none hge] at hh; simp at hh
  · simp at h
theorem opens_slice {α : Type} {P : Program} {t e : TypeId} {B : Nat} {d : Kd α} {G : α → Prop} (ht : P.underlying t = some (.slice e)) (hc : P.cellsOf e = d.sz) (hB : P.bytesOf e = B) (h0 : d.sz ≠ 0) (he : Opens P e d G) :
    Opens P t (Kd.slice d) (fun xs => xs.length ≤ maxLen ∧ xs.length * B ≤ 140737488351232 ∧ ∀ x ∈ xs, G x) := by
  intro H enc w fuel cs x h hz
  rcases DataW.trod_slice ht h with ⟨rfl, rfl⟩ | ⟨a, len, cap, elems, rest, n, _, rfl, rfl, hb, hl, hm, hlen, hel, hsp, hns⟩
  · refine ⟨[], ⟨rfl, ?_⟩, by simp, by simp, by simp⟩
    simp only [Kd.slice, List.map_nil, RdL, Rd, and_true]
    exact ⟨none, 0, rfl, Nat.le_refl _, by simp⟩
  · have hw0 := hz ((elems.length + rest.length) * P.bytesOf e) (by simp [DataW.weights, ht])
    have each : ∀ i, i < len → ∃ y : α, (∃ c, c.length = d.sz ∧ d.K w y c ∧ ∀ j u, c[j]? = some u → w.cell? (a.add (i * d.sz + j)) = some u) ∧ G y := by
      intro i hi
      have h1 := hel i hi
      rw [List.getElem?_eq_getElem (by omega)] at h1
      obtain ⟨c, hcs, hy⟩ := Option.bind_eq_some_iff.1 h1
      obtain ⟨_, hcl, hcc⟩ := World.cells?_some hcs
      obtain ⟨y, hK, hG⟩ := he H enc w n c _ hy (fun m hm2 => hz m (by
        simp only [DataW.weights, ht, List.mem_cons, List.mem_append]
        exact Or.inr (Or.inl (weights_mem_all (d := elems[i].1) (List.mem_map.2 ⟨elems[i], List.getElem_mem _, rfl⟩) m hm2))))
      refine ⟨y, ⟨c, by rw [hcl, hc], hK, fun j u hu => ?_⟩, hG⟩
      have hj : j < c.length := (List.getElem?_eq_some_iff.1 hu).1
      have := hcc j (by omega)
      rw [hu] at this
      rw [← this, hc]
      congr 1
      unfold Addr.add
      by_cases h1 : j = 0 <;> by_cases h2 : i * d.sz = 0 <;> simp [h1, h2, Nat.add_assoc]
    obtain ⟨ys, hyl, hys⟩ := chooses len each
    refine ⟨ys, ⟨rfl, ?_⟩, by omega, ?_, fun y hy => ?_⟩
    · simp only [Kd.slice, RdL, Rd, and_true, List.length_map]
      refine ⟨some a, cap, by rw [hyl], by rw [hyl]; exact hl, ?_⟩
      by_cases hn : ys = []
      · left; rw [hn]; rfl
      · right
        have hlen0 : 0 < ys.length := List.length_pos_iff.2 hn
        have hsb : a.spot = none ∧ a.block < w.heap.size := by
          obtain ⟨⟨c, hc1, _, hc3⟩, _⟩ := hys 0 ys[0] (by simp [hlen0])
          have := hc3 0 c[0] (by simp)
          have e : a.add (0 * d.sz + 0) = a := by simp [Addr.add]
          rw [e] at this
          exact cell_spot this
        obtain ⟨ab, ao, as⟩ := a
        obtain ⟨hs, hlt⟩ := hsb
        simp only at hs hlt
        subst hs
        refine ⟨ab, ao, rfl, hlt, RdE.mk _ _ fun i e he => ?_⟩
        rw [List.getElem?_map] at he
        obtain ⟨y, hy, rfl⟩ := Option.map_eq_some_iff.1 he
        obtain ⟨⟨c, hc1, hc2, hc3⟩, _⟩ := hys i y hy
        refine ⟨by rw [hc2.2.length, hc1], RdC.mk _ _ fun j c' hc' => ?_⟩
        obtain ⟨u, hu, hR⟩ := hc2.2.get hc'
        refine ⟨u, ?_, hR⟩
        rw [← hc3 j u hu]
        unfold Addr.add
        by_cases h1 : i * d.sz + j = 0
        · have h2 : i * d.sz = 0 := by omega
          have h3 : j = 0 := by omega
          simp [h2, h3]
        · rw [if_neg h1, Nat.add_assoc]
    · rw [hyl]
      rw [hB] at hw0
      refine Nat.le_trans (Nat.mul_le_mul_right _ ?_) hw0
      omega
    · obtain ⟨j, hj⟩ := List.getElem?_of_mem hy
      exact (hys j y hj).2
def OpensF {α : Type} (P : Program) (fs : List Field) (o : Nat) (d : Kd α) (G : α → Prop) : Prop :=
  ∀ (H : Type) (enc : TypeId × Value → H) (w : World) (n : Nat) (cs : List Value) (xs : List (DataW H × List MemPlace)), cs.length = o + d.sz → xs.length = fs.length →
    (∀ (i : Nat) (f : Field), fs[i]? = some f → DataW.trod enc P w 0 (fun _ => true) true n f.type ((cs.drop f.offset).take (P.cellsOf f.type)) = xs[i]?) →
    (∀ (i : Nat) (f : Field) (x : DataW H × List MemPlace), fs[i]? = some f → xs[i]? = some x → ∀ m ∈ x.1.weights P f.type, m ≤ reachBytes) → ∃ y, d.K w y (cs.drop o) ∧ G y
theorem opensF_one {α : Type} {P : Program} {f : Field} {o : Nat} {d : Kd α} {G : α → Prop} (ho : f.offset = o) (hc : P.cellsOf f.type = d.sz) (h : Opens P f.type d G) : OpensF P [f] o d G := by
  intro H enc w n cs xs hl hx hr hw
  match xs, hx with
  | [x], _ =>
    have h0 := hr 0 f rfl
    rw [ho, hc, List.take_of_length_le (by rw [List.length_drop]; omega)] at h0
    exact h H enc w n _ x h0 (hw 0 f x rfl rfl)
theorem opensF_cons {α β : Type} {P : Program} {f : Field} {fs : List Field} {o : Nat} {a : Kd α} {b : Kd β} {Ga : α → Prop} {Gb : β → Prop} (ho : f.offset = o) (hc : P.cellsOf f.type = a.sz) (h : Opens P f.type a Ga) (hs : OpensF P fs (o + a.sz) b Gb) :
    OpensF P (f :: fs) o (Kd.pair a b) (fun y => Ga y.1 ∧ Gb y.2) := by
  intro H enc w n cs xs hl hx hr hw
  match xs, hx with
  | x :: xs, hx =>
    have hl' : cs.length = o + (a.sz + b.sz) := hl
    have h0 := hr 0 f rfl
    rw [ho, hc] at h0
    obtain ⟨y, hK, hG⟩ := h H enc w n _ x h0 (hw 0 f x rfl rfl)
    obtain ⟨z, hK2, hG2⟩ := hs H enc w n cs xs (by omega) (by simpa using hx) (fun i g hg => hr (i + 1) g hg) (fun i g x' hg hx' => hw (i + 1) g x' hg hx')
    refine ⟨(y, z), ⟨?_, ?_⟩, hG, hG2⟩
    · rw [List.length_drop, hl']; simp only [Kd.pair]; omega
    · have := RdL.append hK.2 hK2.2
      rw [← List.drop_drop, List.take_append_drop] at this
      exact this
theorem opens_struct {α : Type} {P : Program} {t : TypeId} {fs : Array Field} {d : Kd α} {G : α → Prop} (ht : P.underlying t = some (.struct fs)) (hc : P.cellsOf t = d.sz) (h : OpensF P fs.toList 0 d G) : Opens P t d G := by
  intro H enc w fuel cs x hx hz
  obtain ⟨xs, n, _, rfl, hl, hxl, hr⟩ := DataW.trod_struct ht hx
  obtain ⟨y, hK, hG⟩ := h H enc w n cs xs (by omega) (by simpa using hxl) (fun i f hf => hr i f (by simpa using hf)) (fun i f x hf hx' m hm => hz m (by
    simp only [DataW.weights, ht]
    exact DataW.weights_mem_each (j := i) (by simp only [List.getElem?_map, hf, Option.map_some]) (by simp only [List.getElem?_map, hx', Option.map_some]) m hm))
  exact ⟨y, by simpa using hK, hG⟩
theorem opens_iso {α β : Type} {P : Program} {t : TypeId} {d : Kd α} {G : α → Prop} {f : β → α} (g : α → β) (hg : ∀ a, f (g a) = a) (h : Opens P t d G) : Opens P t (Kd.iso d f) (fun b => G (f b)) := by
  intro H enc w fuel cs x hx hz
  obtain ⟨y, hK, hG⟩ := h H enc w fuel cs x hx hz
  exact ⟨g y, by show cs.length = d.sz ∧ RdL w (d.cl (f (g y))) cs; rw [hg]; exact hK, by show G (f (g y)); rw [hg]; exact hG⟩
theorem opens_G {α : Type} {P : Program} {t : TypeId} {d : Kd α} {G G' : α → Prop} (h : Opens P t d G) (hG : ∀ y, G y → G' y) : Opens P t d G' := by
  intro H enc w fuel cs x hx hz
  obtain ⟨y, hK, hy⟩ := h H enc w fuel cs x hx hz
  exact ⟨y, hK, hG y hy⟩
theorem sized_at {H : Type} {P : Program} {ts : List TypeId} {ds : List (DataW H)} (hsz : (DataW.weightsEach P ts ds).all (· ≤ reachBytes) = true) {j : Nat} {t : TypeId} {d : DataW H} (ht : ts[j]? = some t) (hd : ds[j]? = some d) : ∀ n ∈ d.weights P t, n ≤ reachBytes := by
  intro n hn
  have := List.all_eq_true.1 hsz _ (DataW.weights_mem_each ht hd n hn)
  simpa using this
theorem Opens.arg {α : Type} {P : Program} {t : TypeId} {d : Kd α} {G : α → Prop} (op : Opens P t d G) {H : Type} {enc : TypeId × Value → H} {w : World} {v : Value} {x : DataW H} {ps : List MemPlace} (h : DataW.Trod enc P w 0 (fun _ => true) true t v x ps) (hz : ∀ n ∈ x.weights P t, n ≤ reachBytes) : ∃ y, d.K w y v.cells.toList ∧ G y := by
  obtain ⟨fuel, hf⟩ := h
  exact op H enc w fuel _ _ hf hz
end Go.Proofs.Ytldmpjoddghdkaa.AI
