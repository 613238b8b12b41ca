import Derived.Test.YtfoapfilmkapjaaDoorAEqs5
import Derived.Lib.ItoaNum
import Derived.Lib.AppendIntMem
namespace Go.Proofs.YtfoapfilmkapjaaDoor.AI
set_option linter.all false
open Go.RowKit Go.Sort Go.Lib
set_option autoImplicit false
set_option linter.unusedVariables false
set_option linter.unusedSimpArgs false
def decB (n : Int) : ByteArray := ⟨(Lib.itoa n).toArray⟩
def itoaG (args : List AV) (hp : Hp) : Option (AV × Hp) :=
  match args with
  | [.int .i64 n] => if -9223372036854775808 ≤ n ∧ n ≤ 9223372036854775807 then some (.str (decB n), hp) else none
  | _ => none
theorem itoaG_eq {n : Int} {hp : Hp} (h1 : -9223372036854775808 ≤ n) (h2 : n ≤ 9223372036854775807) : itoaG [.int .i64 n] hp = some (.str (decB n), hp) := by
  simp only [itoaG]; rw [if_pos ⟨h1, h2⟩]
variable [Tabs]
theorem adv_grow {RO : Bx} {w : World} {R : Rf} {nx : Nat} {L : Lf} (h : HRel RO w R nx L) (k : Nat) (os : Array Obj) : Adv RO w R nx L (grow (w.drewN k) os) R nx L := by
  have hg : ∀ g, g < w.heap.size → (grow (w.drewN k) os).heap[g]? = w.heap[g]? := fun g hg => heap_grow_old w k os g hg
  have hs : Same RO w (grow (w.drewN k) os) := fun B hB => hg B (h.ro B hB)
  have hsz : w.heap.size ≤ (grow (w.drewN k) os).heap.size := by
    show w.heap.size ≤ (w.heap ++ os).size
    rw [Array.size_append]; exact Nat.le_add_right _ _
  refine ⟨h.world hs hsz ?_, Pres.refl _ _ _, hs, hsz, rfl, rfl, rfl⟩
  intro r p x b o T hr hL i hi
  obtain ⟨bx, k', es⟩ := x
  have hlt := ((h.rows _ _ _ _ _ hr).yes _ _ _ hL).2.1.lt
  have e := hg b hlt
  constructor
  · unfold World.cell?; rw [e]
  · unfold World.frozen?; rw [e]
theorem inl_itoa {P : Program} {f : FuncId} (hE : Enters P f) (hc : ∀ (n : Int) (w : World), (∀ B, Tabs.at_ B → ∃ x, w.heap[B]? = some x ∧ Tabs.ok B x) → -9223372036854775808 ≤ n → n ≤ 9223372036854775807 →
    Calls P f #[.int .i64 n] w fun e w' => e = .returned (.string ⟨(Lib.itoa n).toArray⟩) ∧ ∃ k os, w' = grow (w.drewN k) os) : InlOk P f itoaG := by
  refine ⟨hE, ?_⟩
  intro RO w hp L avs args v hp' h hV hg
  unfold itoaG at hg
  split at hg
  · rename_i n
    split at hg
    · rename_i hn
      simp only [Option.some.injEq, Prod.mk.injEq] at hg
      obtain ⟨rfl, rfl⟩ := hg
      have ha : args = #[.int .i64 n] := by
        obtain ⟨l⟩ := args
        cases l with
        | nil => simp [VL] at hV
        | cons a t =>
          cases t with
          | nil => simp only [VL, V, Rd] at hV; obtain ⟨rfl, _⟩ := hV; rfl
          | cons b t => simp [VL] at hV
      subst ha
      refine Calls.mono (hc n w (fun B hB => (h.tb B hB).2) hn.1 hn.2) ?_
      rintro e w' ⟨rfl, k, os, rfl⟩
      exact ⟨_, L, rfl, adv_grow h k os, by simp only [V, Rd]; rfl⟩
    · cases hg
  · cases hg
end Go.Proofs.YtfoapfilmkapjaaDoor.AI
