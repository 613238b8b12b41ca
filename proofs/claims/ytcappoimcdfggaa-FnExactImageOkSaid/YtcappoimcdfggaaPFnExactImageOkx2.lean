-- PRINTED by print.py (a twelfth state) out of the translation. Not trusted: Lean checks it.
import Derived.Test.YtcappoimcdfggaaPFnExactImageOkx0
import Derived.Test.YtcappoimcdfggaaPFnExactImageOkx1
namespace Go.Proofs.Ytcappoimcdfggaa.PFnExactImageOk
open Go.RowKit Go.Proofs.YtcappoimcdfggaaW.PrintWords Go.Proofs.YtcappoimcdfggaaW.PrintLast Go.Proofs.YtcappoimcdfggaaW.PrintMore
attribute [local go_sem] max2_int min2_int max_two min_two max_three min_three max_four min_four   -- for this text's walks alone
set_option linter.unusedVariables false
set_option linter.unusedSimpArgs false

/-! ### spec_ImageOk: function 62 -/
mutual
def spec_ImageOk.j0 : Nat → Int → Bool → List Int → List Int → Int → Option (Bool)
 | 0, _, _, _, _, _ => none
 | k + 1, x3, x27, x124000, x124001, x124002 => if x27 = true then (some false) else (spec_ImageOk.l0 k x3 0 x124000 x124001 x124002)
def spec_ImageOk.l0 : Nat → Int → Int → List Int → List Int → Int → Option (Bool)
 | 0, _, _, _, _, _ => none
 | k + 1, x3, x4, x124000, x124001, x124002 => if x4 < (x124001.length : Int) then (if 0 ≤ x4 then ((spec_l01In.f (rd x124001 x4) 0 (wrap64 (x3 - 1))).bind fun t128 => (if t128 = true then (if x4 = 0 then (if 0 < (x124001.length : Int) then (if (rd x124001 0) = 0 then (if x4 > 0 then (if 0 ≤ (wrap64 (x4 - 1)) then (if (wrap64 (x4 - 1)) < (x124001.length : Int) then (if (rd x124001 (wrap64 (x4 - 1))) ≥ (rd x124001 x4) then (some false) else (spec_ImageOk.l0 k x3 (wrap64 (x4 + 1)) x124000 x124001 x124002)) else (none)) else (none)) else (spec_ImageOk.l0 k x3 (wrap64 (x4 + 1)) x124000 x124001 x124002)) else (some false)) else (none)) else (if x4 > 0 then (if 0 ≤ (wrap64 (x4 - 1)) then (if (wrap64 (x4 - 1)) < (x124001.length : Int) then (if (rd x124001 (wrap64 (x4 - 1))) ≥ (rd x124001 x4) then (some false) else (spec_ImageOk.l0 k x3 (wrap64 (x4 + 1)) x124000 x124001 x124002)) else (none)) else (none)) else (spec_ImageOk.l0 k x3 (wrap64 (x4 + 1)) x124000 x124001 x124002))) else (some false))) else (none)) else (spec_ImageOk.l1 k x3 0 x124000 x124001 x124002 0 0 0 0)
def spec_ImageOk.l1 : Nat → Int → Int → List Int → List Int → Int → Int → Int → Int → Int → Option (Bool)
 | 0, _, _, _, _, _, _, _, _, _ => none
 | k + 1, x3, x6, x124000, x124001, x124002, x135000, x135001, x135002, x135003 => if x6 < x3 then (if 0 ≤ x6 then (if x6 < (x124000.length : Int) then ((spec_Decode.f k (rd x124000 x6)).bind fun bt136 => (if bt136.2.2.2.2 = true then ((spec_TouchOf.f k x124000 x6).bind fun t142 => (if t142 ≥ x124002 then (some false) else (if bt136.1 = 7 then (if bt136.2.2.2.1 ≥ x3 then (some false) else (spec_ImageOk.l1 k x3 (wrap64 (x6 + 1)) x124000 x124001 x124002 bt136.1 bt136.2.1 bt136.2.2.1 bt136.2.2.2.1)) else (if bt136.1 = 8 then (if bt136.2.2.2.1 ≥ x3 then (some false) else (spec_ImageOk.l1 k x3 (wrap64 (x6 + 1)) x124000 x124001 x124002 bt136.1 bt136.2.1 bt136.2.2.1 bt136.2.2.2.1)) else (spec_ImageOk.l1 k x3 (wrap64 (x6 + 1)) x124000 x124001 x124002 bt136.1 bt136.2.1 bt136.2.2.1 bt136.2.2.2.1))))) else (some false))) else (none)) else (none)) else (if x135000 = 10 then (some (x135001 == 7)) else (some false))
end
def spec_ImageOk.f (k : Nat) (l0_0 : List Int) (l0_1 : List Int) (a0_2 : Int) : Option (Bool) := (spec_l01In.f (l0_1.length : Int) 1 4).bind fun t124 => (if t124 = true then ((spec_l01In.f (l0_0.length : Int) 1 800).bind fun t125 => (if t125 = true then ((spec_l01In.f a0_2 1 100).bind fun t126 => (spec_ImageOk.j0 k (l0_0.length : Int) (!t126) l0_0 l0_1 a0_2)) else (spec_ImageOk.j0 k (l0_0.length : Int) true l0_0 l0_1 a0_2))) else (spec_ImageOk.j0 k (l0_0.length : Int) true l0_0 l0_1 a0_2))
theorem spec_ImageOk.mono_l : ∀ k, (∀ y0 y1 y2 y3 y4, LeO (spec_ImageOk.j0 k y0 y1 y2 y3 y4) (spec_ImageOk.j0 (k + 1) y0 y1 y2 y3 y4)) ∧ (∀ y0 y1 y2 y3 y4, LeO (spec_ImageOk.l0 k y0 y1 y2 y3 y4) (spec_ImageOk.l0 (k + 1) y0 y1 y2 y3 y4)) ∧ (∀ y0 y1 y2 y3 y4 y5 y6 y7 y8, LeO (spec_ImageOk.l1 k y0 y1 y2 y3 y4 y5 y6 y7 y8) (spec_ImageOk.l1 (k + 1) y0 y1 y2 y3 y4 y5 y6 y7 y8))
 | 0 => ⟨fun _ _ _ _ _ r h => by simp [spec_ImageOk.j0] at h, fun _ _ _ _ _ r h => by simp [spec_ImageOk.l0] at h, fun _ _ _ _ _ _ _ _ _ r h => by simp [spec_ImageOk.l1] at h⟩
 | k + 1 => by
  obtain ⟨ih0, ih1, ih2⟩ := spec_ImageOk.mono_l k
  refine ⟨?_, ?_, ?_⟩
  ·intro y0 y1 y2 y3 y4
   unfold spec_ImageOk.j0
   repeat' first
   | (with_reducible exact ih0 _ _ _ _ _)
   | (with_reducible exact ih1 _ _ _ _ _)
   | (with_reducible exact ih2 _ _ _ _ _ _ _ _ _)
   | (with_reducible exact spec_Decode.mono _ _)
   | (with_reducible exact spec_TouchOf.mono _ _ _)
   | (with_reducible exact LeO.refl _)
   | (with_reducible exact LeO.none _)
   | (with_reducible refine LeO.ite ?_ ?_)
   | (with_reducible refine LeO.bind ?_ (fun _ => ?_))
   | exact ih0 _ _ _ _ _
   | exact ih1 _ _ _ _ _
   | exact ih2 _ _ _ _ _ _ _ _ _
   | exact spec_Decode.mono _ _
   | exact spec_TouchOf.mono _ _ _
   | exact LeO.none _
   | refine LeO.ite ?_ ?_
   | refine LeO.bind ?_ (fun _ => ?_)
  ·intro y0 y1 y2 y3 y4
   unfold spec_ImageOk.l0
   repeat' first
   | (with_reducible exact ih0 _ _ _ _ _)
   | (with_reducible exact ih1 _ _ _ _ _)
   | (with_reducible exact ih2 _ _ _ _ _ _ _ _ _)
   | (with_reducible exact spec_Decode.mono _ _)
   | (with_reducible exact spec_TouchOf.mono _ _ _)
   | (with_reducible exact LeO.refl _)
   | (with_reducible exact LeO.none _)
   | (with_reducible refine LeO.ite ?_ ?_)
   | (with_reducible refine LeO.bind ?_ (fun _ => ?_))
   | exact ih0 _ _ _ _ _
   | exact ih1 _ _ _ _ _
   | exact ih2 _ _ _ _ _ _ _ _ _
   | exact spec_Decode.mono _ _
   | exact spec_TouchOf.mono _ _ _
   | exact LeO.none _
   | refine LeO.ite ?_ ?_
   | refine LeO.bind ?_ (fun _ => ?_)
  ·intro y0 y1 y2 y3 y4 y5 y6 y7 y8
   unfold spec_ImageOk.l1
   repeat' first
   | (with_reducible exact ih0 _ _ _ _ _)
   | (with_reducible exact ih1 _ _ _ _ _)
   | (with_reducible exact ih2 _ _ _ _ _ _ _ _ _)
   | (with_reducible exact spec_Decode.mono _ _)
   | (with_reducible exact spec_TouchOf.mono _ _ _)
   | (with_reducible exact LeO.refl _)
   | (with_reducible exact LeO.none _)
   | (with_reducible refine LeO.ite ?_ ?_)
   | (with_reducible refine LeO.bind ?_ (fun _ => ?_))
   | exact ih0 _ _ _ _ _
   | exact ih1 _ _ _ _ _
   | exact ih2 _ _ _ _ _ _ _ _ _
   | exact spec_Decode.mono _ _
   | exact spec_TouchOf.mono _ _ _
   | exact LeO.none _
   | refine LeO.ite ?_ ?_
   | refine LeO.bind ?_ (fun _ => ?_)
theorem spec_ImageOk.mono : ∀ a0 a1 a2 k, LeO (spec_ImageOk.f k a0 a1 a2) (spec_ImageOk.f (k + 1) a0 a1 a2) := by
 intro a0 a1 a2 k
 obtain ⟨ih0, ih1, ih2⟩ := spec_ImageOk.mono_l k
 unfold spec_ImageOk.f
 repeat' first
   | (with_reducible exact ih0 _ _ _ _ _)
   | (with_reducible exact ih1 _ _ _ _ _)
   | (with_reducible exact ih2 _ _ _ _ _ _ _ _ _)
   | (with_reducible exact spec_Decode.mono _ _)
   | (with_reducible exact spec_TouchOf.mono _ _ _)
   | (with_reducible exact LeO.refl _)
   | (with_reducible exact LeO.none _)
   | (with_reducible refine LeO.ite ?_ ?_)
   | (with_reducible refine LeO.bind ?_ (fun _ => ?_))
   | exact ih0 _ _ _ _ _
   | exact ih1 _ _ _ _ _
   | exact ih2 _ _ _ _ _ _ _ _ _
   | exact spec_Decode.mono _ _
   | exact spec_TouchOf.mono _ _ _
   | exact LeO.none _
   | refine LeO.ite ?_ ?_
   | refine LeO.bind ?_ (fun _ => ?_)
def spec_ImageOk.T7 : Bool × List (List Nat × List Nat) := (true, [([], []), ([0], [0]), ([], []), ([1, 2], [1, 2]), ([3], [3]), ([], []), ([5], [5]), ([4, 6], [4, 6]), ([7], [7]), ([8, 7], [8]), ([9], [9]), ([10, 9], [9, 10]), ([11, 9, 9], [9, 11]), ([12], [12]), ([13, 12], [12, 13]), ([14, 12], [12, 14]), ([15, 12], [12, 15]), ([16, 12], [12, 16]), ([12, 17, 9], [9, 12, 17]), ([9, 18], [9, 18]), ([19, 12], [19]), ([20], [20]), ([21, 20], [20, 21]), ([22, 20, 20], [20, 22]), ([23], [23]), ([24, 23], [23, 24]), ([23], [23]), ([26, 23], [23, 26]), ([25, 27, 23], [23, 25, 27]), ([28, 23], [23, 28]), ([23], [23]), ([30, 23], [23, 30]), ([23], [23]), ([31, 32, 23], [23, 31, 32]), ([33, 23], [23, 33]), ([29, 34, 23], [23, 29, 34]), ([23, 35, 20], [20, 23, 35]), ([20, 36], [20, 36])])
def spec_ImageOk.B7 : List Nat := [0, 1, 0, 7, 15, 0, 32, 127, 255, 511, 1023, 2047, 4095, 8191, 16383, 32767, 65535, 131071, 262143, 524287, 1048575, 2097151, 4194303, 8388607, 16777215, 33554431, 16777215, 83886079, 268435455, 536870911, 16777215, 1090519039, 16777215, 7532969983, 16122904575, 34359738367, 68719476735, 137438953471]
theorem spec_ImageOk.tab7 : rtab .any (opsOf Try.f62 7) = spec_ImageOk.T7 := by kernel_rfl
theorem spec_ImageOk.bits7 : waitsOk spec_ImageOk.T7.2 spec_ImageOk.B7 = true := by kernel_rfl
def spec_ImageOk.T14 : Bool × List (List Nat × List Nat) := (true, [([], []), ([0], [0]), ([1], [1]), ([2], [2]), ([3, 2], [2, 3]), ([2], [2]), ([4, 5, 2, 2], [2, 4, 5]), ([2], [2]), ([7, 2], [2, 7]), ([6, 8, 2], [2, 6, 8]), ([2, 9], [2, 9]), ([10, 6], [10]), ([11], [11]), ([12, 11], [11, 12]), ([13, 11], [11, 13]), ([14, 11, 11], [11, 14]), ([15], [15]), ([16, 15], [15, 16]), ([17, 15], [15, 17]), ([15, 18, 11], [11, 15, 18]), ([19, 15, 11], [11, 19]), ([20], [20]), ([21, 20], [20, 21]), ([20], [20]), ([22, 23, 20], [20, 22, 23]), ([20, 24, 11], [11, 20, 24]), ([11, 25], [11, 25])])
def spec_ImageOk.B14 : List Nat := [0, 1, 3, 7, 15, 7, 63, 7, 135, 511, 1023, 2047, 4095, 8191, 16383, 32767, 65535, 131071, 262143, 524287, 1048575, 2097151, 4194303, 2097151, 16777215, 33554431, 67108863]
theorem spec_ImageOk.tab14 : rtab .any (opsOf Try.f62 14) = spec_ImageOk.T14 := by kernel_rfl
theorem spec_ImageOk.bits14 : waitsOk spec_ImageOk.T14.2 spec_ImageOk.B14 = true := by kernel_rfl
@[reducible] def spec_ImageOk.m0 : Array Bool := #[false, false, false, false, false, false, false, false, false, false, false, false, false, false, false, false, false, false, false, false, false, false, false, false, false, false, false, false, false, false, false, false, false, false, false, false, false, false]
@[reducible] def spec_ImageOk.m1 : Array Bool := #[true, false, false, false, false, false, false, false, false, false, false, false, false, false, false, false, false, false, false, false, false, false, false, false, false, false, false, false, false, false, false, false, false, false, false, false, false, false]
@[reducible] def spec_ImageOk.m2 : Array Bool := #[true, false, true, false, false, false, false, false, false, false, false, false, false, false, false, false, false, false, false, false, false, false, false, false, false, false, false, false, false, false, false, false, false, false, false, false, false, false]
@[reducible] def spec_ImageOk.m3 : Array Bool := #[true, false, true, false, false, true, false, false, false, false, false, false, false, false, false, false, false, false, false, false, false, false, false, false, false, false, false, false, false, false, false, false, false, false, false, false, false, false]
@[reducible] def spec_ImageOk.m4 : Array Bool := #[true, false, true, false, false, true, true, false, false, false, false, false, false, false, false, false, false, false, false, false, false, false, false, false, false, false, false, false, false, false, false, false, false, false, false, false, false, false]
@[reducible] def spec_ImageOk.m5 : Array Bool := #[true, true, true, false, false, true, true, false, false, false, false, false, false, false, false, false, false, false, false, false, false, false, false, false, false, false, false, false, false, false, false, false, false, false, false, false, false, false]
@[reducible] def spec_ImageOk.m6 : Array Bool := #[true, true, true, true, false, true, true, false, false, false, false, false, false, false, false, false, false, false, false, false, false, false, false, false, false, false, false, false, false, false, false, false, false, false, false, false, false, false]
@[reducible] def spec_ImageOk.m7 : Array Bool := #[true, true, true, true, true, true, true, false, false, false, false, false, false, false, false, false, false, false, false, false, false, false, false, false, false, false, false, false, false, false, false, false, false, false, false, false, false, false]
@[reducible] def spec_ImageOk.m8 : Array Bool := #[true, true, true, true, true, true, true, true, false, false, false, false, false, false, false, false, false, false, false, false, false, false, false, false, false, false, false, false, false, false, false, false, false, false, false, false, false, false]
@[reducible] def spec_ImageOk.m9 : Array Bool := #[true, true, true, true, true, true, true, true, true, false, false, false, false, false, false, false, false, false, false, false, false, false, false, false, false, false, false, false, false, false, false, false, false, false, false, false, false, false]
@[reducible] def spec_ImageOk.m10 : Array Bool := #[true, true, true, true, true, true, true, true, true, true, false, false, false, false, false, false, false, false, false, false, false, false, false, false, false, false, false, false, false, false, false, false, false, false, false, false, false, false]
@[reducible] def spec_ImageOk.m11 : Array Bool := #[true, true, true, true, true, true, true, true, true, true, true, false, false, false, false, false, false, false, false, false, false, false, false, false, false, false, false, false, false, false, false, false, false, false, false, false, false, false]
@[reducible] def spec_ImageOk.m12 : Array Bool := #[true, true, true, true, true, true, true, true, true, true, true, true, false, false, false, false, false, false, false, false, false, false, false, false, false, false, false, false, false, false, false, false, false, false, false, false, false, false]
@[reducible] def spec_ImageOk.m13 : Array Bool := #[true, true, true, true, true, true, true, true, true, true, true, true, true, false, false, false, false, false, false, false, false, false, false, false, false, false, false, false, false, false, false, false, false, false, false, false, false, false]
@[reducible] def spec_ImageOk.m14 : Array Bool := #[true, true, true, true, true, true, true, true, true, true, true, true, true, true, false, false, false, false, false, false, false, false, false, false, false, false, false, false, false, false, false, false, false, false, false, false, false, false]
@[reducible] def spec_ImageOk.m15 : Array Bool := #[true, true, true, true, true, true, true, true, true, true, true, true, true, true, true, false, false, false, false, false, false, false, false, false, false, false, false, false, false, false, false, false, false, false, false, false, false, false]
@[reducible] def spec_ImageOk.m16 : Array Bool := #[true, true, true, true, true, true, true, true, true, true, true, true, true, true, true, true, false, false, false, false, false, false, false, false, false, false, false, false, false, false, false, false, false, false, false, false, false, false]
@[reducible] def spec_ImageOk.m17 : Array Bool := #[true, true, true, true, true, true, true, true, true, true, true, true, true, true, true, true, true, false, false, false, false, false, false, false, false, false, false, false, false, false, false, false, false, false, false, false, false, false]
@[reducible] def spec_ImageOk.m18 : Array Bool := #[true, true, true, true, true, true, true, true, true, true, true, true, true, true, true, true, true, true, false, false, false, false, false, false, false, false, false, false, false, false, false, false, false, false, false, false, false, false]
@[reducible] def spec_ImageOk.m19 : Array Bool := #[true, true, true, true, true, true, true, true, true, true, true, true, true, true, true, true, true, true, true, false, false, false, false, false, false, false, false, false, false, false, false, false, false, false, false, false, false, false]
@[reducible] def spec_ImageOk.m20 : Array Bool := #[true, true, true, true, true, true, true, true, true, true, true, true, true, true, true, true, true, true, true, true, false, false, false, false, false, false, false, false, false, false, false, false, false, false, false, false, false, false]
@[reducible] def spec_ImageOk.m21 : Array Bool := #[true, true, true, true, true, true, true, true, true, true, true, true, true, true, true, true, true, true, true, true, true, false, false, false, false, false, false, false, false, false, false, false, false, false, false, false, false, false]
@[reducible] def spec_ImageOk.m22 : Array Bool := #[true, true, true, true, true, true, true, true, true, true, true, true, true, true, true, true, true, true, true, true, true, true, false, false, false, false, false, false, false, false, false, false, false, false, false, false, false, false]
@[reducible] def spec_ImageOk.m23 : Array Bool := #[true, true, true, true, true, true, true, true, true, true, true, true, true, true, true, true, true, true, true, true, true, true, true, false, false, false, false, false, false, false, false, false, false, false, false, false, false, false]
@[reducible] def spec_ImageOk.m24 : Array Bool := #[true, true, true, true, true, true, true, true, true, true, true, true, true, true, true, true, true, true, true, true, true, true, true, true, false, false, false, false, false, false, false, false, false, false, false, false, false, false]
@[reducible] def spec_ImageOk.m25 : Array Bool := #[true, true, true, true, true, true, true, true, true, true, true, true, true, true, true, true, true, true, true, true, true, true, true, true, true, false, false, false, false, false, false, false, false, false, false, false, false, false]
@[reducible] def spec_ImageOk.m26 : Array Bool := #[true, true, true, true, true, true, true, true, true, true, true, true, true, true, true, true, true, true, true, true, true, true, true, true, true, false, true, false, false, false, false, false, false, false, false, false, false, false]
@[reducible] def spec_ImageOk.m27 : Array Bool := #[true, true, true, true, true, true, true, true, true, true, true, true, true, true, true, true, true, true, true, true, true, true, true, true, true, false, true, true, false, false, false, false, false, false, false, false, false, false]
@[reducible] def spec_ImageOk.m28 : Array Bool := #[true, true, true, true, true, true, true, true, true, true, true, true, true, true, true, true, true, true, true, true, true, true, true, true, true, false, true, true, false, false, true, false, false, false, false, false, false, false]
@[reducible] def spec_ImageOk.m29 : Array Bool := #[true, true, true, true, true, true, true, true, true, true, true, true, true, true, true, true, true, true, true, true, true, true, true, true, true, false, true, true, false, false, true, false, true, false, false, false, false, false]
@[reducible] def spec_ImageOk.m30 : Array Bool := #[true, true, true, true, true, true, true, true, true, true, true, true, true, true, true, true, true, true, true, true, true, true, true, true, true, true, true, true, false, false, true, false, true, false, false, false, false, false]
@[reducible] def spec_ImageOk.m31 : Array Bool := #[true, true, true, true, true, true, true, true, true, true, true, true, true, true, true, true, true, true, true, true, true, true, true, true, true, true, true, true, true, false, true, false, true, false, false, false, false, false]
@[reducible] def spec_ImageOk.m32 : Array Bool := #[true, true, true, true, true, true, true, true, true, true, true, true, true, true, true, true, true, true, true, true, true, true, true, true, true, true, true, true, true, true, true, false, true, false, false, false, false, false]
@[reducible] def spec_ImageOk.m33 : Array Bool := #[true, true, true, true, true, true, true, true, true, true, true, true, true, true, true, true, true, true, true, true, true, true, true, true, true, true, true, true, true, true, true, true, true, false, false, false, false, false]
@[reducible] def spec_ImageOk.m34 : Array Bool := #[true, true, true, true, true, true, true, true, true, true, true, true, true, true, true, true, true, true, true, true, true, true, true, true, true, true, true, true, true, true, true, true, true, true, false, false, false, false]
@[reducible] def spec_ImageOk.m35 : Array Bool := #[true, true, true, true, true, true, true, true, true, true, true, true, true, true, true, true, true, true, true, true, true, true, true, true, true, true, true, true, true, true, true, true, true, true, true, false, false, false]
@[reducible] def spec_ImageOk.m36 : Array Bool := #[true, true, true, true, true, true, true, true, true, true, true, true, true, true, true, true, true, true, true, true, true, true, true, true, true, true, true, true, true, true, true, true, true, true, true, true, false, false]
@[reducible] def spec_ImageOk.m37 : Array Bool := #[true, true, true, true, true, true, true, true, true, true, true, true, true, true, true, true, true, true, true, true, true, true, true, true, true, true, true, true, true, true, true, true, true, true, true, true, true, false]
@[reducible] def spec_ImageOk.m38 : Array Bool := #[true, true, true, true, true, true, true, true, true, true, true, true, true, true, true, true, true, true, true, true, true, true, true, true, true, true, true, true, true, true, true, true, true, true, true, true, true, true]
@[reducible] def spec_ImageOk.m39 : Array Bool := #[true, true, true, true, true, true, true, true, true, true, true, true, true, true, true, true, true, true, true, true, true, true, true, true, true, true, false, false, false, false, false, false, false, false, false, false, false, false]
@[reducible] def spec_ImageOk.m40 : Array Bool := #[true, true, true, true, true, true, true, true, true, true, true, true, true, true, true, true, true, true, true, true, true, true, true, true, true, true, true, false, false, false, false, false, false, false, false, false, false, false]
@[reducible] def spec_ImageOk.m41 : Array Bool := #[true, true, true, true, true, true, true, true, true, true, true, true, true, true, true, true, true, true, true, true, true, true, true, true, true, true, true, true, false, false, false, false, false, false, false, false, false, false]
@[reducible] def spec_ImageOk.m42 : Array Bool := #[true, true, true, true, true, true, true, true, true, true, true, true, true, true, true, true, true, true, true, true, true, true, true, true, true, true, true, true, true, false, false, false, false, false, false, false, false, false]
@[reducible] def spec_ImageOk.m43 : Array Bool := #[true, true, true, true, true, true, true, true, true, true, true, true, true, true, true, true, true, true, true, true, true, true, true, true, true, true, true, true, true, true, false, false, false, false, false, false, false, false]
@[reducible] def spec_ImageOk.m44 : Array Bool := #[true, true, true, true, true, true, true, true, true, true, true, true, true, true, true, true, true, true, true, true, true, true, true, true, true, true, true, true, true, true, true, false, false, false, false, false, false, false]
@[reducible] def spec_ImageOk.m45 : Array Bool := #[true, true, true, true, true, true, true, true, true, true, true, true, true, true, true, true, true, true, true, true, true, true, true, true, true, true, true, true, true, true, true, true, false, false, false, false, false, false]
@[reducible] def spec_ImageOk.m46 : Array Bool := #[false, false, false, false, false, false, false, false, false, false, false, false, false, false, false, false, false, false, false, false, false, false, false, false, false, false, false]
@[reducible] def spec_ImageOk.m47 : Array Bool := #[true, false, false, false, false, false, false, false, false, false, false, false, false, false, false, false, false, false, false, false, false, false, false, false, false, false, false]
@[reducible] def spec_ImageOk.m48 : Array Bool := #[true, true, false, false, false, false, false, false, false, false, false, false, false, false, false, false, false, false, false, false, false, false, false, false, false, false, false]
@[reducible] def spec_ImageOk.m49 : Array Bool := #[true, true, true, false, false, false, false, false, false, false, false, false, false, false, false, false, false, false, false, false, false, false, false, false, false, false, false]
@[reducible] def spec_ImageOk.m50 : Array Bool := #[true, true, true, true, false, false, false, false, false, false, false, false, false, false, false, false, false, false, false, false, false, false, false, false, false, false, false]
@[reducible] def spec_ImageOk.m51 : Array Bool := #[true, true, true, true, false, true, false, false, false, false, false, false, false, false, false, false, false, false, false, false, false, false, false, false, false, false, false]
@[reducible] def spec_ImageOk.m52 : Array Bool := #[true, true, true, true, false, true, false, true, false, false, false, false, false, false, false, false, false, false, false, false, false, false, false, false, false, false, false]
@[reducible] def spec_ImageOk.m53 : Array Bool := #[true, true, true, true, true, true, false, true, false, false, false, false, false, false, false, false, false, false, false, false, false, false, false, false, false, false, false]
@[reducible] def spec_ImageOk.m54 : Array Bool := #[true, true, true, true, true, true, false, true, true, false, false, false, false, false, false, false, false, false, false, false, false, false, false, false, false, false, false]
@[reducible] def spec_ImageOk.m55 : Array Bool := #[true, true, true, true, true, true, true, true, true, false, false, false, false, false, false, false, false, false, false, false, false, false, false, false, false, false, false]
@[reducible] def spec_ImageOk.m56 : Array Bool := #[true, true, true, true, true, true, true, true, true, true, false, false, false, false, false, false, false, false, false, false, false, false, false, false, false, false, false]
@[reducible] def spec_ImageOk.m57 : Array Bool := #[true, true, true, true, true, true, true, true, true, true, true, false, false, false, false, false, false, false, false, false, false, false, false, false, false, false, false]
@[reducible] def spec_ImageOk.m58 : Array Bool := #[true, true, true, true, true, true, true, true, true, true, true, true, false, false, false, false, false, false, false, false, false, false, false, false, false, false, false]
@[reducible] def spec_ImageOk.m59 : Array Bool := #[true, true, true, true, true, true, true, true, true, true, true, true, true, false, false, false, false, false, false, false, false, false, false, false, false, false, false]
@[reducible] def spec_ImageOk.m60 : Array Bool := #[true, true, true, true, true, true, true, true, true, true, true, true, true, true, false, false, false, false, false, false, false, false, false, false, false, false, false]
@[reducible] def spec_ImageOk.m61 : Array Bool := #[true, true, true, true, true, true, true, true, true, true, true, true, true, true, true, false, false, false, false, false, false, false, false, false, false, false, false]
@[reducible] def spec_ImageOk.m62 : Array Bool := #[true, true, true, true, true, true, true, true, true, true, true, true, true, true, true, true, false, false, false, false, false, false, false, false, false, false, false]
@[reducible] def spec_ImageOk.m63 : Array Bool := #[true, true, true, true, true, true, true, true, true, true, true, true, true, true, true, true, true, false, false, false, false, false, false, false, false, false, false]
@[reducible] def spec_ImageOk.m64 : Array Bool := #[true, true, true, true, true, true, true, true, true, true, true, true, true, true, true, true, true, true, false, false, false, false, false, false, false, false, false]
@[reducible] def spec_ImageOk.m65 : Array Bool := #[true, true, true, true, true, true, true, true, true, true, true, true, true, true, true, true, true, true, true, false, false, false, false, false, false, false, false]
@[reducible] def spec_ImageOk.m66 : Array Bool := #[true, true, true, true, true, true, true, true, true, true, true, true, true, true, true, true, true, true, true, true, false, false, false, false, false, false, false]
@[reducible] def spec_ImageOk.m67 : Array Bool := #[true, true, true, true, true, true, true, true, true, true, true, true, true, true, true, true, true, true, true, true, true, false, false, false, false, false, false]
@[reducible] def spec_ImageOk.m68 : Array Bool := #[true, true, true, true, true, true, true, true, true, true, true, true, true, true, true, true, true, true, true, true, true, true, false, false, false, false, false]
@[reducible] def spec_ImageOk.m69 : Array Bool := #[true, true, true, true, true, true, true, true, true, true, true, true, true, true, true, true, true, true, true, true, true, true, true, false, false, false, false]
@[reducible] def spec_ImageOk.m70 : Array Bool := #[true, true, true, true, true, true, true, true, true, true, true, true, true, true, true, true, true, true, true, true, true, true, true, true, false, false, false]
@[reducible] def spec_ImageOk.m71 : Array Bool := #[true, true, true, true, true, true, true, true, true, true, true, true, true, true, true, true, true, true, true, true, true, true, true, true, true, false, false]
@[reducible] def spec_ImageOk.m72 : Array Bool := #[true, true, true, true, true, true, true, true, true, true, true, true, true, true, true, true, true, true, true, true, true, true, true, true, true, true, false]
@[reducible] def spec_ImageOk.m73 : Array Bool := #[true, true, true, true, true, true, true, true, true, true, true, true, true, true, true, true, true, true, true, true, true, true, true, true, true, true, true]
@[reducible] def spec_ImageOk.m74 : Array Bool := #[true, true, true, true, true, true, true, true, true, true, true, true, true, true, true, true, true, true, true, true, true, true, false, true, false, false, false]
@[reducible] def spec_ImageOk.m75 : Array Bool := #[true, true, true, true, true, false, false, false, false, false, false, false, false, false, false, false, false, false, false, false, false, false, false, false, false, false, false]
@[reducible] def spec_ImageOk.m76 : Array Bool := #[true, true, true, true, true, true, false, false, false, false, false, false, false, false, false, false, false, false, false, false, false, false, false, false, false, false, false]
@[reducible] def spec_ImageOk.m77 : Array Bool := #[true, true, true, true, true, true, true, false, false, false, false, false, false, false, false, false, false, false, false, false, false, false, false, false, false, false, false]
@[reducible] def spec_ImageOk.m78 : Array Bool := #[true, true, true, true, true, true, true, true, false, false, false, false, false, false, false, false, false, false, false, false, false, false, false, false, false, false, false]
set_option maxHeartbeats 8000000 in
set_option maxRecDepth 100000 in
theorem spec_ImageOk.calls (k : Nat) (A0_0 : Option Addr) (c0_0 : Nat) (l0_0 : List Int) (A0_1 : Option Addr) (c0_1 : Nat) (l0_1 : List Int) (a0_2 : Int) (r : Bool) (w : World) (hr0_0 : Kd.C (Kd.int .i64) w A0_0 l0_0.length l0_0) (hc0_0 : l0_0.length ≤ c0_0) (hr0_1 : Kd.C (Kd.int .i64) w A0_1 l0_1.length l0_1) (hc0_1 : l0_1.length ≤ c0_1) (h : spec_ImageOk.f k l0_0 l0_1 a0_2 = some r) :
  Calls Try.prog 62 #[.agg #[.slice A0_0 l0_0.length c0_0, .slice A0_1 l0_1.length c0_1, .int .i64 a0_2]] w fun e w' => e = .returned (.bool r) ∧ Below w.heap.size w w' := by
 have hu88 := Try.underlying88
 have hu25 := Try.underlying25
 have HR0_0 := Aside0.mk hr0_0
 have HC0_0 := Aside0.mk hc0_0
 clear hr0_0 hc0_0
 have HR0_1 := Aside0.mk hr0_1
 have HC0_1 := Aside0.mk hc0_1
 clear hr0_1 hc0_1
 have HB := Aside0.mk (Below.refl w.heap.size w)
 have H : ((spec_l01In.f (l0_1.length : Int) 1 4).bind fun t124 => (if t124 = true then ((spec_l01In.f (l0_0.length : Int) 1 800).bind fun t125 => (if t125 = true then ((spec_l01In.f a0_2 1 100).bind fun t126 => (spec_ImageOk.j0 k (l0_0.length : Int) (!t126) l0_0 l0_1 a0_2)) else (spec_ImageOk.j0 k (l0_0.length : Int) true l0_0 l0_1 a0_2))) else (spec_ImageOk.j0 k (l0_0.length : Int) true l0_0 l0_1 a0_2))) = some r := h
 clear h
 have HC2 := Aside0.mk H
 clear H
 go_enter Try.func62, Try.ntmps62
 go_upto_region 2 with (first | ((with_reducible refine gate_dst (N := 1) rfl ?_); refine box_event ?hg (N := 1) ?hd (cs := #[.slice A0_0 l0_0.length c0_0, .slice A0_1 l0_1.length c0_1, .int .i64 a0_2]) (t := 88) ?hr ?_; (case hd => rfl); (case hg => rfl); (case hr => first | (go_simp; done) | (go_simp; rfl)); intro gb123 hg w3 hbox hb; have n0_ := Aside0.mk (below_step (by repeat (first | exact HB.out | apply below_alloc | apply pw_below_drewN | apply below_drew1)) hb); have n1_ := Aside0.mk (hbox); have n2_ := Aside0.mk ((by rw [hg]; exact (below_size (by repeat (first | exact HB.out | apply below_alloc | apply pw_below_drewN | apply below_drew1))) : w.heap.size ≤ gb123)); have n3_ := Aside0.mk ((by rw [hg]; exact (below_size (by repeat (first | exact HB.out | apply below_alloc | apply pw_below_drewN | apply below_drew1))) : w.heap.size ≤ gb123)); clear HB; have HB := n0_; have BK123 := n1_; have GW123 := n2_; have GE123 := n3_; clear n0_ n1_ n2_ n3_; clear hb hbox hg; have hcz4_0 := blk_cell BK123.out; have hfz4_0 := blk_frozen BK123.out))
 (try simp only [Act.put, List.setIfInBounds_toArray, List.set_cons_zero, List.set_cons_succ])
 go_cut [27] (fun v27 wc => ∃ (kq : Nat) (x27_1 : Bool), v27 = .bool x27_1 ∧ Aside0 (spec_ImageOk.j0 kq (l0_0.length : Int) x27_1 l0_0 l0_1 a0_2 = some r) ∧ Aside0 (kq ≤ k) ∧ Aside0 (wc.heap[gb123]? = some (.cells #[(.slice A0_0 l0_0.length c0_0), (.slice A0_1 l0_1.length c0_1), .int .i64 a0_2] 88 (0, 0))) ∧ Aside0 (Below w.heap.size w wc))
 case first =>
  have H := HC2.out
  clear HC2
  replace H := Option.bind_eq_some_iff.mp H
  obtain ⟨t124, A50, H⟩ := H
  replace H : (if t124 = true then ((spec_l01In.f (l0_0.length : Int) 1 800).bind fun t125 => (if t125 = true then ((spec_l01In.f a0_2 1 100).bind fun t126 => (spec_ImageOk.j0 k (l0_0.length : Int) (!t126) l0_0 l0_1 a0_2)) else (spec_ImageOk.j0 k (l0_0.length : Int) true l0_0 l0_1 a0_2))) else (spec_ImageOk.j0 k (l0_0.length : Int) true l0_0 l0_1 a0_2)) = some r := H
  have A5 := Aside0.mk A50
  clear A50
  by_cases c6 : t124 = true
  ·subst c6
   have H1 : ((spec_l01In.f (l0_0.length : Int) 1 800).bind fun t125 => (if t125 = true then ((spec_l01In.f a0_2 1 100).bind fun t126 => (spec_ImageOk.j0 k (l0_0.length : Int) (!t126) l0_0 l0_1 a0_2)) else (spec_ImageOk.j0 k (l0_0.length : Int) true l0_0 l0_1 a0_2))) = some r := by rw [if_pos rfl] at H; exact H
   clear H
   have H := H1
   clear H1
   replace H := Option.bind_eq_some_iff.mp H
   obtain ⟨t125, A70, H⟩ := H
   replace H : (if t125 = true then ((spec_l01In.f a0_2 1 100).bind fun t126 => (spec_ImageOk.j0 k (l0_0.length : Int) (!t126) l0_0 l0_1 a0_2)) else (spec_ImageOk.j0 k (l0_0.length : Int) true l0_0 l0_1 a0_2)) = some r := H
   have A7 := Aside0.mk A70
   clear A70
   by_cases c8 : t125 = true
   ·subst c8
    have H1 : ((spec_l01In.f a0_2 1 100).bind fun t126 => (spec_ImageOk.j0 k (l0_0.length : Int) (!t126) l0_0 l0_1 a0_2)) = some r := by rw [if_pos rfl] at H; exact H
    clear H
    have H := H1
    clear H1
    replace H := Option.bind_eq_some_iff.mp H
    obtain ⟨t126, A90, H⟩ := H
    replace H : (spec_ImageOk.j0 k (l0_0.length : Int) (!t126) l0_0 l0_1 a0_2) = some r := H
    have A9 := Aside0.mk A90
    clear A90
    have H' := Aside0.mk H
    clear H
    have hcz10_0 := blk_cell BK123.out
    have hfz10_0 := blk_frozen BK123.out
    go_wp2_with (first | ((with_reducible refine gate_callee (f := 66) rfl ?_); refine goesL_ (some 15) rfl rfl Try.func66 (by kernel_rfl) rfl #[.int .i64 (l0_1.length : Int), .int .i64 1, .int .i64 4] rfl (by first | rfl | (simp only [List.map_toArray, List.map_cons, List.map_nil, List.length_drop, List.length_take]; rfl)) ?_; (with_reducible refine (spec_l01In.calls (l0_1.length : Int) 1 4 true _ A5.out).mono ?_); rintro e w' ⟨rfl, ⟨nd, rfl⟩⟩; refine ⟨_, rfl, ?_⟩) | (go_at_call 66; (with_reducible refine (spec_l01In.calls (l0_0.length : Int) 1 800 true _ A7.out).mono ?_); rintro e w' ⟨rfl, ⟨nd, rfl⟩⟩) | (go_at_call 66; (with_reducible refine (spec_l01In.calls a0_2 1 100 t126 _ A9.out).mono ?_); rintro e w' ⟨rfl, ⟨nd, rfl⟩⟩))
    go_meet
    case rel => exact ⟨_, (!t126), (by first | rfl | (simp; done) | (simp [*]; done)), H', ⟨by first | omega | exact Nat.le_refl _⟩, ⟨by (with_reducible repeat (first | refine blk_drewN ?_ _ | refine blk_drew ?_ | refine blk_alloc ?_ _)); exact BK123.out⟩, ⟨by repeat (first | exact HB.out | apply below_alloc | apply pw_below_drewN | apply below_drew1 | refine below_set ?_ GE123.out)⟩⟩
   ·replace c8 := Bool.eq_false_iff.mpr c8
    subst c8
    have H1 : (spec_ImageOk.j0 k (l0_0.length : Int) true l0_0 l0_1 a0_2) = some r := by rw [if_neg (show ¬ (false = true) by decide)] at H; exact H
    clear H
    have H := H1
    clear H1
    have H' := Aside0.mk H
    clear H
    have hcz11_0 := blk_cell BK123.out
    have hfz11_0 := blk_frozen BK123.out
    go_wp2_with (first | ((with_reducible refine gate_callee (f := 66) rfl ?_); refine goesL_ (some 15) rfl rfl Try.func66 (by kernel_rfl) rfl #[.int .i64 (l0_1.length : Int), .int .i64 1, .int .i64 4] rfl (by first | rfl | (simp only [List.map_toArray, List.map_cons, List.map_nil, List.length_drop, List.length_take]; rfl)) ?_; (with_reducible refine (spec_l01In.calls (l0_1.length : Int) 1 4 true _ A5.out).mono ?_); rintro e w' ⟨rfl, ⟨nd, rfl⟩⟩; refine ⟨_, rfl, ?_⟩) | (go_at_call 66; (with_reducible refine (spec_l01In.calls (l0_0.length : Int) 1 800 false _ A7.out).mono ?_); rintro e w' ⟨rfl, ⟨nd, rfl⟩⟩))
    go_meet
    case rel => exact ⟨_, (true), (by first | rfl | (simp; done) | (simp [*]; done)), H', ⟨by first | omega | exact Nat.le_refl _⟩, ⟨by (with_reducible repeat (first | refine blk_drewN ?_ _ | refine blk_drew ?_ | refine blk_alloc ?_ _)); exact BK123.out⟩, ⟨by repeat (first | exact HB.out | apply below_alloc | apply pw_below_drewN | apply below_drew1 | refine below_set ?_ GE123.out)⟩⟩
  ·replace c6 := Bool.eq_false_iff.mpr c6
   subst c6
   have H1 : (spec_ImageOk.j0 k (l0_0.length : Int) true l0_0 l0_1 a0_2) = some r := by rw [if_neg (show ¬ (false = true) by decide)] at H; exact H
   clear H
   have H := H1
   clear H1
   have H' := Aside0.mk H
   clear H
   have hcz12_0 := blk_cell BK123.out
   have hfz12_0 := blk_frozen BK123.out
   go_wp2_with (first | ((with_reducible refine gate_callee (f := 66) rfl ?_); refine goesL_ (some 15) rfl rfl Try.func66 (by kernel_rfl) rfl #[.int .i64 (l0_1.length : Int), .int .i64 1, .int .i64 4] rfl (by first | rfl | (simp only [List.map_toArray, List.map_cons, List.map_nil, List.length_drop, List.length_take]; rfl)) ?_; (with_reducible refine (spec_l01In.calls (l0_1.length : Int) 1 4 false _ A5.out).mono ?_); rintro e w' ⟨rfl, ⟨nd, rfl⟩⟩; refine ⟨_, rfl, ?_⟩))
   go_meet
   case rel => exact ⟨_, (true), (by first | rfl | (simp; done) | (simp [*]; done)), H', ⟨by first | omega | exact Nat.le_refl _⟩, ⟨by (with_reducible repeat (first | refine blk_drewN ?_ _ | refine blk_drew ?_ | refine blk_alloc ?_ _)); exact BK123.out⟩, ⟨by repeat (first | exact HB.out | apply below_alloc | apply pw_below_drewN | apply below_drew1 | refine below_set ?_ GE123.out)⟩⟩
 case rest =>
  clear HC2
  try clear p2
  try clear c6
  try clear c8
  try clear hcz10_0
  try clear hcz11_0
  try clear hcz12_0
  try clear hcz4_0
  try clear hfz10_0
  try clear hfz11_0
  try clear hfz12_0
  try clear hfz4_0
  obtain ⟨kq, x27_1, rfl, HA, HJ1, BK123, HB⟩ := hcut
  cases kq with
  | zero => exact absurd HA.out (by simp [spec_ImageOk.j0])
  | succ kj1 =>
   have H := HA.out
   clear HA
   simp only [spec_ImageOk.j0] at H
   by_cases c13 : x27_1 = true
   ·subst c13
    have H1 : (some false) = some r := by rw [if_pos rfl] at H; exact H
    clear H
    have H := H1
    clear H1
    obtain rfl := Option.some.inj H
    go_wp2
    go_ret
    exact ⟨by first | rfl | (simp [errW_none, errW_some] <;> rfl) | (simp [*, errW_none, errW_some] <;> rfl), by repeat (first | exact HB.out | apply below_alloc | apply pw_below_drewN | apply below_drew1 | refine below_set ?_ GE123.out)⟩
   ·replace c13 := Bool.eq_false_iff.mpr c13
    subst c13
    have H1 : (spec_ImageOk.l0 kj1 (l0_0.length : Int) 0 l0_0 l0_1 a0_2) = some r := by rw [if_neg (show ¬ (false = true) by decide)] at H; exact H
    clear H
    have H := H1
    clear H1
    have H' := Aside0.mk H
    clear H
    go_wp2
    go_loopg [4] kj1 (fun kq v4 w' => ∃ (x4_2 : Int), v4 = .int .i64 x4_2 ∧ Aside0 (spec_ImageOk.l0 kq (l0_0.length : Int) x4_2 l0_0 l0_1 a0_2 = some r) ∧ Aside0 (kq ≤ kj1) ∧ Aside0 (w'.heap[gb123]? = some (.cells #[(.slice A0_0 l0_0.length c0_0), (.slice A0_1 l0_1.length c0_1), .int .i64 a0_2] 88 (0, 0))) ∧ Aside0 (Below w.heap.size w w'))
    case atStart => exact ⟨(0), (by first | rfl | (simp; done) | (simp [*]; done)), H', ⟨Nat.le_refl _⟩, ⟨by (with_reducible repeat (first | refine blk_drewN ?_ _ | refine blk_drew ?_ | refine blk_alloc ?_ _)); exact BK123.out⟩, ⟨by repeat (first | exact HB.out | apply below_alloc | apply pw_below_drewN | apply below_drew1 | refine below_set ?_ GE123.out)⟩⟩
    case round =>
     clear H'
     try clear c1
     try clear p2
     try clear c6
     try clear c8
     try clear c13
     try clear hcz10_0
     try clear hcz11_0
     try clear hcz12_0
     try clear hcz4_0
     try clear hfz10_0
     try clear hfz11_0
     try clear hfz12_0
     try clear hfz4_0
     try clear p2
     obtain ⟨x4_2, rfl, HA, HK2, BK123, HB⟩ := hrel
     cases gk with
     | zero => exact absurd HA.out (by simp [spec_ImageOk.l0])
     | succ k2 =>
      have H := HA.out
      clear HA
      simp only [spec_ImageOk.l0] at H
      by_cases c14 : x4_2 < (l0_1.length : Int)
      ·rw [if_pos c14] at H
       have c14b0 : decide (x4_2 < (l0_1.length : Int)) = true := decide_eq_true c14
       clear c14
       by_cases c15 : 0 ≤ x4_2
       ·rw [if_pos c15] at H
        have c15b0 : decide (0 ≤ x4_2) = true := decide_eq_true c15
        clear c15
        replace H := Option.bind_eq_some_iff.mp H
        obtain ⟨t128, A160, H⟩ := H
        replace H : (if t128 = true then (if x4_2 = 0 then (if 0 < (l0_1.length : Int) then (if (rd l0_1 0) = 0 then (if x4_2 > 0 then (if 0 ≤ (wrap64 (x4_2 - 1)) then (if (wrap64 (x4_2 - 1)) < (l0_1.length : Int) then (if (rd l0_1 (wrap64 (x4_2 - 1))) ≥ (rd l0_1 x4_2) then (some false) else (spec_ImageOk.l0 k2 (l0_0.length : Int) (wrap64 (x4_2 + 1)) l0_0 l0_1 a0_2)) else (none)) else (none)) else (spec_ImageOk.l0 k2 (l0_0.length : Int) (wrap64 (x4_2 + 1)) l0_0 l0_1 a0_2)) else (some false)) else (none)) else (if x4_2 > 0 then (if 0 ≤ (wrap64 (x4_2 - 1)) then (if (wrap64 (x4_2 - 1)) < (l0_1.length : Int) then (if (rd l0_1 (wrap64 (x4_2 - 1))) ≥ (rd l0_1 x4_2) then (some false) else (spec_ImageOk.l0 k2 (l0_0.length : Int) (wrap64 (x4_2 + 1)) l0_0 l0_1 a0_2)) else (none)) else (none)) else (spec_ImageOk.l0 k2 (l0_0.length : Int) (wrap64 (x4_2 + 1)) l0_0 l0_1 a0_2))) else (some false)) = some r := H
        have A16 := Aside0.mk A160
        clear A160
        by_cases c17 : t128 = true
        ·subst c17
         have H1 : (if x4_2 = 0 then (if 0 < (l0_1.length : Int) then (if (rd l0_1 0) = 0 then (if x4_2 > 0 then (if 0 ≤ (wrap64 (x4_2 - 1)) then (if (wrap64 (x4_2 - 1)) < (l0_1.length : Int) then (if (rd l0_1 (wrap64 (x4_2 - 1))) ≥ (rd l0_1 x4_2) then (some false) else (spec_ImageOk.l0 k2 (l0_0.length : Int) (wrap64 (x4_2 + 1)) l0_0 l0_1 a0_2)) else (none)) else (none)) else (spec_ImageOk.l0 k2 (l0_0.length : Int) (wrap64 (x4_2 + 1)) l0_0 l0_1 a0_2)) else (some false)) else (none)) else (if x4_2 > 0 then (if 0 ≤ (wrap64 (x4_2 - 1)) then (if (wrap64 (x4_2 - 1)) < (l0_1.length : Int) then (if (rd l0_1 (wrap64 (x4_2 - 1))) ≥ (rd l0_1 x4_2) then (some false) else (spec_ImageOk.l0 k2 (l0_0.length : Int) (wrap64 (x4_2 + 1)) l0_0 l0_1 a0_2)) else (none)) else (none)) else (spec_ImageOk.l0 k2 (l0_0.length : Int) (wrap64 (x4_2 + 1)) l0_0 l0_1 a0_2))) = some r := by rw [if_pos rfl] at H; exact H
         clear H
         have H := H1
         clear H1
         by_cases c18 : x4_2 = 0
         ·rw [if_pos c18] at H
          have c18b0 : (x4_2 == 0) = true := beq_iff_eq.mpr c18
          have c18b1 : (x4_2 != 0) = false := bne_eq_false_iff_eq.mpr c18
          clear c18
          by_cases c19 : 0 < (l0_1.length : Int)
          ·rw [if_pos c19] at H
           have c19b0 : decide (0 < (l0_1.length : Int)) = true := decide_eq_true c19
           have c19b1 : decide (0 < l0_1.length) = true := decide_eq_true (by omega)
           clear c19
           by_cases c20 : (rd l0_1 0) = 0
           ·rw [if_pos c20] at H
            have c20b0 : ((rd l0_1 0) == 0) = true := beq_iff_eq.mpr c20
            have c20b1 : ((rd l0_1 0) != 0) = false := bne_eq_false_iff_eq.mpr c20
            clear c20
            by_cases c21 : x4_2 > 0
            ·rw [if_pos c21] at H
             have c21b0 : decide (0 < x4_2) = true := decide_eq_true c21
             clear c21
             obtain ⟨ji22, hji22⟩ : ∃ j_ : Int, (wrap64 (x4_2 - 1)) = j_ := ⟨_, rfl⟩
             replace H : (if 0 ≤ (ji22) then (if (ji22) < (l0_1.length : Int) then (if (rd l0_1 (ji22)) ≥ (rd l0_1 x4_2) then (some false) else (spec_ImageOk.l0 k2 (l0_0.length : Int) (wrap64 (x4_2 + 1)) l0_0 l0_1 a0_2)) else (none)) else (none)) = some r := by first | (rw [hji22] at H; exact H) | (simp only [hji22] at H ⊢; exact H)
             (try rw [hji22] at A16)
             have hji22w : (IntKind.i64.wrap (x4_2 - 1)) = ji22 := (i64_w _).trans hji22
             by_cases c23 : 0 ≤ (ji22)
             ·rw [if_pos c23] at H
              have c23b0 : decide (0 ≤ (ji22)) = true := decide_eq_true c23
              clear c23
              by_cases c24 : (ji22) < (l0_1.length : Int)
              ·rw [if_pos c24] at H
               have c24b0 : decide ((ji22) < (l0_1.length : Int)) = true := decide_eq_true c24
               clear c24
               by_cases c25 : (rd l0_1 (ji22)) ≥ (rd l0_1 x4_2)
               ·rw [if_pos c25] at H
                have c25b0 : decide ((rd l0_1 x4_2) ≤ (rd l0_1 (ji22))) = true := decide_eq_true c25
                clear c25
                obtain rfl := Option.some.inj H
                have hcz26_0 := blk_cell BK123.out
                have hfz26_0 := blk_frozen BK123.out
                try go_wp2
                have n0_ := Aside0.mk (blk_drew BK123.out)
                have n1_ := Aside0.mk (below_drew1 HB.out)
                clear BK123
                clear HB
                have BK123 := n0_
                have HB := n1_
                clear n0_ n1_
                have p127 : 0 ≤ (x4_2 : Int) := of_decide_eq_true (by first | (with_reducible assumption) | assumption)
                have q127 : x4_2 < (l0_1.length : Int) := of_decide_eq_true (by first | (with_reducible assumption) | assumption)
                obtain ⟨ad127, e127, hx127_0⟩ := Kd.at_int HR0_1.out x4_2 p127 q127
                have hw127_0 := hx127_0
                cases e127
                replace hx127_0 := (HB.out.cell (World.block_lt_of_cell? w _ hx127_0)).trans hx127_0
                replace p127 := eq_true p127
                replace q127 := eq_true q127
                have p129 : 0 ≤ (0 : Int) := (by omega)
                have q129 : 0 < (l0_1.length : Int) := of_decide_eq_true (by first | (with_reducible assumption) | assumption)
                obtain ⟨ad129, e129, hx129_0⟩ := Kd.at_int HR0_1.out 0 p129 q129
                have hw129_0 := hx129_0
                (try rw [show ((0 : Int)).toNat = 0 from rfl] at hw129_0)
                (try rw [show 0 * 1 = 0 from rfl] at hw129_0)
                (try rw [Addr.add_zero'] at hw129_0)
                obtain rfl : ad127 = ad129 := (by injection e129)
                have qi129 : (0 < l0_1.length) = True := eq_true (by omega)
                (try rw [show ((0 : Int)).toNat = 0 from rfl] at hx129_0)
                (try rw [Addr.add_zero'] at hx129_0)
                replace hx129_0 := (HB.out.cell (World.block_lt_of_cell? w _ hx129_0)).trans hx129_0
                replace p129 := eq_true p129
                replace q129 := eq_true q129
                have p130 : 0 ≤ ((ji22) : Int) := of_decide_eq_true (by first | (with_reducible assumption) | assumption)
                have q130 : (ji22) < (l0_1.length : Int) := of_decide_eq_true (by first | (with_reducible assumption) | assumption)
                obtain ⟨ad130, e130, hx130_0⟩ := Kd.at_int HR0_1.out (ji22) p130 q130
                have hw130_0 := hx130_0
                obtain rfl : ad127 = ad130 := (by injection e130)
                replace hx130_0 := (HB.out.cell (World.block_lt_of_cell? w _ hx130_0)).trans hx130_0
                replace p130 := eq_true p130
                replace q130 := eq_true q130
                have p131 : 0 ≤ (x4_2 : Int) := of_decide_eq_true (by first | (with_reducible assumption) | assumption)
                have q131 : x4_2 < (l0_1.length : Int) := of_decide_eq_true (by first | (with_reducible assumption) | assumption)
                obtain ⟨ad131, e131, hx131_0⟩ := Kd.at_int HR0_1.out x4_2 p131 q131
                have hw131_0 := hx131_0
                obtain rfl : ad127 = ad131 := (by injection e131)
                replace hx131_0 := (HB.out.cell (World.block_lt_of_cell? w _ hx131_0)).trans hx131_0
                replace p131 := eq_true p131
                replace q131 := eq_true q131
                refine start_ (n := 38) (S := fun w' => w'.cell? ⟨gb123, 0, none⟩ = some (.slice A0_0 l0_0.length c0_0) ∧ w'.cell? ⟨gb123, 1, none⟩ = some (.slice (some ad127) l0_1.length c0_1) ∧ w'.cell? ⟨gb123, 2, none⟩ = some (.int .i64 a0_2) ∧ w'.cell? (ad127.add (x4_2).toNat) = some (.int .i64 (rd l0_1 x4_2)) ∧ w'.cell? ad127 = some (.int .i64 (rd l0_1 0)) ∧ w'.cell? (ad127.add ((ji22)).toNat) = some (.int .i64 (rd l0_1 (ji22))) ∧ w'.cell? (ad127.add (x4_2).toNat) = some (.int .i64 (rd l0_1 x4_2))) (ds := []) spec_ImageOk.m0 (by kernel_rfl) rfl rfl ⟨(blk_cell BK123.out 0).trans rfl, (blk_cell BK123.out 1).trans rfl, (blk_cell BK123.out 2).trans rfl, ((HB.out.cell (World.block_lt_of_cell? w _ hw127_0)).trans hw127_0), ((HB.out.cell (World.block_lt_of_cell? w _ hw129_0)).trans hw129_0), ((HB.out.cell (World.block_lt_of_cell? w _ hw130_0)).trans hw130_0), ((HB.out.cell (World.block_lt_of_cell? w _ hw131_0)).trans hw131_0)⟩ (fun hHeld => ?_); refine with_tabW spec_ImageOk.tab7 spec_ImageOk.bits7 (fun HT_ HW_ => ?_)
                generalize wr.drew = w27 at BK123 HB hx127_0 hx129_0 hx130_0 hx131_0 hHeld ⊢
                refine pur 0 35 ?_ HT_ spec_ImageOk.m1 ?_ ?_ ?_ ?_; (rotate_left; (· intro w'; go_simp; with_reducible rfl); rotate_left; (· simp only [Act.put, zz]; rfl))
                refine pur 2 37 ?_ HT_ spec_ImageOk.m2 ?_ ?_ ?_ ?_; (rotate_left; (· intro w'; go_simp; with_reducible rfl); rotate_left; (· simp only [Act.put, zz]; rfl))
                refine pur 5 40 ?_ HT_ spec_ImageOk.m3 ?_ ?_ ?_ ?_; (rotate_left; (· intro w'; go_simp; with_reducible rfl); rotate_left; (· simp only [Act.put, zz]; rfl))
                refine pur 6 41 ?_ HT_ spec_ImageOk.m4 ?_ ?_ ?_ ?_; (rotate_left; (· intro w'; go_simp; with_reducible rfl); rotate_left; (· simp only [Act.put, zz]; rfl))
                refine tak 1 36 ?_ HT_ HW_ hHeld spec_ImageOk.m5 ?_ ?_ ?_ ?_; (rotate_left; (· rintro w' ⟨s0, s1, s2, s3, s4, s5, s6⟩; go_simp; with_reducible rfl); rotate_left; (· simp only [Act.put, zz]; rfl))
                refine pur 3 38 ?_ HT_ spec_ImageOk.m6 ?_ ?_ ?_ ?_; (rotate_left; (· intro w'; go_simp; with_reducible rfl); rotate_left; (· simp only [Act.put, zz]; rfl))
                refine tak 4 39 ?_ HT_ HW_ hHeld spec_ImageOk.m7 ?_ ?_ ?_ ?_; (rotate_left; (· rintro w' ⟨s0, s1, s2, s3, s4, s5, s6⟩; go_simp; with_reducible rfl); rotate_left; (· simp only [Act.put, zz]; rfl))
                refine one_ (i := 7) (N := some 42) spec_ImageOk.m8 rfl rfl (one_of HT_.out (by kernel_rfl)) (by decide) (fun K hK => ?_)
                refine goes_ Try.func66 (by kernel_rfl) rfl #[.int .i64 (rd l0_1 x4_2), .int .i64 0, .int .i64 (wrap64 ((l0_0.length : Int) - 1))] (by rfl) rfl rfl (by first | rfl | (simp only [List.map_toArray, List.map_cons, List.map_nil, List.length_drop, List.length_take]; rfl)) ?_
                with_reducible refine (spec_l01In.calls (rd l0_1 x4_2) 0 (wrap64 ((l0_0.length : Int) - 1)) true _ A16.out).mono ?_
                rintro e w' ⟨rfl, ⟨nd, rfl⟩⟩
                refine ⟨_, rfl, ?_⟩
                refine hK.out _ _ ⟨(blk_cell BK123.out 0).trans rfl, (blk_cell BK123.out 1).trans rfl, (blk_cell BK123.out 2).trans rfl, ((HB.out.cell (World.block_lt_of_cell? w _ hw127_0)).trans hw127_0), ((HB.out.cell (World.block_lt_of_cell? w _ hw129_0)).trans hw129_0), ((HB.out.cell (World.block_lt_of_cell? w _ hw130_0)).trans hw130_0), ((HB.out.cell (World.block_lt_of_cell? w _ hw131_0)).trans hw131_0)⟩ (fun hHeld => ?_)
                clear hK K
                refine norm_ (a' := ?_) ?_ ?_
                rotate_left
                ·show Act.put _ (some 42) _ = _
                 simp only [Act.put, zz]
                 rfl
                refine pur 8 43 ?_ HT_ spec_ImageOk.m9 ?_ ?_ ?_ ?_; (rotate_left; (· intro w'; go_simp; with_reducible rfl); rotate_left; (· simp only [Act.put, zz]; rfl))
                refine pur 9 44 ?_ HT_ spec_ImageOk.m10 ?_ ?_ ?_ ?_; (rotate_left; (· intro w'; go_simp; with_reducible rfl); rotate_left; (· simp only [Act.put, zz]; rfl))
                refine pur 10 45 ?_ HT_ spec_ImageOk.m11 ?_ ?_ ?_ ?_; (rotate_left; (· intro w'; go_simp; with_reducible rfl); rotate_left; (· simp only [Act.put, zz]; rfl))
                refine pur 11 46 ?_ HT_ spec_ImageOk.m12 ?_ ?_ ?_ ?_; (rotate_left; (· intro w'; go_simp; with_reducible rfl); rotate_left; (· simp only [Act.put, zz]; rfl))
                refine pur 12 47 ?_ HT_ spec_ImageOk.m13 ?_ ?_ ?_ ?_; (rotate_left; (· intro w'; go_simp; with_reducible rfl); rotate_left; (· simp only [Act.put, zz]; rfl))
                refine pur 13 48 ?_ HT_ spec_ImageOk.m14 ?_ ?_ ?_ ?_; (rotate_left; (· intro w'; go_simp; with_reducible rfl); rotate_left; (· simp only [Act.put, zz]; rfl))
                refine tak 14 49 ?_ HT_ HW_ hHeld spec_ImageOk.m15 ?_ ?_ ?_ ?_; (rotate_left; (· rintro w' ⟨s0, s1, s2, s3, s4, s5, s6⟩; go_simp; with_reducible rfl); rotate_left; (· simp only [Act.put, zz]; rfl))
                refine pur 15 50 ?_ HT_ spec_ImageOk.m16 ?_ ?_ ?_ ?_; (rotate_left; (· intro w'; go_simp; with_reducible rfl); rotate_left; (· simp only [Act.put, zz]; rfl))
                refine tak 16 51 ?_ HT_ HW_ hHeld spec_ImageOk.m17 ?_ ?_ ?_ ?_; (rotate_left; (· rintro w' ⟨s0, s1, s2, s3, s4, s5, s6⟩; go_simp; with_reducible rfl); rotate_left; (· simp only [Act.put, zz]; rfl))
                refine pur 17 52 ?_ HT_ spec_ImageOk.m18 ?_ ?_ ?_ ?_; (rotate_left; (· intro w'; go_simp; with_reducible rfl); rotate_left; (· simp only [Act.put, zz]; rfl))
                refine pur 18 53 ?_ HT_ spec_ImageOk.m19 ?_ ?_ ?_ ?_; (rotate_left; (· intro w'; go_simp; with_reducible rfl); rotate_left; (· simp only [Act.put, zz]; rfl))
                refine pur 19 54 ?_ HT_ spec_ImageOk.m20 ?_ ?_ ?_ ?_; (rotate_left; (· intro w'; go_simp; with_reducible rfl); rotate_left; (· simp only [Act.put, zz]; rfl))
                refine pur 20 55 ?_ HT_ spec_ImageOk.m21 ?_ ?_ ?_ ?_; (rotate_left; (· intro w'; go_simp; with_reducible rfl); rotate_left; (· simp only [Act.put, zz]; rfl))
                refine pur 21 56 ?_ HT_ spec_ImageOk.m22 ?_ ?_ ?_ ?_; (rotate_left; (· intro w'; go_simp; with_reducible rfl); rotate_left; (· simp only [Act.put, zz]; rfl))
                refine pur 22 57 ?_ HT_ spec_ImageOk.m23 ?_ ?_ ?_ ?_; (rotate_left; (· intro w'; go_simp; with_reducible rfl); rotate_left; (· simp only [Act.put, zz]; rfl))
                refine pur 23 58 ?_ HT_ spec_ImageOk.m24 ?_ ?_ ?_ ?_; (rotate_left; (· intro w'; go_simp; with_reducible rfl); rotate_left; (· simp only [Act.put, zz]; rfl))
                refine pur 24 59 ?_ HT_ spec_ImageOk.m25 ?_ ?_ ?_ ?_; (rotate_left; (· intro w'; go_simp; with_reducible rfl); rotate_left; (· simp only [Act.put, zz]; rfl))
                refine pur 26 61 ?_ HT_ spec_ImageOk.m26 ?_ ?_ ?_ ?_; (rotate_left; (· intro w'; go_simp; with_reducible rfl); rotate_left; (· simp only [Act.put, zz]; rfl))
                refine pur 27 62 ?_ HT_ spec_ImageOk.m27 ?_ ?_ ?_ ?_; (rotate_left; (· intro w'; go_simp; with_reducible rfl); rotate_left; (· simp only [Act.put, zz]; rfl))
                refine pur 30 65 ?_ HT_ spec_ImageOk.m28 ?_ ?_ ?_ ?_; (rotate_left; (· intro w'; go_simp; with_reducible rfl); rotate_left; (· simp only [Act.put, zz]; rfl))
                refine pur 32 67 ?_ HT_ spec_ImageOk.m29 ?_ ?_ ?_ ?_; (rotate_left; (· intro w'; go_simp; with_reducible rfl); rotate_left; (· simp only [Act.put, zz]; rfl))
                refine tak 25 60 ?_ HT_ HW_ hHeld spec_ImageOk.m30 ?_ ?_ ?_ ?_; (rotate_left; (· rintro w' ⟨s0, s1, s2, s3, s4, s5, s6⟩; go_simp; with_reducible rfl); rotate_left; (· simp only [Act.put, zz]; rfl))
                refine pur 28 63 ?_ HT_ spec_ImageOk.m31 ?_ ?_ ?_ ?_; (rotate_left; (· intro w'; go_simp; with_reducible rfl); rotate_left; (· simp only [Act.put, zz]; rfl))
                refine tak 29 64 ?_ HT_ HW_ hHeld spec_ImageOk.m32 ?_ ?_ ?_ ?_; (rotate_left; (· rintro w' ⟨s0, s1, s2, s3, s4, s5, s6⟩; go_simp; with_reducible rfl); rotate_left; (· simp only [Act.put, zz]; rfl))
                refine tak 31 66 ?_ HT_ HW_ hHeld spec_ImageOk.m33 ?_ ?_ ?_ ?_; (rotate_left; (· rintro w' ⟨s0, s1, s2, s3, s4, s5, s6⟩; go_simp; with_reducible rfl); rotate_left; (· simp only [Act.put, zz]; rfl))
                refine pur 33 68 ?_ HT_ spec_ImageOk.m34 ?_ ?_ ?_ ?_; (rotate_left; (· intro w'; go_simp; with_reducible rfl); rotate_left; (· simp only [Act.put, zz]; rfl))
                refine tak 34 69 ?_ HT_ HW_ hHeld spec_ImageOk.m35 ?_ ?_ ?_ ?_; (rotate_left; (· rintro w' ⟨s0, s1, s2, s3, s4, s5, s6⟩; go_simp; with_reducible rfl); rotate_left; (· simp only [Act.put, zz]; rfl))
                refine pur 35 70 ?_ HT_ spec_ImageOk.m36 ?_ ?_ ?_ ?_; (rotate_left; (· intro w'; go_simp; with_reducible rfl); rotate_left; (· simp only [Act.put, zz]; rfl))
                refine pur 36 71 ?_ HT_ spec_ImageOk.m37 ?_ ?_ ?_ ?_; (rotate_left; (· intro w'; go_simp; with_reducible rfl); rotate_left; (· simp only [Act.put, zz]; rfl))
                refine pur 37 72 ?_ HT_ spec_ImageOk.m38 ?_ ?_ ?_ ?_; (rotate_left; (· intro w'; go_simp; with_reducible rfl); rotate_left; (· simp only [Act.put, zz]; rfl))
                refine done_ (done_of HT_.out (by kernel_rfl)) ?_
                try go_wp2
                go_ret
                exact ⟨by first | rfl | (simp [errW_none, errW_some] <;> rfl) | (simp only [← hji22]; first | rfl | (simp [errW_none, errW_some] <;> rfl)) | (simp [*, errW_none, errW_some] <;> rfl), by repeat (first | exact HB.out | apply below_alloc | apply pw_below_drewN | apply below_drew1 | refine below_set ?_ GE123.out)⟩
               ·rw [if_neg c25] at H
                have c25b0 : decide ((rd l0_1 x4_2) ≤ (rd l0_1 (ji22))) = false := decide_eq_false c25
                clear c25
                have H' := Aside0.mk H
                clear H
                have hcz28_0 := blk_cell BK123.out
                have hfz28_0 := blk_frozen BK123.out
                try go_wp2
                have n0_ := Aside0.mk (blk_drew BK123.out)
                have n1_ := Aside0.mk (below_drew1 HB.out)
                clear BK123
                clear HB
                have BK123 := n0_
                have HB := n1_
                clear n0_ n1_
                have p127 : 0 ≤ (x4_2 : Int) := of_decide_eq_true (by first | (with_reducible assumption) | assumption)
                have q127 : x4_2 < (l0_1.length : Int) := of_decide_eq_true (by first | (with_reducible assumption) | assumption)
                obtain ⟨ad127, e127, hx127_0⟩ := Kd.at_int HR0_1.out x4_2 p127 q127
                have hw127_0 := hx127_0
                cases e127
                replace hx127_0 := (HB.out.cell (World.block_lt_of_cell? w _ hx127_0)).trans hx127_0
                replace p127 := eq_true p127
                replace q127 := eq_true q127
                have p129 : 0 ≤ (0 : Int) := (by omega)
                have q129 : 0 < (l0_1.length : Int) := of_decide_eq_true (by first | (with_reducible assumption) | assumption)
                obtain ⟨ad129, e129, hx129_0⟩ := Kd.at_int HR0_1.out 0 p129 q129
                have hw129_0 := hx129_0
                (try rw [show ((0 : Int)).toNat = 0 from rfl] at hw129_0)
                (try rw [show 0 * 1 = 0 from rfl] at hw129_0)
                (try rw [Addr.add_zero'] at hw129_0)
                obtain rfl : ad127 = ad129 := (by injection e129)
                have qi129 : (0 < l0_1.length) = True := eq_true (by omega)
                (try rw [show ((0 : Int)).toNat = 0 from rfl] at hx129_0)
                (try rw [Addr.add_zero'] at hx129_0)
                replace hx129_0 := (HB.out.cell (World.block_lt_of_cell? w _ hx129_0)).trans hx129_0
                replace p129 := eq_true p129
                replace q129 := eq_true q129
                have p130 : 0 ≤ ((ji22) : Int) := of_decide_eq_true (by first | (with_reducible assumption) | assumption)
                have q130 : (ji22) < (l0_1.length : Int) := of_decide_eq_true (by first | (with_reducible assumption) | assumption)
                obtain ⟨ad130, e130, hx130_0⟩ := Kd.at_int HR0_1.out (ji22) p130 q130
                have hw130_0 := hx130_0
                obtain rfl : ad127 = ad130 := (by injection e130)
                replace hx130_0 := (HB.out.cell (World.block_lt_of_cell? w _ hx130_0)).trans hx130_0
                replace p130 := eq_true p130
                replace q130 := eq_true q130
                have p131 : 0 ≤ (x4_2 : Int) := of_decide_eq_true (by first | (with_reducible assumption) | assumption)
                have q131 : x4_2 < (l0_1.length : Int) := of_decide_eq_true (by first | (with_reducible assumption) | assumption)
                obtain ⟨ad131, e131, hx131_0⟩ := Kd.at_int HR0_1.out x4_2 p131 q131
                have hw131_0 := hx131_0
                obtain rfl : ad127 = ad131 := (by injection e131)
                replace hx131_0 := (HB.out.cell (World.block_lt_of_cell? w _ hx131_0)).trans hx131_0
                replace p131 := eq_true p131
                replace q131 := eq_true q131
                refine start_ (n := 38) (S := fun w' => w'.cell? ⟨gb123, 0, none⟩ = some (.slice A0_0 l0_0.length c0_0) ∧ w'.cell? ⟨gb123, 1, none⟩ = some (.slice (some ad127) l0_1.length c0_1) ∧ w'.cell? ⟨gb123, 2, none⟩ = some (.int .i64 a0_2) ∧ w'.cell? (ad127.add (x4_2).toNat) = some (.int .i64 (rd l0_1 x4_2)) ∧ w'.cell? ad127 = some (.int .i64 (rd l0_1 0)) ∧ w'.cell? (ad127.add ((ji22)).toNat) = some (.int .i64 (rd l0_1 (ji22))) ∧ w'.cell? (ad127.add (x4_2).toNat) = some (.int .i64 (rd l0_1 x4_2))) (ds := []) spec_ImageOk.m0 (by kernel_rfl) rfl rfl ⟨(blk_cell BK123.out 0).trans rfl, (blk_cell BK123.out 1).trans rfl, (blk_cell BK123.out 2).trans rfl, ((HB.out.cell (World.block_lt_of_cell? w _ hw127_0)).trans hw127_0), ((HB.out.cell (World.block_lt_of_cell? w _ hw129_0)).trans hw129_0), ((HB.out.cell (World.block_lt_of_cell? w _ hw130_0)).trans hw130_0), ((HB.out.cell (World.block_lt_of_cell? w _ hw131_0)).trans hw131_0)⟩ (fun hHeld => ?_); refine with_tabW spec_ImageOk.tab7 spec_ImageOk.bits7 (fun HT_ HW_ => ?_)
                generalize wr.drew = w29 at BK123 HB hx127_0 hx129_0 hx130_0 hx131_0 hHeld ⊢
                refine pur 0 35 ?_ HT_ spec_ImageOk.m1 ?_ ?_ ?_ ?_; (rotate_left; (· intro w'; go_simp; with_reducible rfl); rotate_left; (· simp only [Act.put, zz]; rfl))
                refine pur 2 37 ?_ HT_ spec_ImageOk.m2 ?_ ?_ ?_ ?_; (rotate_left; (· intro w'; go_simp; with_reducible rfl); rotate_left; (· simp only [Act.put, zz]; rfl))
                refine pur 5 40 ?_ HT_ spec_ImageOk.m3 ?_ ?_ ?_ ?_; (rotate_left; (· intro w'; go_simp; with_reducible rfl); rotate_left; (· simp only [Act.put, zz]; rfl))
                refine pur 6 41 ?_ HT_ spec_ImageOk.m4 ?_ ?_ ?_ ?_; (rotate_left; (· intro w'; go_simp; with_reducible rfl); rotate_left; (· simp only [Act.put, zz]; rfl))
                refine tak 1 36 ?_ HT_ HW_ hHeld spec_ImageOk.m5 ?_ ?_ ?_ ?_; (rotate_left; (· rintro w' ⟨s0, s1, s2, s3, s4, s5, s6⟩; go_simp; with_reducible rfl); rotate_left; (· simp only [Act.put, zz]; rfl))
                refine pur 3 38 ?_ HT_ spec_ImageOk.m6 ?_ ?_ ?_ ?_; (rotate_left; (· intro w'; go_simp; with_reducible rfl); rotate_left; (· simp only [Act.put, zz]; rfl))
                refine tak 4 39 ?_ HT_ HW_ hHeld spec_ImageOk.m7 ?_ ?_ ?_ ?_; (rotate_left; (· rintro w' ⟨s0, s1, s2, s3, s4, s5, s6⟩; go_simp; with_reducible rfl); rotate_left; (· simp only [Act.put, zz]; rfl))
                refine one_ (i := 7) (N := some 42) spec_ImageOk.m8 rfl rfl (one_of HT_.out (by kernel_rfl)) (by decide) (fun K hK => ?_)
                refine goes_ Try.func66 (by kernel_rfl) rfl #[.int .i64 (rd l0_1 x4_2), .int .i64 0, .int .i64 (wrap64 ((l0_0.length : Int) - 1))] (by rfl) rfl rfl (by first | rfl | (simp only [List.map_toArray, List.map_cons, List.map_nil, List.length_drop, List.length_take]; rfl)) ?_
                with_reducible refine (spec_l01In.calls (rd l0_1 x4_2) 0 (wrap64 ((l0_0.length : Int) - 1)) true _ A16.out).mono ?_
                rintro e w' ⟨rfl, ⟨nd, rfl⟩⟩
                refine ⟨_, rfl, ?_⟩
                refine hK.out _ _ ⟨(blk_cell BK123.out 0).trans rfl, (blk_cell BK123.out 1).trans rfl, (blk_cell BK123.out 2).trans rfl, ((HB.out.cell (World.block_lt_of_cell? w _ hw127_0)).trans hw127_0), ((HB.out.cell (World.block_lt_of_cell? w _ hw129_0)).trans hw129_0), ((HB.out.cell (World.block_lt_of_cell? w _ hw130_0)).trans hw130_0), ((HB.out.cell (World.block_lt_of_cell? w _ hw131_0)).trans hw131_0)⟩ (fun hHeld => ?_)
                clear hK K
                refine norm_ (a' := ?_) ?_ ?_
                rotate_left
                ·show Act.put _ (some 42) _ = _
                 simp only [Act.put, zz]
                 rfl
                refine pur 8 43 ?_ HT_ spec_ImageOk.m9 ?_ ?_ ?_ ?_; (rotate_left; (· intro w'; go_simp; with_reducible rfl); rotate_left; (· simp only [Act.put, zz]; rfl))
                refine pur 9 44 ?_ HT_ spec_ImageOk.m10 ?_ ?_ ?_ ?_; (rotate_left; (· intro w'; go_simp; with_reducible rfl); rotate_left; (· simp only [Act.put, zz]; rfl))
                refine pur 10 45 ?_ HT_ spec_ImageOk.m11 ?_ ?_ ?_ ?_; (rotate_left; (· intro w'; go_simp; with_reducible rfl); rotate_left; (· simp only [Act.put, zz]; rfl))
                refine pur 11 46 ?_ HT_ spec_ImageOk.m12 ?_ ?_ ?_ ?_; (rotate_left; (· intro w'; go_simp; with_reducible rfl); rotate_left; (· simp only [Act.put, zz]; rfl))
                refine pur 12 47 ?_ HT_ spec_ImageOk.m13 ?_ ?_ ?_ ?_; (rotate_left; (· intro w'; go_simp; with_reducible rfl); rotate_left; (· simp only [Act.put, zz]; rfl))
                refine pur 13 48 ?_ HT_ spec_ImageOk.m14 ?_ ?_ ?_ ?_; (rotate_left; (· intro w'; go_simp; with_reducible rfl); rotate_left; (· simp only [Act.put, zz]; rfl))
                refine tak 14 49 ?_ HT_ HW_ hHeld spec_ImageOk.m15 ?_ ?_ ?_ ?_; (rotate_left; (· rintro w' ⟨s0, s1, s2, s3, s4, s5, s6⟩; go_simp; with_reducible rfl); rotate_left; (· simp only [Act.put, zz]; rfl))
                refine pur 15 50 ?_ HT_ spec_ImageOk.m16 ?_ ?_ ?_ ?_; (rotate_left; (· intro w'; go_simp; with_reducible rfl); rotate_left; (· simp only [Act.put, zz]; rfl))
                refine tak 16 51 ?_ HT_ HW_ hHeld spec_ImageOk.m17 ?_ ?_ ?_ ?_; (rotate_left; (· rintro w' ⟨s0, s1, s2, s3, s4, s5, s6⟩; go_simp; with_reducible rfl); rotate_left; (· simp only [Act.put, zz]; rfl))
                refine pur 17 52 ?_ HT_ spec_ImageOk.m18 ?_ ?_ ?_ ?_; (rotate_left; (· intro w'; go_simp; with_reducible rfl); rotate_left; (· simp only [Act.put, zz]; rfl))
                refine pur 18 53 ?_ HT_ spec_ImageOk.m19 ?_ ?_ ?_ ?_; (rotate_left; (· intro w'; go_simp; with_reducible rfl); rotate_left; (· simp only [Act.put, zz]; rfl))
                refine pur 19 54 ?_ HT_ spec_ImageOk.m20 ?_ ?_ ?_ ?_; (rotate_left; (· intro w'; go_simp; with_reducible rfl); rotate_left; (· simp only [Act.put, zz]; rfl))
                refine pur 20 55 ?_ HT_ spec_ImageOk.m21 ?_ ?_ ?_ ?_; (rotate_left; (· intro w'; go_simp; with_reducible rfl); rotate_left; (· simp only [Act.put, zz]; rfl))
                refine pur 21 56 ?_ HT_ spec_ImageOk.m22 ?_ ?_ ?_ ?_; (rotate_left; (· intro w'; go_simp; with_reducible rfl); rotate_left; (· simp only [Act.put, zz]; rfl))
                refine pur 22 57 ?_ HT_ spec_ImageOk.m23 ?_ ?_ ?_ ?_; (rotate_left; (· intro w'; go_simp; with_reducible rfl); rotate_left; (· simp only [Act.put, zz]; rfl))
                refine pur 23 58 ?_ HT_ spec_ImageOk.m24 ?_ ?_ ?_ ?_; (rotate_left; (· intro w'; go_simp; with_reducible rfl); rotate_left; (· simp only [Act.put, zz]; rfl))
                refine pur 24 59 ?_ HT_ spec_ImageOk.m25 ?_ ?_ ?_ ?_; (rotate_left; (· intro w'; go_simp; with_reducible rfl); rotate_left; (· simp only [Act.put, zz]; rfl))
                refine pur 26 61 ?_ HT_ spec_ImageOk.m26 ?_ ?_ ?_ ?_; (rotate_left; (· intro w'; go_simp; with_reducible rfl); rotate_left; (· simp only [Act.put, zz]; rfl))
                refine pur 27 62 ?_ HT_ spec_ImageOk.m27 ?_ ?_ ?_ ?_; (rotate_left; (· intro w'; go_simp; with_reducible rfl); rotate_left; (· simp only [Act.put, zz]; rfl))
                refine pur 30 65 ?_ HT_ spec_ImageOk.m28 ?_ ?_ ?_ ?_; (rotate_left; (· intro w'; go_simp; with_reducible rfl); rotate_left; (· simp only [Act.put, zz]; rfl))
                refine pur 32 67 ?_ HT_ spec_ImageOk.m29 ?_ ?_ ?_ ?_; (rotate_left; (· intro w'; go_simp; with_reducible rfl); rotate_left; (· simp only [Act.put, zz]; rfl))
                refine tak 25 60 ?_ HT_ HW_ hHeld spec_ImageOk.m30 ?_ ?_ ?_ ?_; (rotate_left; (· rintro w' ⟨s0, s1, s2, s3, s4, s5, s6⟩; go_simp; with_reducible rfl); rotate_left; (· simp only [Act.put, zz]; rfl))
                refine pur 28 63 ?_ HT_ spec_ImageOk.m31 ?_ ?_ ?_ ?_; (rotate_left; (· intro w'; go_simp; with_reducible rfl); rotate_left; (· simp only [Act.put, zz]; rfl))
                refine tak 29 64 ?_ HT_ HW_ hHeld spec_ImageOk.m32 ?_ ?_ ?_ ?_; (rotate_left; (· rintro w' ⟨s0, s1, s2, s3, s4, s5, s6⟩; go_simp; with_reducible rfl); rotate_left; (· simp only [Act.put, zz]; rfl))
                refine tak 31 66 ?_ HT_ HW_ hHeld spec_ImageOk.m33 ?_ ?_ ?_ ?_; (rotate_left; (· rintro w' ⟨s0, s1, s2, s3, s4, s5, s6⟩; go_simp; with_reducible rfl); rotate_left; (· simp only [Act.put, zz]; rfl))
                refine pur 33 68 ?_ HT_ spec_ImageOk.m34 ?_ ?_ ?_ ?_; (rotate_left; (· intro w'; go_simp; with_reducible rfl); rotate_left; (· simp only [Act.put, zz]; rfl))
                refine tak 34 69 ?_ HT_ HW_ hHeld spec_ImageOk.m35 ?_ ?_ ?_ ?_; (rotate_left; (· rintro w' ⟨s0, s1, s2, s3, s4, s5, s6⟩; go_simp; with_reducible rfl); rotate_left; (· simp only [Act.put, zz]; rfl))
                refine pur 35 70 ?_ HT_ spec_ImageOk.m36 ?_ ?_ ?_ ?_; (rotate_left; (· intro w'; go_simp; with_reducible rfl); rotate_left; (· simp only [Act.put, zz]; rfl))
                refine pur 36 71 ?_ HT_ spec_ImageOk.m37 ?_ ?_ ?_ ?_; (rotate_left; (· intro w'; go_simp; with_reducible rfl); rotate_left; (· simp only [Act.put, zz]; rfl))
                refine pur 37 72 ?_ HT_ spec_ImageOk.m38 ?_ ?_ ?_ ?_; (rotate_left; (· intro w'; go_simp; with_reducible rfl); rotate_left; (· simp only [Act.put, zz]; rfl))
                refine done_ (done_of HT_.out (by kernel_rfl)) ?_
                try go_wp2
                go_roundg k2
                case measure => have := HJ1.out; have := HK2.out; omega
                case rel => exact ⟨(wrap64 (x4_2 + 1)), (by first | rfl | (simp; done) | (simp [*]; done)), H', ⟨by have := HJ1.out; have := HK2.out; omega⟩, ⟨by (with_reducible repeat (first | refine blk_drewN ?_ _ | refine blk_drew ?_ | refine blk_alloc ?_ _)); exact BK123.out⟩, ⟨by repeat (first | exact HB.out | apply below_alloc | apply pw_below_drewN | apply below_drew1 | refine below_set ?_ GE123.out)⟩⟩
              ·rw [if_neg c24] at H
               exact absurd H (by simp)
             ·rw [if_neg c23] at H
              exact absurd H (by simp)
            ·rw [if_neg c21] at H
             have c21b0 : decide (0 < x4_2) = false := decide_eq_false c21
             clear c21
             have H' := Aside0.mk H
             clear H
             have hcz30_0 := blk_cell BK123.out
             have hfz30_0 := blk_frozen BK123.out
             try go_wp2
             have n0_ := Aside0.mk (blk_drew BK123.out)
             have n1_ := Aside0.mk (below_drew1 HB.out)
             clear BK123
             clear HB
             have BK123 := n0_
             have HB := n1_
             clear n0_ n1_
             have p127 : 0 ≤ (x4_2 : Int) := of_decide_eq_true (by first | (with_reducible assumption) | assumption)
             have q127 : x4_2 < (l0_1.length : Int) := of_decide_eq_true (by first | (with_reducible assumption) | assumption)
             obtain ⟨ad127, e127, hx127_0⟩ := Kd.at_int HR0_1.out x4_2 p127 q127
             have hw127_0 := hx127_0
             cases e127
             replace hx127_0 := (HB.out.cell (World.block_lt_of_cell? w _ hx127_0)).trans hx127_0
             replace p127 := eq_true p127
             replace q127 := eq_true q127
             have p129 : 0 ≤ (0 : Int) := (by omega)
             have q129 : 0 < (l0_1.length : Int) := of_decide_eq_true (by first | (with_reducible assumption) | assumption)
             obtain ⟨ad129, e129, hx129_0⟩ := Kd.at_int HR0_1.out 0 p129 q129
             have hw129_0 := hx129_0
             (try rw [show ((0 : Int)).toNat = 0 from rfl] at hw129_0)
             (try rw [show 0 * 1 = 0 from rfl] at hw129_0)
             (try rw [Addr.add_zero'] at hw129_0)
             obtain rfl : ad127 = ad129 := (by injection e129)
             have qi129 : (0 < l0_1.length) = True := eq_true (by omega)
             (try rw [show ((0 : Int)).toNat = 0 from rfl] at hx129_0)
             (try rw [Addr.add_zero'] at hx129_0)
             replace hx129_0 := (HB.out.cell (World.block_lt_of_cell? w _ hx129_0)).trans hx129_0
             replace p129 := eq_true p129
             replace q129 := eq_true q129
             refine start_ (n := 38) (S := fun w' => w'.cell? ⟨gb123, 0, none⟩ = some (.slice A0_0 l0_0.length c0_0) ∧ w'.cell? ⟨gb123, 1, none⟩ = some (.slice (some ad127) l0_1.length c0_1) ∧ w'.cell? ⟨gb123, 2, none⟩ = some (.int .i64 a0_2) ∧ w'.cell? (ad127.add (x4_2).toNat) = some (.int .i64 (rd l0_1 x4_2)) ∧ w'.cell? ad127 = some (.int .i64 (rd l0_1 0))) (ds := []) spec_ImageOk.m0 (by kernel_rfl) rfl rfl ⟨(blk_cell BK123.out 0).trans rfl, (blk_cell BK123.out 1).trans rfl, (blk_cell BK123.out 2).trans rfl, ((HB.out.cell (World.block_lt_of_cell? w _ hw127_0)).trans hw127_0), ((HB.out.cell (World.block_lt_of_cell? w _ hw129_0)).trans hw129_0)⟩ (fun hHeld => ?_); refine with_tabW spec_ImageOk.tab7 spec_ImageOk.bits7 (fun HT_ HW_ => ?_)
             generalize wr.drew = w31 at BK123 HB hx127_0 hx129_0 hHeld ⊢
             refine pur 0 35 ?_ HT_ spec_ImageOk.m1 ?_ ?_ ?_ ?_; (rotate_left; (· intro w'; go_simp; with_reducible rfl); rotate_left; (· simp only [Act.put, zz]; rfl))
             refine pur 2 37 ?_ HT_ spec_ImageOk.m2 ?_ ?_ ?_ ?_; (rotate_left; (· intro w'; go_simp; with_reducible rfl); rotate_left; (· simp only [Act.put, zz]; rfl))
             refine pur 5 40 ?_ HT_ spec_ImageOk.m3 ?_ ?_ ?_ ?_; (rotate_left; (· intro w'; go_simp; with_reducible rfl); rotate_left; (· simp only [Act.put, zz]; rfl))
             refine pur 6 41 ?_ HT_ spec_ImageOk.m4 ?_ ?_ ?_ ?_; (rotate_left; (· intro w'; go_simp; with_reducible rfl); rotate_left; (· simp only [Act.put, zz]; rfl))
             refine tak 1 36 ?_ HT_ HW_ hHeld spec_ImageOk.m5 ?_ ?_ ?_ ?_; (rotate_left; (· rintro w' ⟨s0, s1, s2, s3, s4⟩; go_simp; with_reducible rfl); rotate_left; (· simp only [Act.put, zz]; rfl))
             refine pur 3 38 ?_ HT_ spec_ImageOk.m6 ?_ ?_ ?_ ?_; (rotate_left; (· intro w'; go_simp; with_reducible rfl); rotate_left; (· simp only [Act.put, zz]; rfl))
             refine tak 4 39 ?_ HT_ HW_ hHeld spec_ImageOk.m7 ?_ ?_ ?_ ?_; (rotate_left; (· rintro w' ⟨s0, s1, s2, s3, s4⟩; go_simp; with_reducible rfl); rotate_left; (· simp only [Act.put, zz]; rfl))
             refine one_ (i := 7) (N := some 42) spec_ImageOk.m8 rfl rfl (one_of HT_.out (by kernel_rfl)) (by decide) (fun K hK => ?_)
             refine goes_ Try.func66 (by kernel_rfl) rfl #[.int .i64 (rd l0_1 x4_2), .int .i64 0, .int .i64 (wrap64 ((l0_0.length : Int) - 1))] (by rfl) rfl rfl (by first | rfl | (simp only [List.map_toArray, List.map_cons, List.map_nil, List.length_drop, List.length_take]; rfl)) ?_
             with_reducible refine (spec_l01In.calls (rd l0_1 x4_2) 0 (wrap64 ((l0_0.length : Int) - 1)) true _ A16.out).mono ?_
             rintro e w' ⟨rfl, ⟨nd, rfl⟩⟩
             refine ⟨_, rfl, ?_⟩
             refine hK.out _ _ ⟨(blk_cell BK123.out 0).trans rfl, (blk_cell BK123.out 1).trans rfl, (blk_cell BK123.out 2).trans rfl, ((HB.out.cell (World.block_lt_of_cell? w _ hw127_0)).trans hw127_0), ((HB.out.cell (World.block_lt_of_cell? w _ hw129_0)).trans hw129_0)⟩ (fun hHeld => ?_)
             clear hK K
             refine norm_ (a' := ?_) ?_ ?_
             rotate_left
             ·show Act.put _ (some 42) _ = _
              simp only [Act.put, zz]
              rfl
             refine pur 8 43 ?_ HT_ spec_ImageOk.m9 ?_ ?_ ?_ ?_; (rotate_left; (· intro w'; go_simp; with_reducible rfl); rotate_left; (· simp only [Act.put, zz]; rfl))
             refine pur 9 44 ?_ HT_ spec_ImageOk.m10 ?_ ?_ ?_ ?_; (rotate_left; (· intro w'; go_simp; with_reducible rfl); rotate_left; (· simp only [Act.put, zz]; rfl))
             refine pur 10 45 ?_ HT_ spec_ImageOk.m11 ?_ ?_ ?_ ?_; (rotate_left; (· intro w'; go_simp; with_reducible rfl); rotate_left; (· simp only [Act.put, zz]; rfl))
             refine pur 11 46 ?_ HT_ spec_ImageOk.m12 ?_ ?_ ?_ ?_; (rotate_left; (· intro w'; go_simp; with_reducible rfl); rotate_left; (· simp only [Act.put, zz]; rfl))
             refine pur 12 47 ?_ HT_ spec_ImageOk.m13 ?_ ?_ ?_ ?_; (rotate_left; (· intro w'; go_simp; with_reducible rfl); rotate_left; (· simp only [Act.put, zz]; rfl))
             refine pur 13 48 ?_ HT_ spec_ImageOk.m14 ?_ ?_ ?_ ?_; (rotate_left; (· intro w'; go_simp; with_reducible rfl); rotate_left; (· simp only [Act.put, zz]; rfl))
             refine tak 14 49 ?_ HT_ HW_ hHeld spec_ImageOk.m15 ?_ ?_ ?_ ?_; (rotate_left; (· rintro w' ⟨s0, s1, s2, s3, s4⟩; go_simp; with_reducible rfl); rotate_left; (· simp only [Act.put, zz]; rfl))
             refine pur 15 50 ?_ HT_ spec_ImageOk.m16 ?_ ?_ ?_ ?_; (rotate_left; (· intro w'; go_simp; with_reducible rfl); rotate_left; (· simp only [Act.put, zz]; rfl))
             refine tak 16 51 ?_ HT_ HW_ hHeld spec_ImageOk.m17 ?_ ?_ ?_ ?_; (rotate_left; (· rintro w' ⟨s0, s1, s2, s3, s4⟩; go_simp; with_reducible rfl); rotate_left; (· simp only [Act.put, zz]; rfl))
             refine pur 17 52 ?_ HT_ spec_ImageOk.m18 ?_ ?_ ?_ ?_; (rotate_left; (· intro w'; go_simp; with_reducible rfl); rotate_left; (· simp only [Act.put, zz]; rfl))
             refine pur 18 53 ?_ HT_ spec_ImageOk.m19 ?_ ?_ ?_ ?_; (rotate_left; (· intro w'; go_simp; with_reducible rfl); rotate_left; (· simp only [Act.put, zz]; rfl))
             refine pur 19 54 ?_ HT_ spec_ImageOk.m20 ?_ ?_ ?_ ?_; (rotate_left; (· intro w'; go_simp; with_reducible rfl); rotate_left; (· simp only [Act.put, zz]; rfl))
             refine pur 20 55 ?_ HT_ spec_ImageOk.m21 ?_ ?_ ?_ ?_; (rotate_left; (· intro w'; go_simp; with_reducible rfl); rotate_left; (· simp only [Act.put, zz]; rfl))
             refine pur 21 56 ?_ HT_ spec_ImageOk.m22 ?_ ?_ ?_ ?_; (rotate_left; (· intro w'; go_simp; with_reducible rfl); rotate_left; (· simp only [Act.put, zz]; rfl))
             refine pur 22 57 ?_ HT_ spec_ImageOk.m23 ?_ ?_ ?_ ?_; (rotate_left; (· intro w'; go_simp; with_reducible rfl); rotate_left; (· simp only [Act.put, zz]; rfl))
             refine pur 23 58 ?_ HT_ spec_ImageOk.m24 ?_ ?_ ?_ ?_; (rotate_left; (· intro w'; go_simp; with_reducible rfl); rotate_left; (· simp only [Act.put, zz]; rfl))
             refine pun 24 59 HT_ spec_ImageOk.m25 ?_ ?_ ?_; (rotate_left; (· simp only [Act.put, zz]; rfl))
             refine pun 25 60 HT_ spec_ImageOk.m39 ?_ ?_ ?_; (rotate_left; (· simp only [Act.put, zz]; rfl))
             refine pun 26 61 HT_ spec_ImageOk.m40 ?_ ?_ ?_; (rotate_left; (· simp only [Act.put, zz]; rfl))
             refine pun 27 62 HT_ spec_ImageOk.m41 ?_ ?_ ?_; (rotate_left; (· simp only [Act.put, zz]; rfl))
             refine pun 28 63 HT_ spec_ImageOk.m42 ?_ ?_ ?_; (rotate_left; (· simp only [Act.put, zz]; rfl))
             refine pun 29 64 HT_ spec_ImageOk.m43 ?_ ?_ ?_; (rotate_left; (· simp only [Act.put, zz]; rfl))
             refine pun 30 65 HT_ spec_ImageOk.m44 ?_ ?_ ?_; (rotate_left; (· simp only [Act.put, zz]; rfl))
             refine pun 31 66 HT_ spec_ImageOk.m45 ?_ ?_ ?_; (rotate_left; (· simp only [Act.put, zz]; rfl))
             refine pun 32 67 HT_ spec_ImageOk.m33 ?_ ?_ ?_; (rotate_left; (· simp only [Act.put, zz]; rfl))
             refine pun 33 68 HT_ spec_ImageOk.m34 ?_ ?_ ?_; (rotate_left; (· simp only [Act.put, zz]; rfl))
             refine pun 34 69 HT_ spec_ImageOk.m35 ?_ ?_ ?_; (rotate_left; (· simp only [Act.put, zz]; rfl))
             refine pun 35 70 HT_ spec_ImageOk.m36 ?_ ?_ ?_; (rotate_left; (· simp only [Act.put, zz]; rfl))
             refine pur 36 71 ?_ HT_ spec_ImageOk.m37 ?_ ?_ ?_ ?_; (rotate_left; (· intro w'; go_simp; with_reducible rfl); rotate_left; (· simp only [Act.put, zz]; rfl))
             refine pur 37 72 ?_ HT_ spec_ImageOk.m38 ?_ ?_ ?_ ?_; (rotate_left; (· intro w'; go_simp; with_reducible rfl); rotate_left; (· simp only [Act.put, zz]; rfl))
             refine done_ (done_of HT_.out (by kernel_rfl)) ?_
             try go_wp2
             go_roundg k2
             case measure => have := HJ1.out; have := HK2.out; omega
             case rel => exact ⟨(wrap64 (x4_2 + 1)), (by first | rfl | (simp; done) | (simp [*]; done)), H', ⟨by have := HJ1.out; have := HK2.out; omega⟩, ⟨by (with_reducible repeat (first | refine blk_drewN ?_ _ | refine blk_drew ?_ | refine blk_alloc ?_ _)); exact BK123.out⟩, ⟨by repeat (first | exact HB.out | apply below_alloc | apply pw_below_drewN | apply below_drew1 | refine below_set ?_ GE123.out)⟩⟩
           ·rw [if_neg c20] at H
            have c20b0 : ((rd l0_1 0) == 0) = false := beq_eq_false_iff_ne.mpr c20
            have c20b1 : ((rd l0_1 0) != 0) = true := bne_iff_ne.mpr c20
            obtain rfl := Option.some.inj H
            have hcz32_0 := blk_cell BK123.out
            have hfz32_0 := blk_frozen BK123.out
            try go_wp2
            have n0_ := Aside0.mk (blk_drew BK123.out)
            have n1_ := Aside0.mk (below_drew1 HB.out)
            clear BK123
            clear HB
            have BK123 := n0_
            have HB := n1_
            clear n0_ n1_
            have p127 : 0 ≤ (x4_2 : Int) := of_decide_eq_true (by first | (with_reducible assumption) | assumption)
            have q127 : x4_2 < (l0_1.length : Int) := of_decide_eq_true (by first | (with_reducible assumption) | assumption)
            obtain ⟨ad127, e127, hx127_0⟩ := Kd.at_int HR0_1.out x4_2 p127 q127
            have hw127_0 := hx127_0
            cases e127
            replace hx127_0 := (HB.out.cell (World.block_lt_of_cell? w _ hx127_0)).trans hx127_0
            replace p127 := eq_true p127
            replace q127 := eq_true q127
            have p129 : 0 ≤ (0 : Int) := (by omega)
            have q129 : 0 < (l0_1.length : Int) := of_decide_eq_true (by first | (with_reducible assumption) | assumption)
            obtain ⟨ad129, e129, hx129_0⟩ := Kd.at_int HR0_1.out 0 p129 q129
            have hw129_0 := hx129_0
            (try rw [show ((0 : Int)).toNat = 0 from rfl] at hw129_0)
            (try rw [show 0 * 1 = 0 from rfl] at hw129_0)
            (try rw [Addr.add_zero'] at hw129_0)
            obtain rfl : ad127 = ad129 := (by injection e129)
            have qi129 : (0 < l0_1.length) = True := eq_true (by omega)
            (try rw [show ((0 : Int)).toNat = 0 from rfl] at hx129_0)
            (try rw [Addr.add_zero'] at hx129_0)
            replace hx129_0 := (HB.out.cell (World.block_lt_of_cell? w _ hx129_0)).trans hx129_0
            replace p129 := eq_true p129
            replace q129 := eq_true q129
            refine start_ (n := 38) (S := fun w' => w'.cell? ⟨gb123, 0, none⟩ = some (.slice A0_0 l0_0.length c0_0) ∧ w'.cell? ⟨gb123, 1, none⟩ = some (.slice (some ad127) l0_1.length c0_1) ∧ w'.cell? ⟨gb123, 2, none⟩ = some (.int .i64 a0_2) ∧ w'.cell? (ad127.add (x4_2).toNat) = some (.int .i64 (rd l0_1 x4_2)) ∧ w'.cell? ad127 = some (.int .i64 (rd l0_1 0))) (ds := []) spec_ImageOk.m0 (by kernel_rfl) rfl rfl ⟨(blk_cell BK123.out 0).trans rfl, (blk_cell BK123.out 1).trans rfl, (blk_cell BK123.out 2).trans rfl, ((HB.out.cell (World.block_lt_of_cell? w _ hw127_0)).trans hw127_0), ((HB.out.cell (World.block_lt_of_cell? w _ hw129_0)).trans hw129_0)⟩ (fun hHeld => ?_); refine with_tabW spec_ImageOk.tab7 spec_ImageOk.bits7 (fun HT_ HW_ => ?_)
            generalize wr.drew = w33 at BK123 HB hx127_0 hx129_0 hHeld ⊢
            refine pur 0 35 ?_ HT_ spec_ImageOk.m1 ?_ ?_ ?_ ?_; (rotate_left; (· intro w'; go_simp; with_reducible rfl); rotate_left; (· simp only [Act.put, zz]; rfl))
            refine pur 2 37 ?_ HT_ spec_ImageOk.m2 ?_ ?_ ?_ ?_; (rotate_left; (· intro w'; go_simp; with_reducible rfl); rotate_left; (· simp only [Act.put, zz]; rfl))
            refine pur 5 40 ?_ HT_ spec_ImageOk.m3 ?_ ?_ ?_ ?_; (rotate_left; (· intro w'; go_simp; with_reducible rfl); rotate_left; (· simp only [Act.put, zz]; rfl))
            refine pur 6 41 ?_ HT_ spec_ImageOk.m4 ?_ ?_ ?_ ?_; (rotate_left; (· intro w'; go_simp; with_reducible rfl); rotate_left; (· simp only [Act.put, zz]; rfl))
            refine tak 1 36 ?_ HT_ HW_ hHeld spec_ImageOk.m5 ?_ ?_ ?_ ?_; (rotate_left; (· rintro w' ⟨s0, s1, s2, s3, s4⟩; go_simp; with_reducible rfl); rotate_left; (· simp only [Act.put, zz]; rfl))
            refine pur 3 38 ?_ HT_ spec_ImageOk.m6 ?_ ?_ ?_ ?_; (rotate_left; (· intro w'; go_simp; with_reducible rfl); rotate_left; (· simp only [Act.put, zz]; rfl))
            refine tak 4 39 ?_ HT_ HW_ hHeld spec_ImageOk.m7 ?_ ?_ ?_ ?_; (rotate_left; (· rintro w' ⟨s0, s1, s2, s3, s4⟩; go_simp; with_reducible rfl); rotate_left; (· simp only [Act.put, zz]; rfl))
            refine one_ (i := 7) (N := some 42) spec_ImageOk.m8 rfl rfl (one_of HT_.out (by kernel_rfl)) (by decide) (fun K hK => ?_)
            refine goes_ Try.func66 (by kernel_rfl) rfl #[.int .i64 (rd l0_1 x4_2), .int .i64 0, .int .i64 (wrap64 ((l0_0.length : Int) - 1))] (by rfl) rfl rfl (by first | rfl | (simp only [List.map_toArray, List.map_cons, List.map_nil, List.length_drop, List.length_take]; rfl)) ?_
            with_reducible refine (spec_l01In.calls (rd l0_1 x4_2) 0 (wrap64 ((l0_0.length : Int) - 1)) true _ A16.out).mono ?_
            rintro e w' ⟨rfl, ⟨nd, rfl⟩⟩
            refine ⟨_, rfl, ?_⟩
            refine hK.out _ _ ⟨(blk_cell BK123.out 0).trans rfl, (blk_cell BK123.out 1).trans rfl, (blk_cell BK123.out 2).trans rfl, ((HB.out.cell (World.block_lt_of_cell? w _ hw127_0)).trans hw127_0), ((HB.out.cell (World.block_lt_of_cell? w _ hw129_0)).trans hw129_0)⟩ (fun hHeld => ?_)
            clear hK K
            refine norm_ (a' := ?_) ?_ ?_
            rotate_left
            ·show Act.put _ (some 42) _ = _
             simp only [Act.put, zz]
             rfl
            refine pur 8 43 ?_ HT_ spec_ImageOk.m9 ?_ ?_ ?_ ?_; (rotate_left; (· intro w'; go_simp; with_reducible rfl); rotate_left; (· simp only [Act.put, zz]; rfl))
            refine pur 9 44 ?_ HT_ spec_ImageOk.m10 ?_ ?_ ?_ ?_; (rotate_left; (· intro w'; go_simp; with_reducible rfl); rotate_left; (· simp only [Act.put, zz]; rfl))
            refine pur 10 45 ?_ HT_ spec_ImageOk.m11 ?_ ?_ ?_ ?_; (rotate_left; (· intro w'; go_simp; with_reducible rfl); rotate_left; (· simp only [Act.put, zz]; rfl))
            refine pur 11 46 ?_ HT_ spec_ImageOk.m12 ?_ ?_ ?_ ?_; (rotate_left; (· intro w'; go_simp; with_reducible rfl); rotate_left; (· simp only [Act.put, zz]; rfl))
            refine pur 12 47 ?_ HT_ spec_ImageOk.m13 ?_ ?_ ?_ ?_; (rotate_left; (· intro w'; go_simp; with_reducible rfl); rotate_left; (· simp only [Act.put, zz]; rfl))
            refine pur 13 48 ?_ HT_ spec_ImageOk.m14 ?_ ?_ ?_ ?_; (rotate_left; (· intro w'; go_simp; with_reducible rfl); rotate_left; (· simp only [Act.put, zz]; rfl))
            refine tak 14 49 ?_ HT_ HW_ hHeld spec_ImageOk.m15 ?_ ?_ ?_ ?_; (rotate_left; (· rintro w' ⟨s0, s1, s2, s3, s4⟩; go_simp; with_reducible rfl); rotate_left; (· simp only [Act.put, zz]; rfl))
            refine pur 15 50 ?_ HT_ spec_ImageOk.m16 ?_ ?_ ?_ ?_; (rotate_left; (· intro w'; go_simp; with_reducible rfl); rotate_left; (· simp only [Act.put, zz]; rfl))
            refine tak 16 51 ?_ HT_ HW_ hHeld spec_ImageOk.m17 ?_ ?_ ?_ ?_; (rotate_left; (· rintro w' ⟨s0, s1, s2, s3, s4⟩; go_simp; with_reducible rfl); rotate_left; (· simp only [Act.put, zz]; rfl))
            refine pur 17 52 ?_ HT_ spec_ImageOk.m18 ?_ ?_ ?_ ?_; (rotate_left; (· intro w'; go_simp; with_reducible rfl); rotate_left; (· simp only [Act.put, zz]; rfl))
            refine pur 18 53 ?_ HT_ spec_ImageOk.m19 ?_ ?_ ?_ ?_; (rotate_left; (· intro w'; go_simp; with_reducible rfl); rotate_left; (· simp only [Act.put, zz]; rfl))
            refine pur 19 54 ?_ HT_ spec_ImageOk.m20 ?_ ?_ ?_ ?_; (rotate_left; (· intro w'; go_simp; with_reducible rfl); rotate_left; (· simp only [Act.put, zz]; rfl))
            refine pur 20 55 ?_ HT_ spec_ImageOk.m21 ?_ ?_ ?_ ?_; (rotate_left; (· intro w'; go_simp; with_reducible rfl); rotate_left; (· simp only [Act.put, zz]; rfl))
            refine pun 21 56 HT_ spec_ImageOk.m22 ?_ ?_ ?_; (rotate_left; (· simp only [Act.put, zz]; rfl))
            refine pun 22 57 HT_ spec_ImageOk.m23 ?_ ?_ ?_; (rotate_left; (· simp only [Act.put, zz]; rfl))
            refine pun 23 58 HT_ spec_ImageOk.m24 ?_ ?_ ?_; (rotate_left; (· simp only [Act.put, zz]; rfl))
            refine pun 24 59 HT_ spec_ImageOk.m25 ?_ ?_ ?_; (rotate_left; (· simp only [Act.put, zz]; rfl))
            refine pun 25 60 HT_ spec_ImageOk.m39 ?_ ?_ ?_; (rotate_left; (· simp only [Act.put, zz]; rfl))
            refine pun 26 61 HT_ spec_ImageOk.m40 ?_ ?_ ?_; (rotate_left; (· simp only [Act.put, zz]; rfl))
            refine pun 27 62 HT_ spec_ImageOk.m41 ?_ ?_ ?_; (rotate_left; (· simp only [Act.put, zz]; rfl))
            refine pun 28 63 HT_ spec_ImageOk.m42 ?_ ?_ ?_; (rotate_left; (· simp only [Act.put, zz]; rfl))
            refine pun 29 64 HT_ spec_ImageOk.m43 ?_ ?_ ?_; (rotate_left; (· simp only [Act.put, zz]; rfl))
            refine pun 30 65 HT_ spec_ImageOk.m44 ?_ ?_ ?_; (rotate_left; (· simp only [Act.put, zz]; rfl))
            refine pun 31 66 HT_ spec_ImageOk.m45 ?_ ?_ ?_; (rotate_left; (· simp only [Act.put, zz]; rfl))
            refine pun 32 67 HT_ spec_ImageOk.m33 ?_ ?_ ?_; (rotate_left; (· simp only [Act.put, zz]; rfl))
            refine pun 33 68 HT_ spec_ImageOk.m34 ?_ ?_ ?_; (rotate_left; (· simp only [Act.put, zz]; rfl))
            refine pun 34 69 HT_ spec_ImageOk.m35 ?_ ?_ ?_; (rotate_left; (· simp only [Act.put, zz]; rfl))
            refine pun 35 70 HT_ spec_ImageOk.m36 ?_ ?_ ?_; (rotate_left; (· simp only [Act.put, zz]; rfl))
            refine pun 36 71 HT_ spec_ImageOk.m37 ?_ ?_ ?_; (rotate_left; (· simp only [Act.put, zz]; rfl))
            refine pur 37 72 ?_ HT_ spec_ImageOk.m38 ?_ ?_ ?_ ?_; (rotate_left; (· intro w'; go_simp; with_reducible rfl); rotate_left; (· simp only [Act.put, zz]; rfl))
            refine done_ (done_of HT_.out (by kernel_rfl)) ?_
            try go_wp2
            go_ret
            exact ⟨by first | rfl | (simp [errW_none, errW_some] <;> rfl) | (simp [*, errW_none, errW_some] <;> rfl), by repeat (first | exact HB.out | apply below_alloc | apply pw_below_drewN | apply below_drew1 | refine below_set ?_ GE123.out)⟩
          ·rw [if_neg c19] at H
           exact absurd H (by simp)
         ·rw [if_neg c18] at H
          have c18b0 : (x4_2 == 0) = false := beq_eq_false_iff_ne.mpr c18
          have c18b1 : (x4_2 != 0) = true := bne_iff_ne.mpr c18
          by_cases c34 : x4_2 > 0
          ·rw [if_pos c34] at H
           have c34b0 : decide (0 < x4_2) = true := decide_eq_true c34
           clear c34
           obtain ⟨ji35, hji35⟩ : ∃ j_ : Int, (wrap64 (x4_2 - 1)) = j_ := ⟨_, rfl⟩
           replace H : (if 0 ≤ (ji35) then (if (ji35) < (l0_1.length : Int) then (if (rd l0_1 (ji35)) ≥ (rd l0_1 x4_2) then (some false) else (spec_ImageOk.l0 k2 (l0_0.length : Int) (wrap64 (x4_2 + 1)) l0_0 l0_1 a0_2)) else (none)) else (none)) = some r := by first | (rw [hji35] at H; exact H) | (simp only [hji35] at H ⊢; exact H)
           (try rw [hji35] at A16)
           have hji35w : (IntKind.i64.wrap (x4_2 - 1)) = ji35 := (i64_w _).trans hji35
           by_cases c36 : 0 ≤ (ji35)
           ·rw [if_pos c36] at H
            have c36b0 : decide (0 ≤ (ji35)) = true := decide_eq_true c36
            clear c36
            by_cases c37 : (ji35) < (l0_1.length : Int)
            ·rw [if_pos c37] at H
             have c37b0 : decide ((ji35) < (l0_1.length : Int)) = true := decide_eq_true c37
             clear c37
             by_cases c38 : (rd l0_1 (ji35)) ≥ (rd l0_1 x4_2)
             ·rw [if_pos c38] at H
              have c38b0 : decide ((rd l0_1 x4_2) ≤ (rd l0_1 (ji35))) = true := decide_eq_true c38
              clear c38
              obtain rfl := Option.some.inj H
              have hcz39_0 := blk_cell BK123.out
              have hfz39_0 := blk_frozen BK123.out
              try go_wp2
              have n0_ := Aside0.mk (blk_drew BK123.out)
              have n1_ := Aside0.mk (below_drew1 HB.out)
              clear BK123
              clear HB
              have BK123 := n0_
              have HB := n1_
              clear n0_ n1_
              have p127 : 0 ≤ (x4_2 : Int) := of_decide_eq_true (by first | (with_reducible assumption) | assumption)
              have q127 : x4_2 < (l0_1.length : Int) := of_decide_eq_true (by first | (with_reducible assumption) | assumption)
              obtain ⟨ad127, e127, hx127_0⟩ := Kd.at_int HR0_1.out x4_2 p127 q127
              have hw127_0 := hx127_0
              cases e127
              replace hx127_0 := (HB.out.cell (World.block_lt_of_cell? w _ hx127_0)).trans hx127_0
              replace p127 := eq_true p127
              replace q127 := eq_true q127
              have p132 : 0 ≤ ((ji35) : Int) := of_decide_eq_true (by first | (with_reducible assumption) | assumption)
              have q132 : (ji35) < (l0_1.length : Int) := of_decide_eq_true (by first | (with_reducible assumption) | assumption)
              obtain ⟨ad132, e132, hx132_0⟩ := Kd.at_int HR0_1.out (ji35) p132 q132
              have hw132_0 := hx132_0
              obtain rfl : ad127 = ad132 := (by injection e132)
              replace hx132_0 := (HB.out.cell (World.block_lt_of_cell? w _ hx132_0)).trans hx132_0
              replace p132 := eq_true p132
              replace q132 := eq_true q132
              have p133 : 0 ≤ (x4_2 : Int) := of_decide_eq_true (by first | (with_reducible assumption) | assumption)
              have q133 : x4_2 < (l0_1.length : Int) := of_decide_eq_true (by first | (with_reducible assumption) | assumption)
              obtain ⟨ad133, e133, hx133_0⟩ := Kd.at_int HR0_1.out x4_2 p133 q133
              have hw133_0 := hx133_0
              obtain rfl : ad127 = ad133 := (by injection e133)
              replace hx133_0 := (HB.out.cell (World.block_lt_of_cell? w _ hx133_0)).trans hx133_0
              replace p133 := eq_true p133
              replace q133 := eq_true q133
              refine start_ (n := 38) (S := fun w' => w'.cell? ⟨gb123, 0, none⟩ = some (.slice A0_0 l0_0.length c0_0) ∧ w'.cell? ⟨gb123, 1, none⟩ = some (.slice (some ad127) l0_1.length c0_1) ∧ w'.cell? ⟨gb123, 2, none⟩ = some (.int .i64 a0_2) ∧ w'.cell? (ad127.add (x4_2).toNat) = some (.int .i64 (rd l0_1 x4_2)) ∧ w'.cell? (ad127.add ((ji35)).toNat) = some (.int .i64 (rd l0_1 (ji35))) ∧ w'.cell? (ad127.add (x4_2).toNat) = some (.int .i64 (rd l0_1 x4_2))) (ds := []) spec_ImageOk.m0 (by kernel_rfl) rfl rfl ⟨(blk_cell BK123.out 0).trans rfl, (blk_cell BK123.out 1).trans rfl, (blk_cell BK123.out 2).trans rfl, ((HB.out.cell (World.block_lt_of_cell? w _ hw127_0)).trans hw127_0), ((HB.out.cell (World.block_lt_of_cell? w _ hw132_0)).trans hw132_0), ((HB.out.cell (World.block_lt_of_cell? w _ hw133_0)).trans hw133_0)⟩ (fun hHeld => ?_); refine with_tabW spec_ImageOk.tab7 spec_ImageOk.bits7 (fun HT_ HW_ => ?_)
              generalize wr.drew = w40 at BK123 HB hx127_0 hx132_0 hx133_0 hHeld ⊢
              refine pur 0 35 ?_ HT_ spec_ImageOk.m1 ?_ ?_ ?_ ?_; (rotate_left; (· intro w'; go_simp; with_reducible rfl); rotate_left; (· simp only [Act.put, zz]; rfl))
              refine pur 2 37 ?_ HT_ spec_ImageOk.m2 ?_ ?_ ?_ ?_; (rotate_left; (· intro w'; go_simp; with_reducible rfl); rotate_left; (· simp only [Act.put, zz]; rfl))
              refine pur 5 40 ?_ HT_ spec_ImageOk.m3 ?_ ?_ ?_ ?_; (rotate_left; (· intro w'; go_simp; with_reducible rfl); rotate_left; (· simp only [Act.put, zz]; rfl))
              refine pur 6 41 ?_ HT_ spec_ImageOk.m4 ?_ ?_ ?_ ?_; (rotate_left; (· intro w'; go_simp; with_reducible rfl); rotate_left; (· simp only [Act.put, zz]; rfl))
              refine tak 1 36 ?_ HT_ HW_ hHeld spec_ImageOk.m5 ?_ ?_ ?_ ?_; (rotate_left; (· rintro w' ⟨s0, s1, s2, s3, s4, s5⟩; go_simp; with_reducible rfl); rotate_left; (· simp only [Act.put, zz]; rfl))
              refine pur 3 38 ?_ HT_ spec_ImageOk.m6 ?_ ?_ ?_ ?_; (rotate_left; (· intro w'; go_simp; with_reducible rfl); rotate_left; (· simp only [Act.put, zz]; rfl))
              refine tak 4 39 ?_ HT_ HW_ hHeld spec_ImageOk.m7 ?_ ?_ ?_ ?_; (rotate_left; (· rintro w' ⟨s0, s1, s2, s3, s4, s5⟩; go_simp; with_reducible rfl); rotate_left; (· simp only [Act.put, zz]; rfl))
              refine one_ (i := 7) (N := some 42) spec_ImageOk.m8 rfl rfl (one_of HT_.out (by kernel_rfl)) (by decide) (fun K hK => ?_)
              refine goes_ Try.func66 (by kernel_rfl) rfl #[.int .i64 (rd l0_1 x4_2), .int .i64 0, .int .i64 (wrap64 ((l0_0.length : Int) - 1))] (by rfl) rfl rfl (by first | rfl | (simp only [List.map_toArray, List.map_cons, List.map_nil, List.length_drop, List.length_take]; rfl)) ?_
              with_reducible refine (spec_l01In.calls (rd l0_1 x4_2) 0 (wrap64 ((l0_0.length : Int) - 1)) true _ A16.out).mono ?_
              rintro e w' ⟨rfl, ⟨nd, rfl⟩⟩
              refine ⟨_, rfl, ?_⟩
              refine hK.out _ _ ⟨(blk_cell BK123.out 0).trans rfl, (blk_cell BK123.out 1).trans rfl, (blk_cell BK123.out 2).trans rfl, ((HB.out.cell (World.block_lt_of_cell? w _ hw127_0)).trans hw127_0), ((HB.out.cell (World.block_lt_of_cell? w _ hw132_0)).trans hw132_0), ((HB.out.cell (World.block_lt_of_cell? w _ hw133_0)).trans hw133_0)⟩ (fun hHeld => ?_)
              clear hK K
              refine norm_ (a' := ?_) ?_ ?_
              rotate_left
              ·show Act.put _ (some 42) _ = _
               simp only [Act.put, zz]
               rfl
              refine pur 8 43 ?_ HT_ spec_ImageOk.m9 ?_ ?_ ?_ ?_; (rotate_left; (· intro w'; go_simp; with_reducible rfl); rotate_left; (· simp only [Act.put, zz]; rfl))
              refine pur 9 44 ?_ HT_ spec_ImageOk.m10 ?_ ?_ ?_ ?_; (rotate_left; (· intro w'; go_simp; with_reducible rfl); rotate_left; (· simp only [Act.put, zz]; rfl))
              refine pur 10 45 ?_ HT_ spec_ImageOk.m11 ?_ ?_ ?_ ?_; (rotate_left; (· intro w'; go_simp; with_reducible rfl); rotate_left; (· simp only [Act.put, zz]; rfl))
              refine pur 11 46 ?_ HT_ spec_ImageOk.m12 ?_ ?_ ?_ ?_; (rotate_left; (· intro w'; go_simp; with_reducible rfl); rotate_left; (· simp only [Act.put, zz]; rfl))
              refine pur 12 47 ?_ HT_ spec_ImageOk.m13 ?_ ?_ ?_ ?_; (rotate_left; (· intro w'; go_simp; with_reducible rfl); rotate_left; (· simp only [Act.put, zz]; rfl))
              refine pun 13 48 HT_ spec_ImageOk.m14 ?_ ?_ ?_; (rotate_left; (· simp only [Act.put, zz]; rfl))
              refine pun 14 49 HT_ spec_ImageOk.m15 ?_ ?_ ?_; (rotate_left; (· simp only [Act.put, zz]; rfl))
              refine pun 15 50 HT_ spec_ImageOk.m16 ?_ ?_ ?_; (rotate_left; (· simp only [Act.put, zz]; rfl))
              refine pun 16 51 HT_ spec_ImageOk.m17 ?_ ?_ ?_; (rotate_left; (· simp only [Act.put, zz]; rfl))
              refine pun 17 52 HT_ spec_ImageOk.m18 ?_ ?_ ?_; (rotate_left; (· simp only [Act.put, zz]; rfl))
              refine pur 18 53 ?_ HT_ spec_ImageOk.m19 ?_ ?_ ?_ ?_; (rotate_left; (· intro w'; go_simp; with_reducible rfl); rotate_left; (· simp only [Act.put, zz]; rfl))
              refine pur 19 54 ?_ HT_ spec_ImageOk.m20 ?_ ?_ ?_ ?_; (rotate_left; (· intro w'; go_simp; with_reducible rfl); rotate_left; (· simp only [Act.put, zz]; rfl))
              refine pur 20 55 ?_ HT_ spec_ImageOk.m21 ?_ ?_ ?_ ?_; (rotate_left; (· intro w'; go_simp; with_reducible rfl); rotate_left; (· simp only [Act.put, zz]; rfl))
              refine pur 21 56 ?_ HT_ spec_ImageOk.m22 ?_ ?_ ?_ ?_; (rotate_left; (· intro w'; go_simp; with_reducible rfl); rotate_left; (· simp only [Act.put, zz]; rfl))
              refine pur 22 57 ?_ HT_ spec_ImageOk.m23 ?_ ?_ ?_ ?_; (rotate_left; (· intro w'; go_simp; with_reducible rfl); rotate_left; (· simp only [Act.put, zz]; rfl))
              refine pur 23 58 ?_ HT_ spec_ImageOk.m24 ?_ ?_ ?_ ?_; (rotate_left; (· intro w'; go_simp; with_reducible rfl); rotate_left; (· simp only [Act.put, zz]; rfl))
              refine pur 24 59 ?_ HT_ spec_ImageOk.m25 ?_ ?_ ?_ ?_; (rotate_left; (· intro w'; go_simp; with_reducible rfl); rotate_left; (· simp only [Act.put, zz]; rfl))
              refine pur 26 61 ?_ HT_ spec_ImageOk.m26 ?_ ?_ ?_ ?_; (rotate_left; (· intro w'; go_simp; with_reducible rfl); rotate_left; (· simp only [Act.put, zz]; rfl))
              refine pur 27 62 ?_ HT_ spec_ImageOk.m27 ?_ ?_ ?_ ?_; (rotate_left; (· intro w'; go_simp; with_reducible rfl); rotate_left; (· simp only [Act.put, zz]; rfl))
              refine pur 30 65 ?_ HT_ spec_ImageOk.m28 ?_ ?_ ?_ ?_; (rotate_left; (· intro w'; go_simp; with_reducible rfl); rotate_left; (· simp only [Act.put, zz]; rfl))
              refine pur 32 67 ?_ HT_ spec_ImageOk.m29 ?_ ?_ ?_ ?_; (rotate_left; (· intro w'; go_simp; with_reducible rfl); rotate_left; (· simp only [Act.put, zz]; rfl))
              refine tak 25 60 ?_ HT_ HW_ hHeld spec_ImageOk.m30 ?_ ?_ ?_ ?_; (rotate_left; (· rintro w' ⟨s0, s1, s2, s3, s4, s5⟩; go_simp; with_reducible rfl); rotate_left; (· simp only [Act.put, zz]; rfl))
              refine pur 28 63 ?_ HT_ spec_ImageOk.m31 ?_ ?_ ?_ ?_; (rotate_left; (· intro w'; go_simp; with_reducible rfl); rotate_left; (· simp only [Act.put, zz]; rfl))
              refine tak 29 64 ?_ HT_ HW_ hHeld spec_ImageOk.m32 ?_ ?_ ?_ ?_; (rotate_left; (· rintro w' ⟨s0, s1, s2, s3, s4, s5⟩; go_simp; with_reducible rfl); rotate_left; (· simp only [Act.put, zz]; rfl))
              refine tak 31 66 ?_ HT_ HW_ hHeld spec_ImageOk.m33 ?_ ?_ ?_ ?_; (rotate_left; (· rintro w' ⟨s0, s1, s2, s3, s4, s5⟩; go_simp; with_reducible rfl); rotate_left; (· simp only [Act.put, zz]; rfl))
              refine pur 33 68 ?_ HT_ spec_ImageOk.m34 ?_ ?_ ?_ ?_; (rotate_left; (· intro w'; go_simp; with_reducible rfl); rotate_left; (· simp only [Act.put, zz]; rfl))
              refine tak 34 69 ?_ HT_ HW_ hHeld spec_ImageOk.m35 ?_ ?_ ?_ ?_; (rotate_left; (· rintro w' ⟨s0, s1, s2, s3, s4, s5⟩; go_simp; with_reducible rfl); rotate_left; (· simp only [Act.put, zz]; rfl))
              refine pur 35 70 ?_ HT_ spec_ImageOk.m36 ?_ ?_ ?_ ?_; (rotate_left; (· intro w'; go_simp; with_reducible rfl); rotate_left; (· simp only [Act.put, zz]; rfl))
              refine pur 36 71 ?_ HT_ spec_ImageOk.m37 ?_ ?_ ?_ ?_; (rotate_left; (· intro w'; go_simp; with_reducible rfl); rotate_left; (· simp only [Act.put, zz]; rfl))
              refine pur 37 72 ?_ HT_ spec_ImageOk.m38 ?_ ?_ ?_ ?_; (rotate_left; (· intro w'; go_simp; with_reducible rfl); rotate_left; (· simp only [Act.put, zz]; rfl))
              refine done_ (done_of HT_.out (by kernel_rfl)) ?_
              try go_wp2
              go_ret
              exact ⟨by first | rfl | (simp [errW_none, errW_some] <;> rfl) | (simp only [← hji35]; first | rfl | (simp [errW_none, errW_some] <;> rfl)) | (simp [*, errW_none, errW_some] <;> rfl), by repeat (first | exact HB.out | apply below_alloc | apply pw_below_drewN | apply below_drew1 | refine below_set ?_ GE123.out)⟩
             ·rw [if_neg c38] at H
              have c38b0 : decide ((rd l0_1 x4_2) ≤ (rd l0_1 (ji35))) = false := decide_eq_false c38
              clear c38
              have H' := Aside0.mk H
              clear H
              have hcz41_0 := blk_cell BK123.out
              have hfz41_0 := blk_frozen BK123.out
              try go_wp2
              have n0_ := Aside0.mk (blk_drew BK123.out)
              have n1_ := Aside0.mk (below_drew1 HB.out)
              clear BK123
              clear HB
              have BK123 := n0_
              have HB := n1_
              clear n0_ n1_
              have p127 : 0 ≤ (x4_2 : Int) := of_decide_eq_true (by first | (with_reducible assumption) | assumption)
              have q127 : x4_2 < (l0_1.length : Int) := of_decide_eq_true (by first | (with_reducible assumption) | assumption)
              obtain ⟨ad127, e127, hx127_0⟩ := Kd.at_int HR0_1.out x4_2 p127 q127
              have hw127_0 := hx127_0
              cases e127
              replace hx127_0 := (HB.out.cell (World.block_lt_of_cell? w _ hx127_0)).trans hx127_0
              replace p127 := eq_true p127
              replace q127 := eq_true q127
              have p132 : 0 ≤ ((ji35) : Int) := of_decide_eq_true (by first | (with_reducible assumption) | assumption)
              have q132 : (ji35) < (l0_1.length : Int) := of_decide_eq_true (by first | (with_reducible assumption) | assumption)
              obtain ⟨ad132, e132, hx132_0⟩ := Kd.at_int HR0_1.out (ji35) p132 q132
              have hw132_0 := hx132_0
              obtain rfl : ad127 = ad132 := (by injection e132)
              replace hx132_0 := (HB.out.cell (World.block_lt_of_cell? w _ hx132_0)).trans hx132_0
              replace p132 := eq_true p132
              replace q132 := eq_true q132
              have p133 : 0 ≤ (x4_2 : Int) := of_decide_eq_true (by first | (with_reducible assumption) | assumption)
              have q133 : x4_2 < (l0_1.length : Int) := of_decide_eq_true (by first | (with_reducible assumption) | assumption)
              obtain ⟨ad133, e133, hx133_0⟩ := Kd.at_int HR0_1.out x4_2 p133 q133
              have hw133_0 := hx133_0
              obtain rfl : ad127 = ad133 := (by injection e133)
              replace hx133_0 := (HB.out.cell (World.block_lt_of_cell? w _ hx133_0)).trans hx133_0
              replace p133 := eq_true p133
              replace q133 := eq_true q133
              refine start_ (n := 38) (S := fun w' => w'.cell? ⟨gb123, 0, none⟩ = some (.slice A0_0 l0_0.length c0_0) ∧ w'.cell? ⟨gb123, 1, none⟩ = some (.slice (some ad127) l0_1.length c0_1) ∧ w'.cell? ⟨gb123, 2, none⟩ = some (.int .i64 a0_2) ∧ w'.cell? (ad127.add (x4_2).toNat) = some (.int .i64 (rd l0_1 x4_2)) ∧ w'.cell? (ad127.add ((ji35)).toNat) = some (.int .i64 (rd l0_1 (ji35))) ∧ w'.cell? (ad127.add (x4_2).toNat) = some (.int .i64 (rd l0_1 x4_2))) (ds := []) spec_ImageOk.m0 (by kernel_rfl) rfl rfl ⟨(blk_cell BK123.out 0).trans rfl, (blk_cell BK123.out 1).trans rfl, (blk_cell BK123.out 2).trans rfl, ((HB.out.cell (World.block_lt_of_cell? w _ hw127_0)).trans hw127_0), ((HB.out.cell (World.block_lt_of_cell? w _ hw132_0)).trans hw132_0), ((HB.out.cell (World.block_lt_of_cell? w _ hw133_0)).trans hw133_0)⟩ (fun hHeld => ?_); refine with_tabW spec_ImageOk.tab7 spec_ImageOk.bits7 (fun HT_ HW_ => ?_)
              generalize wr.drew = w42 at BK123 HB hx127_0 hx132_0 hx133_0 hHeld ⊢
              refine pur 0 35 ?_ HT_ spec_ImageOk.m1 ?_ ?_ ?_ ?_; (rotate_left; (· intro w'; go_simp; with_reducible rfl); rotate_left; (· simp only [Act.put, zz]; rfl))
              refine pur 2 37 ?_ HT_ spec_ImageOk.m2 ?_ ?_ ?_ ?_; (rotate_left; (· intro w'; go_simp; with_reducible rfl); rotate_left; (· simp only [Act.put, zz]; rfl))
              refine pur 5 40 ?_ HT_ spec_ImageOk.m3 ?_ ?_ ?_ ?_; (rotate_left; (· intro w'; go_simp; with_reducible rfl); rotate_left; (· simp only [Act.put, zz]; rfl))
              refine pur 6 41 ?_ HT_ spec_ImageOk.m4 ?_ ?_ ?_ ?_; (rotate_left; (· intro w'; go_simp; with_reducible rfl); rotate_left; (· simp only [Act.put, zz]; rfl))
              refine tak 1 36 ?_ HT_ HW_ hHeld spec_ImageOk.m5 ?_ ?_ ?_ ?_; (rotate_left; (· rintro w' ⟨s0, s1, s2, s3, s4, s5⟩; go_simp; with_reducible rfl); rotate_left; (· simp only [Act.put, zz]; rfl))
              refine pur 3 38 ?_ HT_ spec_ImageOk.m6 ?_ ?_ ?_ ?_; (rotate_left; (· intro w'; go_simp; with_reducible rfl); rotate_left; (· simp only [Act.put, zz]; rfl))
              refine tak 4 39 ?_ HT_ HW_ hHeld spec_ImageOk.m7 ?_ ?_ ?_ ?_; (rotate_left; (· rintro w' ⟨s0, s1, s2, s3, s4, s5⟩; go_simp; with_reducible rfl); rotate_left; (· simp only [Act.put, zz]; rfl))
              refine one_ (i := 7) (N := some 42) spec_ImageOk.m8 rfl rfl (one_of HT_.out (by kernel_rfl)) (by decide) (fun K hK => ?_)
              refine goes_ Try.func66 (by kernel_rfl) rfl #[.int .i64 (rd l0_1 x4_2), .int .i64 0, .int .i64 (wrap64 ((l0_0.length : Int) - 1))] (by rfl) rfl rfl (by first | rfl | (simp only [List.map_toArray, List.map_cons, List.map_nil, List.length_drop, List.length_take]; rfl)) ?_
              with_reducible refine (spec_l01In.calls (rd l0_1 x4_2) 0 (wrap64 ((l0_0.length : Int) - 1)) true _ A16.out).mono ?_
              rintro e w' ⟨rfl, ⟨nd, rfl⟩⟩
              refine ⟨_, rfl, ?_⟩
              refine hK.out _ _ ⟨(blk_cell BK123.out 0).trans rfl, (blk_cell BK123.out 1).trans rfl, (blk_cell BK123.out 2).trans rfl, ((HB.out.cell (World.block_lt_of_cell? w _ hw127_0)).trans hw127_0), ((HB.out.cell (World.block_lt_of_cell? w _ hw132_0)).trans hw132_0), ((HB.out.cell (World.block_lt_of_cell? w _ hw133_0)).trans hw133_0)⟩ (fun hHeld => ?_)
              clear hK K
              refine norm_ (a' := ?_) ?_ ?_
              rotate_left
              ·show Act.put _ (some 42) _ = _
               simp only [Act.put, zz]
               rfl
              refine pur 8 43 ?_ HT_ spec_ImageOk.m9 ?_ ?_ ?_ ?_; (rotate_left; (· intro w'; go_simp; with_reducible rfl); rotate_left; (· simp only [Act.put, zz]; rfl))
              refine pur 9 44 ?_ HT_ spec_ImageOk.m10 ?_ ?_ ?_ ?_; (rotate_left; (· intro w'; go_simp; with_reducible rfl); rotate_left; (· simp only [Act.put, zz]; rfl))
              refine pur 10 45 ?_ HT_ spec_ImageOk.m11 ?_ ?_ ?_ ?_; (rotate_left; (· intro w'; go_simp; with_reducible rfl); rotate_left; (· simp only [Act.put, zz]; rfl))
              refine pur 11 46 ?_ HT_ spec_ImageOk.m12 ?_ ?_ ?_ ?_; (rotate_left; (· intro w'; go_simp; with_reducible rfl); rotate_left; (· simp only [Act.put, zz]; rfl))
              refine pur 12 47 ?_ HT_ spec_ImageOk.m13 ?_ ?_ ?_ ?_; (rotate_left; (· intro w'; go_simp; with_reducible rfl); rotate_left; (· simp only [Act.put, zz]; rfl))
              refine pun 13 48 HT_ spec_ImageOk.m14 ?_ ?_ ?_; (rotate_left; (· simp only [Act.put, zz]; rfl))
              refine pun 14 49 HT_ spec_ImageOk.m15 ?_ ?_ ?_; (rotate_left; (· simp only [Act.put, zz]; rfl))
              refine pun 15 50 HT_ spec_ImageOk.m16 ?_ ?_ ?_; (rotate_left; (· simp only [Act.put, zz]; rfl))
              refine pun 16 51 HT_ spec_ImageOk.m17 ?_ ?_ ?_; (rotate_left; (· simp only [Act.put, zz]; rfl))
              refine pun 17 52 HT_ spec_ImageOk.m18 ?_ ?_ ?_; (rotate_left; (· simp only [Act.put, zz]; rfl))
              refine pur 18 53 ?_ HT_ spec_ImageOk.m19 ?_ ?_ ?_ ?_; (rotate_left; (· intro w'; go_simp; with_reducible rfl); rotate_left; (· simp only [Act.put, zz]; rfl))
              refine pur 19 54 ?_ HT_ spec_ImageOk.m20 ?_ ?_ ?_ ?_; (rotate_left; (· intro w'; go_simp; with_reducible rfl); rotate_left; (· simp only [Act.put, zz]; rfl))
              refine pur 20 55 ?_ HT_ spec_ImageOk.m21 ?_ ?_ ?_ ?_; (rotate_left; (· intro w'; go_simp; with_reducible rfl); rotate_left; (· simp only [Act.put, zz]; rfl))
              refine pur 21 56 ?_ HT_ spec_ImageOk.m22 ?_ ?_ ?_ ?_; (rotate_left; (· intro w'; go_simp; with_reducible rfl); rotate_left; (· simp only [Act.put, zz]; rfl))
              refine pur 22 57 ?_ HT_ spec_ImageOk.m23 ?_ ?_ ?_ ?_; (rotate_left; (· intro w'; go_simp; with_reducible rfl); rotate_left; (· simp only [Act.put, zz]; rfl))
              refine pur 23 58 ?_ HT_ spec_ImageOk.m24 ?_ ?_ ?_ ?_; (rotate_left; (· intro w'; go_simp; with_reducible rfl); rotate_left; (· simp only [Act.put, zz]; rfl))
              refine pur 24 59 ?_ HT_ spec_ImageOk.m25 ?_ ?_ ?_ ?_; (rotate_left; (· intro w'; go_simp; with_reducible rfl); rotate_left; (· simp only [Act.put, zz]; rfl))
              refine pur 26 61 ?_ HT_ spec_ImageOk.m26 ?_ ?_ ?_ ?_; (rotate_left; (· intro w'; go_simp; with_reducible rfl); rotate_left; (· simp only [Act.put, zz]; rfl))
              refine pur 27 62 ?_ HT_ spec_ImageOk.m27 ?_ ?_ ?_ ?_; (rotate_left; (· intro w'; go_simp; with_reducible rfl); rotate_left; (· simp only [Act.put, zz]; rfl))
              refine pur 30 65 ?_ HT_ spec_ImageOk.m28 ?_ ?_ ?_ ?_; (rotate_left; (· intro w'; go_simp; with_reducible rfl); rotate_left; (· simp only [Act.put, zz]; rfl))
              refine pur 32 67 ?_ HT_ spec_ImageOk.m29 ?_ ?_ ?_ ?_; (rotate_left; (· intro w'; go_simp; with_reducible rfl); rotate_left; (· simp only [Act.put, zz]; rfl))
              refine tak 25 60 ?_ HT_ HW_ hHeld spec_ImageOk.m30 ?_ ?_ ?_ ?_; (rotate_left; (· rintro w' ⟨s0, s1, s2, s3, s4, s5⟩; go_simp; with_reducible rfl); rotate_left; (· simp only [Act.put, zz]; rfl))
              refine pur 28 63 ?_ HT_ spec_ImageOk.m31 ?_ ?_ ?_ ?_; (rotate_left; (· intro w'; go_simp; with_reducible rfl); rotate_left; (· simp only [Act.put, zz]; rfl))
              refine tak 29 64 ?_ HT_ HW_ hHeld spec_ImageOk.m32 ?_ ?_ ?_ ?_; (rotate_left; (· rintro w' ⟨s0, s1, s2, s3, s4, s5⟩; go_simp; with_reducible rfl); rotate_left; (· simp only [Act.put, zz]; rfl))
              refine tak 31 66 ?_ HT_ HW_ hHeld spec_ImageOk.m33 ?_ ?_ ?_ ?_; (rotate_left; (· rintro w' ⟨s0, s1, s2, s3, s4, s5⟩; go_simp; with_reducible rfl); rotate_left; (· simp only [Act.put, zz]; rfl))
              refine pur 33 68 ?_ HT_ spec_ImageOk.m34 ?_ ?_ ?_ ?_; (rotate_left; (· intro w'; go_simp; with_reducible rfl); rotate_left; (· simp only [Act.put, zz]; rfl))
              refine tak 34 69 ?_ HT_ HW_ hHeld spec_ImageOk.m35 ?_ ?_ ?_ ?_; (rotate_left; (· rintro w' ⟨s0, s1, s2, s3, s4, s5⟩; go_simp; with_reducible rfl); rotate_left; (· simp only [Act.put, zz]; rfl))
              refine pur 35 70 ?_ HT_ spec_ImageOk.m36 ?_ ?_ ?_ ?_; (rotate_left; (· intro w'; go_simp; with_reducible rfl); rotate_left; (· simp only [Act.put, zz]; rfl))
              refine pur 36 71 ?_ HT_ spec_ImageOk.m37 ?_ ?_ ?_ ?_; (rotate_left; (· intro w'; go_simp; with_reducible rfl); rotate_left; (· simp only [Act.put, zz]; rfl))
              refine pur 37 72 ?_ HT_ spec_ImageOk.m38 ?_ ?_ ?_ ?_; (rotate_left; (· intro w'; go_simp; with_reducible rfl); rotate_left; (· simp only [Act.put, zz]; rfl))
              refine done_ (done_of HT_.out (by kernel_rfl)) ?_
              try go_wp2
              go_roundg k2
              case measure => have := HJ1.out; have := HK2.out; omega
              case rel => exact ⟨(wrap64 (x4_2 + 1)), (by first | rfl | (simp; done) | (simp [*]; done)), H', ⟨by have := HJ1.out; have := HK2.out; omega⟩, ⟨by (with_reducible repeat (first | refine blk_drewN ?_ _ | refine blk_drew ?_ | refine blk_alloc ?_ _)); exact BK123.out⟩, ⟨by repeat (first | exact HB.out | apply below_alloc | apply pw_below_drewN | apply below_drew1 | refine below_set ?_ GE123.out)⟩⟩
            ·rw [if_neg c37] at H
             exact absurd H (by simp)
           ·rw [if_neg c36] at H
            exact absurd H (by simp)
          ·rw [if_neg c34] at H
           have c34b0 : decide (0 < x4_2) = false := decide_eq_false c34
           clear c34
           have H' := Aside0.mk H
           clear H
           have hcz43_0 := blk_cell BK123.out
           have hfz43_0 := blk_frozen BK123.out
           try go_wp2
           have n0_ := Aside0.mk (blk_drew BK123.out)
           have n1_ := Aside0.mk (below_drew1 HB.out)
           clear BK123
           clear HB
           have BK123 := n0_
           have HB := n1_
           clear n0_ n1_
           have p127 : 0 ≤ (x4_2 : Int) := of_decide_eq_true (by first | (with_reducible assumption) | assumption)
           have q127 : x4_2 < (l0_1.length : Int) := of_decide_eq_true (by first | (with_reducible assumption) | assumption)
           obtain ⟨ad127, e127, hx127_0⟩ := Kd.at_int HR0_1.out x4_2 p127 q127
           have hw127_0 := hx127_0
           cases e127
           replace hx127_0 := (HB.out.cell (World.block_lt_of_cell? w _ hx127_0)).trans hx127_0
           replace p127 := eq_true p127
           replace q127 := eq_true q127
           refine start_ (n := 38) (S := fun w' => w'.cell? ⟨gb123, 0, none⟩ = some (.slice A0_0 l0_0.length c0_0) ∧ w'.cell? ⟨gb123, 1, none⟩ = some (.slice (some ad127) l0_1.length c0_1) ∧ w'.cell? ⟨gb123, 2, none⟩ = some (.int .i64 a0_2) ∧ w'.cell? (ad127.add (x4_2).toNat) = some (.int .i64 (rd l0_1 x4_2))) (ds := []) spec_ImageOk.m0 (by kernel_rfl) rfl rfl ⟨(blk_cell BK123.out 0).trans rfl, (blk_cell BK123.out 1).trans rfl, (blk_cell BK123.out 2).trans rfl, ((HB.out.cell (World.block_lt_of_cell? w _ hw127_0)).trans hw127_0)⟩ (fun hHeld => ?_); refine with_tabW spec_ImageOk.tab7 spec_ImageOk.bits7 (fun HT_ HW_ => ?_)
           generalize wr.drew = w44 at BK123 HB hx127_0 hHeld ⊢
           refine pur 0 35 ?_ HT_ spec_ImageOk.m1 ?_ ?_ ?_ ?_; (rotate_left; (· intro w'; go_simp; with_reducible rfl); rotate_left; (· simp only [Act.put, zz]; rfl))
           refine pur 2 37 ?_ HT_ spec_ImageOk.m2 ?_ ?_ ?_ ?_; (rotate_left; (· intro w'; go_simp; with_reducible rfl); rotate_left; (· simp only [Act.put, zz]; rfl))
           refine pur 5 40 ?_ HT_ spec_ImageOk.m3 ?_ ?_ ?_ ?_; (rotate_left; (· intro w'; go_simp; with_reducible rfl); rotate_left; (· simp only [Act.put, zz]; rfl))
           refine pur 6 41 ?_ HT_ spec_ImageOk.m4 ?_ ?_ ?_ ?_; (rotate_left; (· intro w'; go_simp; with_reducible rfl); rotate_left; (· simp only [Act.put, zz]; rfl))
           refine tak 1 36 ?_ HT_ HW_ hHeld spec_ImageOk.m5 ?_ ?_ ?_ ?_; (rotate_left; (· rintro w' ⟨s0, s1, s2, s3⟩; go_simp; with_reducible rfl); rotate_left; (· simp only [Act.put, zz]; rfl))
           refine pur 3 38 ?_ HT_ spec_ImageOk.m6 ?_ ?_ ?_ ?_; (rotate_left; (· intro w'; go_simp; with_reducible rfl); rotate_left; (· simp only [Act.put, zz]; rfl))
           refine tak 4 39 ?_ HT_ HW_ hHeld spec_ImageOk.m7 ?_ ?_ ?_ ?_; (rotate_left; (· rintro w' ⟨s0, s1, s2, s3⟩; go_simp; with_reducible rfl); rotate_left; (· simp only [Act.put, zz]; rfl))
           refine one_ (i := 7) (N := some 42) spec_ImageOk.m8 rfl rfl (one_of HT_.out (by kernel_rfl)) (by decide) (fun K hK => ?_)
           refine goes_ Try.func66 (by kernel_rfl) rfl #[.int .i64 (rd l0_1 x4_2), .int .i64 0, .int .i64 (wrap64 ((l0_0.length : Int) - 1))] (by rfl) rfl rfl (by first | rfl | (simp only [List.map_toArray, List.map_cons, List.map_nil, List.length_drop, List.length_take]; rfl)) ?_
           with_reducible refine (spec_l01In.calls (rd l0_1 x4_2) 0 (wrap64 ((l0_0.length : Int) - 1)) true _ A16.out).mono ?_
           rintro e w' ⟨rfl, ⟨nd, rfl⟩⟩
           refine ⟨_, rfl, ?_⟩
           refine hK.out _ _ ⟨(blk_cell BK123.out 0).trans rfl, (blk_cell BK123.out 1).trans rfl, (blk_cell BK123.out 2).trans rfl, ((HB.out.cell (World.block_lt_of_cell? w _ hw127_0)).trans hw127_0)⟩ (fun hHeld => ?_)
           clear hK K
           refine norm_ (a' := ?_) ?_ ?_
           rotate_left
           ·show Act.put _ (some 42) _ = _
            simp only [Act.put, zz]
            rfl
           refine pur 8 43 ?_ HT_ spec_ImageOk.m9 ?_ ?_ ?_ ?_; (rotate_left; (· intro w'; go_simp; with_reducible rfl); rotate_left; (· simp only [Act.put, zz]; rfl))
           refine pur 9 44 ?_ HT_ spec_ImageOk.m10 ?_ ?_ ?_ ?_; (rotate_left; (· intro w'; go_simp; with_reducible rfl); rotate_left; (· simp only [Act.put, zz]; rfl))
           refine pur 10 45 ?_ HT_ spec_ImageOk.m11 ?_ ?_ ?_ ?_; (rotate_left; (· intro w'; go_simp; with_reducible rfl); rotate_left; (· simp only [Act.put, zz]; rfl))
           refine pur 11 46 ?_ HT_ spec_ImageOk.m12 ?_ ?_ ?_ ?_; (rotate_left; (· intro w'; go_simp; with_reducible rfl); rotate_left; (· simp only [Act.put, zz]; rfl))
           refine pur 12 47 ?_ HT_ spec_ImageOk.m13 ?_ ?_ ?_ ?_; (rotate_left; (· intro w'; go_simp; with_reducible rfl); rotate_left; (· simp only [Act.put, zz]; rfl))
           refine pun 13 48 HT_ spec_ImageOk.m14 ?_ ?_ ?_; (rotate_left; (· simp only [Act.put, zz]; rfl))
           refine pun 14 49 HT_ spec_ImageOk.m15 ?_ ?_ ?_; (rotate_left; (· simp only [Act.put, zz]; rfl))
           refine pun 15 50 HT_ spec_ImageOk.m16 ?_ ?_ ?_; (rotate_left; (· simp only [Act.put, zz]; rfl))
           refine pun 16 51 HT_ spec_ImageOk.m17 ?_ ?_ ?_; (rotate_left; (· simp only [Act.put, zz]; rfl))
           refine pun 17 52 HT_ spec_ImageOk.m18 ?_ ?_ ?_; (rotate_left; (· simp only [Act.put, zz]; rfl))
           refine pur 18 53 ?_ HT_ spec_ImageOk.m19 ?_ ?_ ?_ ?_; (rotate_left; (· intro w'; go_simp; with_reducible rfl); rotate_left; (· simp only [Act.put, zz]; rfl))
           refine pur 19 54 ?_ HT_ spec_ImageOk.m20 ?_ ?_ ?_ ?_; (rotate_left; (· intro w'; go_simp; with_reducible rfl); rotate_left; (· simp only [Act.put, zz]; rfl))
           refine pur 20 55 ?_ HT_ spec_ImageOk.m21 ?_ ?_ ?_ ?_; (rotate_left; (· intro w'; go_simp; with_reducible rfl); rotate_left; (· simp only [Act.put, zz]; rfl))
           refine pur 21 56 ?_ HT_ spec_ImageOk.m22 ?_ ?_ ?_ ?_; (rotate_left; (· intro w'; go_simp; with_reducible rfl); rotate_left; (· simp only [Act.put, zz]; rfl))
           refine pur 22 57 ?_ HT_ spec_ImageOk.m23 ?_ ?_ ?_ ?_; (rotate_left; (· intro w'; go_simp; with_reducible rfl); rotate_left; (· simp only [Act.put, zz]; rfl))
           refine pur 23 58 ?_ HT_ spec_ImageOk.m24 ?_ ?_ ?_ ?_; (rotate_left; (· intro w'; go_simp; with_reducible rfl); rotate_left; (· simp only [Act.put, zz]; rfl))
           refine pun 24 59 HT_ spec_ImageOk.m25 ?_ ?_ ?_; (rotate_left; (· simp only [Act.put, zz]; rfl))
           refine pun 25 60 HT_ spec_ImageOk.m39 ?_ ?_ ?_; (rotate_left; (· simp only [Act.put, zz]; rfl))
           refine pun 26 61 HT_ spec_ImageOk.m40 ?_ ?_ ?_; (rotate_left; (· simp only [Act.put, zz]; rfl))
           refine pun 27 62 HT_ spec_ImageOk.m41 ?_ ?_ ?_; (rotate_left; (· simp only [Act.put, zz]; rfl))
           refine pun 28 63 HT_ spec_ImageOk.m42 ?_ ?_ ?_; (rotate_left; (· simp only [Act.put, zz]; rfl))
           refine pun 29 64 HT_ spec_ImageOk.m43 ?_ ?_ ?_; (rotate_left; (· simp only [Act.put, zz]; rfl))
           refine pun 30 65 HT_ spec_ImageOk.m44 ?_ ?_ ?_; (rotate_left; (· simp only [Act.put, zz]; rfl))
           refine pun 31 66 HT_ spec_ImageOk.m45 ?_ ?_ ?_; (rotate_left; (· simp only [Act.put, zz]; rfl))
           refine pun 32 67 HT_ spec_ImageOk.m33 ?_ ?_ ?_; (rotate_left; (· simp only [Act.put, zz]; rfl))
           refine pun 33 68 HT_ spec_ImageOk.m34 ?_ ?_ ?_; (rotate_left; (· simp only [Act.put, zz]; rfl))
           refine pun 34 69 HT_ spec_ImageOk.m35 ?_ ?_ ?_; (rotate_left; (· simp only [Act.put, zz]; rfl))
           refine pun 35 70 HT_ spec_ImageOk.m36 ?_ ?_ ?_; (rotate_left; (· simp only [Act.put, zz]; rfl))
           refine pur 36 71 ?_ HT_ spec_ImageOk.m37 ?_ ?_ ?_ ?_; (rotate_left; (· intro w'; go_simp; with_reducible rfl); rotate_left; (· simp only [Act.put, zz]; rfl))
           refine pur 37 72 ?_ HT_ spec_ImageOk.m38 ?_ ?_ ?_ ?_; (rotate_left; (· intro w'; go_simp; with_reducible rfl); rotate_left; (· simp only [Act.put, zz]; rfl))
           refine done_ (done_of HT_.out (by kernel_rfl)) ?_
           try go_wp2
           go_roundg k2
           case measure => have := HJ1.out; have := HK2.out; omega
           case rel => exact ⟨(wrap64 (x4_2 + 1)), (by first | rfl | (simp; done) | (simp [*]; done)), H', ⟨by have := HJ1.out; have := HK2.out; omega⟩, ⟨by (with_reducible repeat (first | refine blk_drewN ?_ _ | refine blk_drew ?_ | refine blk_alloc ?_ _)); exact BK123.out⟩, ⟨by repeat (first | exact HB.out | apply below_alloc | apply pw_below_drewN | apply below_drew1 | refine below_set ?_ GE123.out)⟩⟩
        ·replace c17 := Bool.eq_false_iff.mpr c17
         subst c17
         have H1 : (some false) = some r := by rw [if_neg (show ¬ (false = true) by decide)] at H; exact H
         clear H
         have H := H1
         clear H1
         obtain rfl := Option.some.inj H
         have hcz45_0 := blk_cell BK123.out
         have hfz45_0 := blk_frozen BK123.out
         try go_wp2
         have n0_ := Aside0.mk (blk_drew BK123.out)
         have n1_ := Aside0.mk (below_drew1 HB.out)
         clear BK123
         clear HB
         have BK123 := n0_
         have HB := n1_
         clear n0_ n1_
         have p127 : 0 ≤ (x4_2 : Int) := of_decide_eq_true (by first | (with_reducible assumption) | assumption)
         have q127 : x4_2 < (l0_1.length : Int) := of_decide_eq_true (by first | (with_reducible assumption) | assumption)
         obtain ⟨ad127, e127, hx127_0⟩ := Kd.at_int HR0_1.out x4_2 p127 q127
         have hw127_0 := hx127_0
         cases e127
         replace hx127_0 := (HB.out.cell (World.block_lt_of_cell? w _ hx127_0)).trans hx127_0
         replace p127 := eq_true p127
         replace q127 := eq_true q127
         refine start_ (n := 38) (S := fun w' => w'.cell? ⟨gb123, 0, none⟩ = some (.slice A0_0 l0_0.length c0_0) ∧ w'.cell? ⟨gb123, 1, none⟩ = some (.slice (some ad127) l0_1.length c0_1) ∧ w'.cell? ⟨gb123, 2, none⟩ = some (.int .i64 a0_2) ∧ w'.cell? (ad127.add (x4_2).toNat) = some (.int .i64 (rd l0_1 x4_2))) (ds := []) spec_ImageOk.m0 (by kernel_rfl) rfl rfl ⟨(blk_cell BK123.out 0).trans rfl, (blk_cell BK123.out 1).trans rfl, (blk_cell BK123.out 2).trans rfl, ((HB.out.cell (World.block_lt_of_cell? w _ hw127_0)).trans hw127_0)⟩ (fun hHeld => ?_); refine with_tabW spec_ImageOk.tab7 spec_ImageOk.bits7 (fun HT_ HW_ => ?_)
         generalize wr.drew = w46 at BK123 HB hx127_0 hHeld ⊢
         refine pur 0 35 ?_ HT_ spec_ImageOk.m1 ?_ ?_ ?_ ?_; (rotate_left; (· intro w'; go_simp; with_reducible rfl); rotate_left; (· simp only [Act.put, zz]; rfl))
         refine pur 2 37 ?_ HT_ spec_ImageOk.m2 ?_ ?_ ?_ ?_; (rotate_left; (· intro w'; go_simp; with_reducible rfl); rotate_left; (· simp only [Act.put, zz]; rfl))
         refine pur 5 40 ?_ HT_ spec_ImageOk.m3 ?_ ?_ ?_ ?_; (rotate_left; (· intro w'; go_simp; with_reducible rfl); rotate_left; (· simp only [Act.put, zz]; rfl))
         refine pur 6 41 ?_ HT_ spec_ImageOk.m4 ?_ ?_ ?_ ?_; (rotate_left; (· intro w'; go_simp; with_reducible rfl); rotate_left; (· simp only [Act.put, zz]; rfl))
         refine tak 1 36 ?_ HT_ HW_ hHeld spec_ImageOk.m5 ?_ ?_ ?_ ?_; (rotate_left; (· rintro w' ⟨s0, s1, s2, s3⟩; go_simp; with_reducible rfl); rotate_left; (· simp only [Act.put, zz]; rfl))
         refine pur 3 38 ?_ HT_ spec_ImageOk.m6 ?_ ?_ ?_ ?_; (rotate_left; (· intro w'; go_simp; with_reducible rfl); rotate_left; (· simp only [Act.put, zz]; rfl))
         refine tak 4 39 ?_ HT_ HW_ hHeld spec_ImageOk.m7 ?_ ?_ ?_ ?_; (rotate_left; (· rintro w' ⟨s0, s1, s2, s3⟩; go_simp; with_reducible rfl); rotate_left; (· simp only [Act.put, zz]; rfl))
         refine one_ (i := 7) (N := some 42) spec_ImageOk.m8 rfl rfl (one_of HT_.out (by kernel_rfl)) (by decide) (fun K hK => ?_)
         refine goes_ Try.func66 (by kernel_rfl) rfl #[.int .i64 (rd l0_1 x4_2), .int .i64 0, .int .i64 (wrap64 ((l0_0.length : Int) - 1))] (by rfl) rfl rfl (by first | rfl | (simp only [List.map_toArray, List.map_cons, List.map_nil, List.length_drop, List.length_take]; rfl)) ?_
         with_reducible refine (spec_l01In.calls (rd l0_1 x4_2) 0 (wrap64 ((l0_0.length : Int) - 1)) false _ A16.out).mono ?_
         rintro e w' ⟨rfl, ⟨nd, rfl⟩⟩
         refine ⟨_, rfl, ?_⟩
         refine hK.out _ _ ⟨(blk_cell BK123.out 0).trans rfl, (blk_cell BK123.out 1).trans rfl, (blk_cell BK123.out 2).trans rfl, ((HB.out.cell (World.block_lt_of_cell? w _ hw127_0)).trans hw127_0)⟩ (fun hHeld => ?_)
         clear hK K
         refine norm_ (a' := ?_) ?_ ?_
         rotate_left
         ·show Act.put _ (some 42) _ = _
          simp only [Act.put, zz]
          rfl
         refine pur 8 43 ?_ HT_ spec_ImageOk.m9 ?_ ?_ ?_ ?_; (rotate_left; (· intro w'; go_simp; with_reducible rfl); rotate_left; (· simp only [Act.put, zz]; rfl))
         refine pur 9 44 ?_ HT_ spec_ImageOk.m10 ?_ ?_ ?_ ?_; (rotate_left; (· intro w'; go_simp; with_reducible rfl); rotate_left; (· simp only [Act.put, zz]; rfl))
         refine pun 10 45 HT_ spec_ImageOk.m11 ?_ ?_ ?_; (rotate_left; (· simp only [Act.put, zz]; rfl))
         refine pun 11 46 HT_ spec_ImageOk.m12 ?_ ?_ ?_; (rotate_left; (· simp only [Act.put, zz]; rfl))
         refine pun 12 47 HT_ spec_ImageOk.m13 ?_ ?_ ?_; (rotate_left; (· simp only [Act.put, zz]; rfl))
         refine pun 13 48 HT_ spec_ImageOk.m14 ?_ ?_ ?_; (rotate_left; (· simp only [Act.put, zz]; rfl))
         refine pun 14 49 HT_ spec_ImageOk.m15 ?_ ?_ ?_; (rotate_left; (· simp only [Act.put, zz]; rfl))
         refine pun 15 50 HT_ spec_ImageOk.m16 ?_ ?_ ?_; (rotate_left; (· simp only [Act.put, zz]; rfl))
         refine pun 16 51 HT_ spec_ImageOk.m17 ?_ ?_ ?_; (rotate_left; (· simp only [Act.put, zz]; rfl))
         refine pun 17 52 HT_ spec_ImageOk.m18 ?_ ?_ ?_; (rotate_left; (· simp only [Act.put, zz]; rfl))
         refine pun 18 53 HT_ spec_ImageOk.m19 ?_ ?_ ?_; (rotate_left; (· simp only [Act.put, zz]; rfl))
         refine pur 19 54 ?_ HT_ spec_ImageOk.m20 ?_ ?_ ?_ ?_; (rotate_left; (· intro w'; go_simp; with_reducible rfl); rotate_left; (· simp only [Act.put, zz]; rfl))
         refine pur 20 55 ?_ HT_ spec_ImageOk.m21 ?_ ?_ ?_ ?_; (rotate_left; (· intro w'; go_simp; with_reducible rfl); rotate_left; (· simp only [Act.put, zz]; rfl))
         refine pun 21 56 HT_ spec_ImageOk.m22 ?_ ?_ ?_; (rotate_left; (· simp only [Act.put, zz]; rfl))
         refine pun 22 57 HT_ spec_ImageOk.m23 ?_ ?_ ?_; (rotate_left; (· simp only [Act.put, zz]; rfl))
         refine pun 23 58 HT_ spec_ImageOk.m24 ?_ ?_ ?_; (rotate_left; (· simp only [Act.put, zz]; rfl))
         refine pun 24 59 HT_ spec_ImageOk.m25 ?_ ?_ ?_; (rotate_left; (· simp only [Act.put, zz]; rfl))
         refine pun 25 60 HT_ spec_ImageOk.m39 ?_ ?_ ?_; (rotate_left; (· simp only [Act.put, zz]; rfl))
         refine pun 26 61 HT_ spec_ImageOk.m40 ?_ ?_ ?_; (rotate_left; (· simp only [Act.put, zz]; rfl))
         refine pun 27 62 HT_ spec_ImageOk.m41 ?_ ?_ ?_; (rotate_left; (· simp only [Act.put, zz]; rfl))
         refine pun 28 63 HT_ spec_ImageOk.m42 ?_ ?_ ?_; (rotate_left; (· simp only [Act.put, zz]; rfl))
         refine pun 29 64 HT_ spec_ImageOk.m43 ?_ ?_ ?_; (rotate_left; (· simp only [Act.put, zz]; rfl))
         refine pun 30 65 HT_ spec_ImageOk.m44 ?_ ?_ ?_; (rotate_left; (· simp only [Act.put, zz]; rfl))
         refine pun 31 66 HT_ spec_ImageOk.m45 ?_ ?_ ?_; (rotate_left; (· simp only [Act.put, zz]; rfl))
         refine pun 32 67 HT_ spec_ImageOk.m33 ?_ ?_ ?_; (rotate_left; (· simp only [Act.put, zz]; rfl))
         refine pun 33 68 HT_ spec_ImageOk.m34 ?_ ?_ ?_; (rotate_left; (· simp only [Act.put, zz]; rfl))
         refine pun 34 69 HT_ spec_ImageOk.m35 ?_ ?_ ?_; (rotate_left; (· simp only [Act.put, zz]; rfl))
         refine pun 35 70 HT_ spec_ImageOk.m36 ?_ ?_ ?_; (rotate_left; (· simp only [Act.put, zz]; rfl))
         refine pun 36 71 HT_ spec_ImageOk.m37 ?_ ?_ ?_; (rotate_left; (· simp only [Act.put, zz]; rfl))
         refine pur 37 72 ?_ HT_ spec_ImageOk.m38 ?_ ?_ ?_ ?_; (rotate_left; (· intro w'; go_simp; with_reducible rfl); rotate_left; (· simp only [Act.put, zz]; rfl))
         refine done_ (done_of HT_.out (by kernel_rfl)) ?_
         try go_wp2
         go_ret
         exact ⟨by first | rfl | (simp [errW_none, errW_some] <;> rfl) | (simp [*, errW_none, errW_some] <;> rfl), by repeat (first | exact HB.out | apply below_alloc | apply pw_below_drewN | apply below_drew1 | refine below_set ?_ GE123.out)⟩
       ·rw [if_neg c15] at H
        exact absurd H (by simp)
      ·rw [if_neg c14] at H
       have c14b0 : decide (x4_2 < (l0_1.length : Int)) = false := decide_eq_false c14
       clear c14
       have H' := Aside0.mk H
       clear H
       have hcz47_0 := blk_cell BK123.out
       have hfz47_0 := blk_frozen BK123.out
       go_wp2_with (first | ((with_reducible refine gate_dst (N := 5) rfl ?_); refine box_event ?hg (N := 5) ?hd (cs := #[.int .i64 0, .int .i64 0, .int .i64 0, .int .i64 0]) (t := 25) ?hr ?_; (case hd => rfl); (case hg => rfl); (case hr => first | (go_simp; done) | (go_simp; rfl)); intro gb134 hg w48 hbox hb; have n0_ := Aside0.mk (blk_below (g := gb123) (o := .cells #[.slice A0_0 l0_0.length c0_0, .slice A0_1 l0_1.length c0_1, .int .i64 a0_2] 88 (0, 0)) (by (with_reducible repeat (first | refine blk_drewN ?_ _ | refine blk_drew ?_ | refine blk_alloc ?_ _)); exact BK123.out) hb); have n1_ := Aside0.mk (below_step (by repeat (first | exact HB.out | apply below_alloc | apply pw_below_drewN | apply below_drew1 | refine below_set ?_ GE123.out)) hb); have n2_ := Aside0.mk (hbox); have n3_ := Aside0.mk ((by rw [hg]; exact (below_size (by repeat (first | exact HB.out | apply below_alloc | apply pw_below_drewN | apply below_drew1 | refine below_set ?_ GE123.out))) : w.heap.size ≤ gb134)); have n4_ := Aside0.mk ((by rw [hg]; exact (below_size (by repeat (first | exact HB.out | apply below_alloc | apply pw_below_drewN | apply below_drew1 | refine below_set ?_ GE123.out))) : w.heap.size ≤ gb134)); have n5_ := Aside0.mk ((by rw [hg]; exact Nat.ne_of_lt (blk_lt (g := gb123) (o := .cells #[.slice A0_0 l0_0.length c0_0, .slice A0_1 l0_1.length c0_1, .int .i64 a0_2] 88 (0, 0)) (by (with_reducible repeat (first | refine blk_drewN ?_ _ | refine blk_drew ?_ | refine blk_alloc ?_ _)); exact BK123.out)) : gb123 ≠ gb134)); have n6_ := Aside0.mk ((by rw [hg]; exact Nat.ne_of_gt (blk_lt (g := gb123) (o := .cells #[.slice A0_0 l0_0.length c0_0, .slice A0_1 l0_1.length c0_1, .int .i64 a0_2] 88 (0, 0)) (by (with_reducible repeat (first | refine blk_drewN ?_ _ | refine blk_drew ?_ | refine blk_alloc ?_ _)); exact BK123.out)) : gb134 ≠ gb123)); clear BK123; clear HB; have BK123 := n0_; have HB := n1_; have BK134 := n2_; have GW134 := n3_; have GE134 := n4_; have NB123_134 := n5_; have NB134_123 := n6_; clear n0_ n1_ n2_ n3_ n4_ n5_ n6_; clear hb hbox hg; have hnb49 := NB134_123.out; have hnc49 := NB123_134.out; have hcz50_0 := blk_cell BK134.out; have hfz50_0 := blk_frozen BK134.out))
       go_loopg [6] k2 (fun kq v6 w' => ∃ (x6_3 : Int) (x135000_3 : Int) (x135001_3 : Int) (x135002_3 : Int) (x135003_3 : Int), v6 = .int .i64 x6_3 ∧ Aside0 (spec_ImageOk.l1 kq (l0_0.length : Int) x6_3 l0_0 l0_1 a0_2 x135000_3 x135001_3 x135002_3 x135003_3 = some r) ∧ Aside0 (kq ≤ k2) ∧ Aside0 (w'.heap[gb123]? = some (.cells #[(.slice A0_0 l0_0.length c0_0), (.slice A0_1 l0_1.length c0_1), .int .i64 a0_2] 88 (0, 0))) ∧ Aside0 (w'.heap[gb134]? = some (.cells #[.int .i64 x135000_3, .int .i64 x135001_3, .int .i64 x135002_3, .int .i64 x135003_3] 25 (0, 0))) ∧ Aside0 (Below w.heap.size w w'))
       case atStart => exact ⟨(0), (0), (0), (0), (0), (by first | rfl | (simp; done) | (simp [*]; done)), H', ⟨Nat.le_refl _⟩, ⟨by (with_reducible repeat (first | refine blk_drewN ?_ _ | refine blk_drew ?_ | refine blk_alloc ?_ _)); refine blk_far ?_ NB123_134.out _; (with_reducible repeat (first | refine blk_drewN ?_ _ | refine blk_drew ?_ | refine blk_alloc ?_ _)); refine blk_far ?_ NB123_134.out _; (with_reducible repeat (first | refine blk_drewN ?_ _ | refine blk_drew ?_ | refine blk_alloc ?_ _)); refine blk_far ?_ NB123_134.out _; (with_reducible repeat (first | refine blk_drewN ?_ _ | refine blk_drew ?_ | refine blk_alloc ?_ _)); refine blk_far ?_ NB123_134.out _; (with_reducible repeat (first | refine blk_drewN ?_ _ | refine blk_drew ?_ | refine blk_alloc ?_ _)); exact BK123.out⟩, ⟨by (with_reducible repeat (first | refine blk_drewN ?_ _ | refine blk_drew ?_ | refine blk_alloc ?_ _)); refine blk_put (cs := #[.int .i64 0, .int .i64 0, .int .i64 0, .int .i64 0]) ?_ 3 _ rfl; (with_reducible repeat (first | refine blk_drewN ?_ _ | refine blk_drew ?_ | refine blk_alloc ?_ _)); refine blk_put (cs := #[.int .i64 0, .int .i64 0, .int .i64 0, .int .i64 0]) ?_ 2 _ rfl; (with_reducible repeat (first | refine blk_drewN ?_ _ | refine blk_drew ?_ | refine blk_alloc ?_ _)); refine blk_put (cs := #[.int .i64 0, .int .i64 0, .int .i64 0, .int .i64 0]) ?_ 1 _ rfl; (with_reducible repeat (first | refine blk_drewN ?_ _ | refine blk_drew ?_ | refine blk_alloc ?_ _)); refine blk_put (cs := #[.int .i64 0, .int .i64 0, .int .i64 0, .int .i64 0]) ?_ 0 _ rfl; (with_reducible repeat (first | refine blk_drewN ?_ _ | refine blk_drew ?_ | refine blk_alloc ?_ _)); exact BK134.out⟩, ⟨by repeat (first | exact HB.out | apply below_alloc | apply pw_below_drewN | apply below_drew1 | refine below_set ?_ GE123.out | refine below_set ?_ GE134.out)⟩⟩
       case round =>
        clear H'
        try clear c1
        try clear p1
        try clear q1
        try clear hx1
        try clear p2
        try clear c3
        try clear c4
        try clear c6
        try clear p6
        try clear p12
        try clear q12
        try clear hx12
        try clear c14
        try clear c14b0
        try clear c15
        try clear c17
        try clear c34
        try clear c34b0
        try clear c36
        try clear c37
        try clear c49
        try clear hcz43_0
        try clear hcz45_0
        try clear hcz47_0
        try clear hcz50_0
        try clear hfz43_0
        try clear hfz45_0
        try clear hfz47_0
        try clear hfz50_0
        try clear hx127_0
        try clear p127
        try clear q127
        obtain ⟨x6_3, x135000_3, x135001_3, x135002_3, x135003_3, rfl, HA, HK3, BK123, BK134, HB⟩ := hrel
        cases gk with
        | zero => exact absurd HA.out (by simp [spec_ImageOk.l1])
        | succ k3 =>
         have H := HA.out
         clear HA
         simp only [spec_ImageOk.l1] at H
         by_cases c51 : x6_3 < (l0_0.length : Int)
         ·rw [if_pos c51] at H
          have c51b0 : decide (x6_3 < (l0_0.length : Int)) = true := decide_eq_true c51
          clear c51
          by_cases c52 : 0 ≤ x6_3
          ·rw [if_pos c52] at H
           have c52b0 : decide (0 ≤ x6_3) = true := decide_eq_true c52
           clear c52
           by_cases c53 : x6_3 < (l0_0.length : Int)
           ·rw [if_pos c53] at H
            have c53b0 : decide (x6_3 < (l0_0.length : Int)) = true := decide_eq_true c53
            clear c53
            replace H := Option.bind_eq_some_iff.mp H
            obtain ⟨⟨t136, t137, t138, t139, t140⟩, A540, H⟩ := H
            replace H : (if t140 = true then ((spec_TouchOf.f k3 l0_0 x6_3).bind fun t142 => (if t142 ≥ a0_2 then (some false) else (if t136 = 7 then (if t139 ≥ (l0_0.length : Int) then (some false) else (spec_ImageOk.l1 k3 (l0_0.length : Int) (wrap64 (x6_3 + 1)) l0_0 l0_1 a0_2 t136 t137 t138 t139)) else (if t136 = 8 then (if t139 ≥ (l0_0.length : Int) then (some false) else (spec_ImageOk.l1 k3 (l0_0.length : Int) (wrap64 (x6_3 + 1)) l0_0 l0_1 a0_2 t136 t137 t138 t139)) else (spec_ImageOk.l1 k3 (l0_0.length : Int) (wrap64 (x6_3 + 1)) l0_0 l0_1 a0_2 t136 t137 t138 t139))))) else (some false)) = some r := H
            have A54 := Aside0.mk A540
            clear A540
            by_cases c55 : t140 = true
            ·subst c55
             have H1 : ((spec_TouchOf.f k3 l0_0 x6_3).bind fun t142 => (if t142 ≥ a0_2 then (some false) else (if t136 = 7 then (if t139 ≥ (l0_0.length : Int) then (some false) else (spec_ImageOk.l1 k3 (l0_0.length : Int) (wrap64 (x6_3 + 1)) l0_0 l0_1 a0_2 t136 t137 t138 t139)) else (if t136 = 8 then (if t139 ≥ (l0_0.length : Int) then (some false) else (spec_ImageOk.l1 k3 (l0_0.length : Int) (wrap64 (x6_3 + 1)) l0_0 l0_1 a0_2 t136 t137 t138 t139)) else (spec_ImageOk.l1 k3 (l0_0.length : Int) (wrap64 (x6_3 + 1)) l0_0 l0_1 a0_2 t136 t137 t138 t139))))) = some r := by rw [if_pos rfl] at H; exact H
             clear H
             have H := H1
             clear H1
             replace H := Option.bind_eq_some_iff.mp H
             obtain ⟨t142, A560, H⟩ := H
             replace H : (if t142 ≥ a0_2 then (some false) else (if t136 = 7 then (if t139 ≥ (l0_0.length : Int) then (some false) else (spec_ImageOk.l1 k3 (l0_0.length : Int) (wrap64 (x6_3 + 1)) l0_0 l0_1 a0_2 t136 t137 t138 t139)) else (if t136 = 8 then (if t139 ≥ (l0_0.length : Int) then (some false) else (spec_ImageOk.l1 k3 (l0_0.length : Int) (wrap64 (x6_3 + 1)) l0_0 l0_1 a0_2 t136 t137 t138 t139)) else (spec_ImageOk.l1 k3 (l0_0.length : Int) (wrap64 (x6_3 + 1)) l0_0 l0_1 a0_2 t136 t137 t138 t139)))) = some r := H
             have A56 := Aside0.mk A560
             clear A560
             by_cases c57 : t142 ≥ a0_2
             ·rw [if_pos c57] at H
              have c57b0 : decide (a0_2 ≤ t142) = true := decide_eq_true c57
              clear c57
              obtain rfl := Option.some.inj H
              have hnb58 := NB123_134.out
              have hnc58 := NB134_123.out
              have hcz59_0 := blk_cell BK123.out
              have hfz59_0 := blk_frozen BK123.out
              have p135 : 0 ≤ (x6_3 : Int) := of_decide_eq_true (by first | (with_reducible assumption) | assumption)
              have q135 : x6_3 < (l0_0.length : Int) := of_decide_eq_true (by first | (with_reducible assumption) | assumption)
              obtain ⟨ad135, e135, hx135_0⟩ := Kd.at_int HR0_0.out x6_3 p135 q135
              cases e135
              replace hx135_0 := (HB.out.cell (World.block_lt_of_cell? w _ hx135_0)).trans hx135_0
              replace p135 := eq_true p135
              replace q135 := eq_true q135
              try go_wp2_with (first | ((with_reducible refine gate_callee (f := 25) rfl ?_); refine goesL_ (some 85) rfl rfl Try.func25 (by kernel_rfl) rfl #[.int .i64 (rd l0_0 x6_3)] rfl (by first | rfl | (simp only [List.map_toArray, List.map_cons, List.map_nil, List.length_drop, List.length_take]; rfl)) ?_; (with_reducible refine (spec_Decode.calls k3 (rd l0_0 x6_3) t136 t137 t138 t139 true _ A54.out).mono ?_); rintro e w60 ⟨rfl, hb⟩; refine ⟨_, rfl, ?_⟩; have n0_ := Aside0.mk (blk_below (g := gb123) (o := .cells #[.slice (some ad135) l0_0.length c0_0, .slice A0_1 l0_1.length c0_1, .int .i64 a0_2] 88 (0, 0)) (by (with_reducible repeat (first | refine blk_drewN ?_ _ | refine blk_drew ?_ | refine blk_alloc ?_ _)); exact BK123.out) hb); have n1_ := Aside0.mk (blk_below (g := gb134) (o := .cells #[.int .i64 x135000_3, .int .i64 x135001_3, .int .i64 x135002_3, .int .i64 x135003_3] 25 (0, 0)) (by (with_reducible repeat (first | refine blk_drewN ?_ _ | refine blk_drew ?_ | refine blk_alloc ?_ _)); exact BK134.out) hb); have n2_ := Aside0.mk (below_step (by repeat (first | exact HB.out | apply below_alloc | apply pw_below_drewN | apply below_drew1 | refine below_set ?_ GE123.out | refine below_set ?_ GE134.out)) hb); clear BK123; clear BK134; clear HB; have BK123 := n0_; have BK134 := n1_; have HB := n2_; clear n0_ n1_ n2_; (try clear hb); (try clear hb2); (try clear hk); (try clear hi)) | ((with_reducible refine gate_dst (N := 7) rfl ?_); refine box_event ?hg (N := 7) ?hd (cs := #[.int .i64 0, .int .i64 0, .int .i64 0, .int .i64 0]) (t := 25) ?hr ?_; (case hd => rfl); (case hg => rfl); (case hr => first | (go_simp; done) | (go_simp; rfl)); intro gb141 hg w61 hbox hb; have n0_ := Aside0.mk (blk_below (g := gb123) (o := .cells #[.slice (some ad135) l0_0.length c0_0, .slice A0_1 l0_1.length c0_1, .int .i64 a0_2] 88 (0, 0)) (by (with_reducible repeat (first | refine blk_drewN ?_ _ | refine blk_drew ?_ | refine blk_alloc ?_ _)); exact BK123.out) hb); have n1_ := Aside0.mk (blk_below (g := gb134) (o := .cells #[.int .i64 x135000_3, .int .i64 x135001_3, .int .i64 x135002_3, .int .i64 x135003_3] 25 (0, 0)) (by (with_reducible repeat (first | refine blk_drewN ?_ _ | refine blk_drew ?_ | refine blk_alloc ?_ _)); exact BK134.out) hb); have n2_ := Aside0.mk (below_step (by repeat (first | exact HB.out | apply below_alloc | apply pw_below_drewN | apply below_drew1 | refine below_set ?_ GE123.out | refine below_set ?_ GE134.out)) hb); have n3_ := Aside0.mk (hbox); have n4_ := Aside0.mk ((by rw [hg]; exact (below_size (by repeat (first | exact HB.out | apply below_alloc | apply pw_below_drewN | apply below_drew1 | refine below_set ?_ GE123.out | refine below_set ?_ GE134.out))) : w.heap.size ≤ gb141)); have n5_ := Aside0.mk ((by rw [hg]; exact (below_size (by repeat (first | exact HB.out | apply below_alloc | apply pw_below_drewN | apply below_drew1 | refine below_set ?_ GE123.out | refine below_set ?_ GE134.out))) : w.heap.size ≤ gb141)); have n6_ := Aside0.mk ((by rw [hg]; exact Nat.ne_of_lt (blk_lt (g := gb123) (o := .cells #[.slice (some ad135) l0_0.length c0_0, .slice A0_1 l0_1.length c0_1, .int .i64 a0_2] 88 (0, 0)) (by (with_reducible repeat (first | refine blk_drewN ?_ _ | refine blk_drew ?_ | refine blk_alloc ?_ _)); exact BK123.out)) : gb123 ≠ gb141)); have n7_ := Aside0.mk ((by rw [hg]; exact Nat.ne_of_gt (blk_lt (g := gb123) (o := .cells #[.slice (some ad135) l0_0.length c0_0, .slice A0_1 l0_1.length c0_1, .int .i64 a0_2] 88 (0, 0)) (by (with_reducible repeat (first | refine blk_drewN ?_ _ | refine blk_drew ?_ | refine blk_alloc ?_ _)); exact BK123.out)) : gb141 ≠ gb123)); have n8_ := Aside0.mk ((by rw [hg]; exact Nat.ne_of_lt (blk_lt (g := gb134) (o := .cells #[.int .i64 x135000_3, .int .i64 x135001_3, .int .i64 x135002_3, .int .i64 x135003_3] 25 (0, 0)) (by (with_reducible repeat (first | refine blk_drewN ?_ _ | refine blk_drew ?_ | refine blk_alloc ?_ _)); exact BK134.out)) : gb134 ≠ gb141)); have n9_ := Aside0.mk ((by rw [hg]; exact Nat.ne_of_gt (blk_lt (g := gb134) (o := .cells #[.int .i64 x135000_3, .int .i64 x135001_3, .int .i64 x135002_3, .int .i64 x135003_3] 25 (0, 0)) (by (with_reducible repeat (first | refine blk_drewN ?_ _ | refine blk_drew ?_ | refine blk_alloc ?_ _)); exact BK134.out)) : gb141 ≠ gb134)); clear BK123; clear BK134; clear HB; have BK123 := n0_; have BK134 := n1_; have HB := n2_; have BK141 := n3_; have GW141 := n4_; have GE141 := n5_; have NB123_141 := n6_; have NB141_123 := n7_; have NB134_141 := n8_; have NB141_134 := n9_; clear n0_ n1_ n2_ n3_ n4_ n5_ n6_ n7_ n8_ n9_; clear hb hbox hg; have hnb62 := NB141_123.out; have hnc62 := NB123_141.out; have hnb63 := NB141_134.out; have hnc63 := NB134_141.out; have hcz64_0 := blk_cell BK141.out; have hfz64_0 := blk_frozen BK141.out))
              have n0_ : Aside0 (((((w61.setCell ⟨gb141, 0, none⟩ (.int .i64 t136)).setCell ⟨gb141, 1, none⟩ (.int .i64 t137)).setCell ⟨gb141, 2, none⟩ (.int .i64 t138)).setCell ⟨gb141, 3, none⟩ (.int .i64 t139)).heap[gb123]? = some (.cells #[.slice (some ad135) l0_0.length c0_0, .slice A0_1 l0_1.length c0_1, .int .i64 a0_2] 88 (0, 0))) := ⟨by (with_reducible repeat (first | refine blk_drewN ?_ _ | refine blk_drew ?_ | refine blk_alloc ?_ _)); refine blk_far ?_ NB123_141.out _; (with_reducible repeat (first | refine blk_drewN ?_ _ | refine blk_drew ?_ | refine blk_alloc ?_ _)); refine blk_far ?_ NB123_141.out _; (with_reducible repeat (first | refine blk_drewN ?_ _ | refine blk_drew ?_ | refine blk_alloc ?_ _)); refine blk_far ?_ NB123_141.out _; (with_reducible repeat (first | refine blk_drewN ?_ _ | refine blk_drew ?_ | refine blk_alloc ?_ _)); refine blk_far ?_ NB123_141.out _; (with_reducible repeat (first | refine blk_drewN ?_ _ | refine blk_drew ?_ | refine blk_alloc ?_ _)); exact BK123.out⟩
              have n1_ : Aside0 (((((w61.setCell ⟨gb141, 0, none⟩ (.int .i64 t136)).setCell ⟨gb141, 1, none⟩ (.int .i64 t137)).setCell ⟨gb141, 2, none⟩ (.int .i64 t138)).setCell ⟨gb141, 3, none⟩ (.int .i64 t139)).heap[gb134]? = some (.cells #[.int .i64 x135000_3, .int .i64 x135001_3, .int .i64 x135002_3, .int .i64 x135003_3] 25 (0, 0))) := ⟨by (with_reducible repeat (first | refine blk_drewN ?_ _ | refine blk_drew ?_ | refine blk_alloc ?_ _)); refine blk_far ?_ NB134_141.out _; (with_reducible repeat (first | refine blk_drewN ?_ _ | refine blk_drew ?_ | refine blk_alloc ?_ _)); refine blk_far ?_ NB134_141.out _; (with_reducible repeat (first | refine blk_drewN ?_ _ | refine blk_drew ?_ | refine blk_alloc ?_ _)); refine blk_far ?_ NB134_141.out _; (with_reducible repeat (first | refine blk_drewN ?_ _ | refine blk_drew ?_ | refine blk_alloc ?_ _)); refine blk_far ?_ NB134_141.out _; (with_reducible repeat (first | refine blk_drewN ?_ _ | refine blk_drew ?_ | refine blk_alloc ?_ _)); exact BK134.out⟩
              have n2_ : Aside0 (((((w61.setCell ⟨gb141, 0, none⟩ (.int .i64 t136)).setCell ⟨gb141, 1, none⟩ (.int .i64 t137)).setCell ⟨gb141, 2, none⟩ (.int .i64 t138)).setCell ⟨gb141, 3, none⟩ (.int .i64 t139)).heap[gb141]? = some (.cells #[.int .i64 t136, .int .i64 t137, .int .i64 t138, .int .i64 t139] 25 (0, 0))) := ⟨by (with_reducible repeat (first | refine blk_drewN ?_ _ | refine blk_drew ?_ | refine blk_alloc ?_ _)); refine blk_put (cs := #[.int .i64 t136, .int .i64 t137, .int .i64 t138, .int .i64 0]) ?_ 3 _ rfl; (with_reducible repeat (first | refine blk_drewN ?_ _ | refine blk_drew ?_ | refine blk_alloc ?_ _)); refine blk_put (cs := #[.int .i64 t136, .int .i64 t137, .int .i64 0, .int .i64 0]) ?_ 2 _ rfl; (with_reducible repeat (first | refine blk_drewN ?_ _ | refine blk_drew ?_ | refine blk_alloc ?_ _)); refine blk_put (cs := #[.int .i64 t136, .int .i64 0, .int .i64 0, .int .i64 0]) ?_ 1 _ rfl; (with_reducible repeat (first | refine blk_drewN ?_ _ | refine blk_drew ?_ | refine blk_alloc ?_ _)); refine blk_put (cs := #[.int .i64 0, .int .i64 0, .int .i64 0, .int .i64 0]) ?_ 0 _ rfl; (with_reducible repeat (first | refine blk_drewN ?_ _ | refine blk_drew ?_ | refine blk_alloc ?_ _)); exact BK141.out⟩
              have n3_ : Aside0 (Below w.heap.size w ((((w61.setCell ⟨gb141, 0, none⟩ (.int .i64 t136)).setCell ⟨gb141, 1, none⟩ (.int .i64 t137)).setCell ⟨gb141, 2, none⟩ (.int .i64 t138)).setCell ⟨gb141, 3, none⟩ (.int .i64 t139))) := ⟨by repeat (first | exact HB.out | apply below_alloc | apply pw_below_drewN | apply below_drew1 | refine below_set ?_ GE123.out | refine below_set ?_ GE134.out | refine below_set ?_ GE141.out)⟩
              (try clear BK123)
              (try clear BK134)
              (try clear BK141)
              (try clear HB)
              generalize ((((w61.setCell ⟨gb141, 0, none⟩ (.int .i64 t136)).setCell ⟨gb141, 1, none⟩ (.int .i64 t137)).setCell ⟨gb141, 2, none⟩ (.int .i64 t138)).setCell ⟨gb141, 3, none⟩ (.int .i64 t139)) = w65 at n0_ n1_ n2_ n3_ ⊢
              have BK123 := n0_
              have BK134 := n1_
              have BK141 := n2_
              have HB := n3_
              clear n0_ n1_ n2_ n3_
              have n0_ := Aside0.mk (blk_drew BK123.out)
              have n1_ := Aside0.mk (blk_drew BK134.out)
              have n2_ := Aside0.mk (blk_drew BK141.out)
              have n3_ := Aside0.mk (below_drew1 HB.out)
              clear BK123
              clear BK134
              clear BK141
              clear HB
              have BK123 := n0_
              have BK134 := n1_
              have BK141 := n2_
              have HB := n3_
              clear n0_ n1_ n2_ n3_
              refine start_ (n := 27) (S := fun w' => w'.cell? ⟨gb123, 0, none⟩ = some (.slice (some ad135) l0_0.length c0_0) ∧ w'.cell? ⟨gb123, 1, none⟩ = some (.slice A0_1 l0_1.length c0_1) ∧ w'.cell? ⟨gb123, 2, none⟩ = some (.int .i64 a0_2)) (ds := []) spec_ImageOk.m46 (by kernel_rfl) rfl rfl ⟨(blk_cell BK123.out 0).trans rfl, (blk_cell BK123.out 1).trans rfl, (blk_cell BK123.out 2).trans rfl⟩ (fun hHeld => ?_); refine with_tabW spec_ImageOk.tab14 spec_ImageOk.bits14 (fun HT_ HW_ => ?_)
              generalize w65.drew = w66 at BK123 BK134 BK141 HB hHeld ⊢
              refine pur 0 88 ?_ HT_ spec_ImageOk.m47 ?_ ?_ ?_ ?_; (rotate_left; (· intro w'; go_simp; with_reducible rfl); rotate_left; (· simp only [Act.put, zz]; rfl))
              refine pur 1 89 ?_ HT_ spec_ImageOk.m48 ?_ ?_ ?_ ?_; (rotate_left; (· intro w'; go_simp; with_reducible rfl); rotate_left; (· simp only [Act.put, zz]; rfl))
              refine pur 2 90 ?_ HT_ spec_ImageOk.m49 ?_ ?_ ?_ ?_; (rotate_left; (· intro w'; go_simp; with_reducible rfl); rotate_left; (· simp only [Act.put, zz]; rfl))
              refine pur 3 91 ?_ HT_ spec_ImageOk.m50 ?_ ?_ ?_ ?_; (rotate_left; (· intro w'; go_simp; with_reducible rfl); rotate_left; (· simp only [Act.put, zz]; rfl))
              refine pur 5 93 ?_ HT_ spec_ImageOk.m51 ?_ ?_ ?_ ?_; (rotate_left; (· intro w'; go_simp; with_reducible rfl); rotate_left; (· simp only [Act.put, zz]; rfl))
              refine pur 7 95 ?_ HT_ spec_ImageOk.m52 ?_ ?_ ?_ ?_; (rotate_left; (· intro w'; go_simp; with_reducible rfl); rotate_left; (· simp only [Act.put, zz]; rfl))
              refine tak 4 92 ?_ HT_ HW_ hHeld spec_ImageOk.m53 ?_ ?_ ?_ ?_; (rotate_left; (· rintro w' ⟨s0, s1, s2⟩; go_simp; with_reducible rfl); rotate_left; (· simp only [Act.put, zz]; rfl))
              refine tak 8 96 ?_ HT_ HW_ hHeld spec_ImageOk.m54 ?_ ?_ ?_ ?_; (rotate_left; (· rintro w' ⟨s0, s1, s2⟩; go_simp; with_reducible rfl); rotate_left; (· simp only [Act.put, zz]; rfl))
              refine one_ (i := 6) (N := some 94) spec_ImageOk.m55 rfl rfl (one_of HT_.out (by kernel_rfl)) (by decide) (fun K hK => ?_)
              refine goes_ Try.func46 (by kernel_rfl) rfl #[.slice (some ad135) l0_0.length c0_0, .int .i64 x6_3] (by rfl) rfl rfl (by first | rfl | (simp only [List.map_toArray, List.map_cons, List.map_nil, List.length_drop, List.length_take]; rfl)) ?_
              with_reducible refine (spec_TouchOf.calls k3 _ _ l0_0 x6_3 t142 _ ?side1 ?side2 A56.out).mono ?_
              (case side1 => repeat (first | exact (Kd.C_below HR0_0.out HB.out) | (with_reducible refine Kd.C_alloc ?_ _) | (with_reducible refine Kd.C_drewN ?_ _) | (with_reducible refine Kd.C_drew ?_)))
              (case side2 => exact HC0_0.out)
              rintro e w67 ⟨rfl, hb⟩
              refine ⟨_, rfl, ?_⟩
              have n0_ := Aside0.mk (blk_below (g := gb123) (o := .cells #[.slice (some ad135) l0_0.length c0_0, .slice A0_1 l0_1.length c0_1, .int .i64 a0_2] 88 (0, 0)) (by (with_reducible repeat (first | refine blk_drewN ?_ _ | refine blk_drew ?_ | refine blk_alloc ?_ _)); exact BK123.out) hb)
              have n1_ := Aside0.mk (blk_below (g := gb134) (o := .cells #[.int .i64 x135000_3, .int .i64 x135001_3, .int .i64 x135002_3, .int .i64 x135003_3] 25 (0, 0)) (by (with_reducible repeat (first | refine blk_drewN ?_ _ | refine blk_drew ?_ | refine blk_alloc ?_ _)); exact BK134.out) hb)
              have n2_ := Aside0.mk (blk_below (g := gb141) (o := .cells #[.int .i64 t136, .int .i64 t137, .int .i64 t138, .int .i64 t139] 25 (0, 0)) (by (with_reducible repeat (first | refine blk_drewN ?_ _ | refine blk_drew ?_ | refine blk_alloc ?_ _)); exact BK141.out) hb)
              have n3_ := Aside0.mk (below_step (by repeat (first | exact HB.out | apply below_alloc | apply pw_below_drewN | apply below_drew1 | refine below_set ?_ GE123.out | refine below_set ?_ GE134.out | refine below_set ?_ GE141.out)) hb)
              clear BK123
              clear BK134
              clear BK141
              clear HB
              have BK123 := n0_
              have BK134 := n1_
              have BK141 := n2_
              have HB := n3_
              clear n0_ n1_ n2_ n3_
              (try clear hb)
              (try clear hb2)
              (try clear hk)
              (try clear hi)
              refine hK.out _ _ ⟨(blk_cell BK123.out 0).trans rfl, (blk_cell BK123.out 1).trans rfl, (blk_cell BK123.out 2).trans rfl⟩ (fun hHeld => ?_)
              clear hK K
              refine norm_ (a' := ?_) ?_ ?_
              rotate_left
              ·show Act.put _ (some 94) _ = _
               simp only [Act.put, zz]
               rfl
              refine pur 9 97 ?_ HT_ spec_ImageOk.m56 ?_ ?_ ?_ ?_; (rotate_left; (· intro w'; go_simp; with_reducible rfl); rotate_left; (· simp only [Act.put, zz]; rfl))
              refine pur 10 98 ?_ HT_ spec_ImageOk.m57 ?_ ?_ ?_ ?_; (rotate_left; (· intro w'; go_simp; with_reducible rfl); rotate_left; (· simp only [Act.put, zz]; rfl))
              refine pur 11 99 ?_ HT_ spec_ImageOk.m58 ?_ ?_ ?_ ?_; (rotate_left; (· intro w'; go_simp; with_reducible rfl); rotate_left; (· simp only [Act.put, zz]; rfl))
              refine pun 12 100 HT_ spec_ImageOk.m59 ?_ ?_ ?_; (rotate_left; (· simp only [Act.put, zz]; rfl))
              refine pun 13 101 HT_ spec_ImageOk.m60 ?_ ?_ ?_; (rotate_left; (· simp only [Act.put, zz]; rfl))
              refine pun 14 102 HT_ spec_ImageOk.m61 ?_ ?_ ?_; (rotate_left; (· simp only [Act.put, zz]; rfl))
              refine pun 15 103 HT_ spec_ImageOk.m62 ?_ ?_ ?_; (rotate_left; (· simp only [Act.put, zz]; rfl))
              refine pun 16 104 HT_ spec_ImageOk.m63 ?_ ?_ ?_; (rotate_left; (· simp only [Act.put, zz]; rfl))
              refine pun 17 105 HT_ spec_ImageOk.m64 ?_ ?_ ?_; (rotate_left; (· simp only [Act.put, zz]; rfl))
              refine pun 18 106 HT_ spec_ImageOk.m65 ?_ ?_ ?_; (rotate_left; (· simp only [Act.put, zz]; rfl))
              refine pun 19 107 HT_ spec_ImageOk.m66 ?_ ?_ ?_; (rotate_left; (· simp only [Act.put, zz]; rfl))
              refine pun 20 108 HT_ spec_ImageOk.m67 ?_ ?_ ?_; (rotate_left; (· simp only [Act.put, zz]; rfl))
              refine pun 21 109 HT_ spec_ImageOk.m68 ?_ ?_ ?_; (rotate_left; (· simp only [Act.put, zz]; rfl))
              refine pun 22 110 HT_ spec_ImageOk.m69 ?_ ?_ ?_; (rotate_left; (· simp only [Act.put, zz]; rfl))
              refine pun 23 111 HT_ spec_ImageOk.m70 ?_ ?_ ?_; (rotate_left; (· simp only [Act.put, zz]; rfl))
              refine pun 24 112 HT_ spec_ImageOk.m71 ?_ ?_ ?_; (rotate_left; (· simp only [Act.put, zz]; rfl))
              refine pun 25 113 HT_ spec_ImageOk.m72 ?_ ?_ ?_; (rotate_left; (· simp only [Act.put, zz]; rfl))
              refine pur 26 114 ?_ HT_ spec_ImageOk.m73 ?_ ?_ ?_ ?_; (rotate_left; (· intro w'; go_simp; with_reducible rfl); rotate_left; (· simp only [Act.put, zz]; rfl))
              refine done_ (done_of HT_.out (by kernel_rfl)) ?_
              try go_wp2
              go_ret
              exact ⟨by first | rfl | (simp [errW_none, errW_some] <;> rfl) | (simp [*, errW_none, errW_some] <;> rfl), by repeat (first | exact HB.out | apply below_alloc | apply pw_below_drewN | apply below_drew1 | refine below_set ?_ GE123.out | refine below_set ?_ GE134.out | refine below_set ?_ GE141.out)⟩
             ·rw [if_neg c57] at H
              have c57b0 : decide (a0_2 ≤ t142) = false := decide_eq_false c57
              clear c57
              by_cases c68 : t136 = 7
              ·rw [if_pos c68] at H
               have c68b0 : (t136 == 7) = true := beq_iff_eq.mpr c68
               have c68b1 : (t136 != 7) = false := bne_eq_false_iff_eq.mpr c68
               clear c68
               by_cases c69 : t139 ≥ (l0_0.length : Int)
               ·rw [if_pos c69] at H
                have c69b0 : decide ((l0_0.length : Int) ≤ t139) = true := decide_eq_true c69
                clear c69
                obtain rfl := Option.some.inj H
                have hnb70 := NB123_134.out
                have hnc70 := NB134_123.out
                have hcz71_0 := blk_cell BK123.out
                have hfz71_0 := blk_frozen BK123.out
                have p135 : 0 ≤ (x6_3 : Int) := of_decide_eq_true (by first | (with_reducible assumption) | assumption)
                have q135 : x6_3 < (l0_0.length : Int) := of_decide_eq_true (by first | (with_reducible assumption) | assumption)
                obtain ⟨ad135, e135, hx135_0⟩ := Kd.at_int HR0_0.out x6_3 p135 q135
                cases e135
                replace hx135_0 := (HB.out.cell (World.block_lt_of_cell? w _ hx135_0)).trans hx135_0
                replace p135 := eq_true p135
                replace q135 := eq_true q135
                try go_wp2_with (first | ((with_reducible refine gate_callee (f := 25) rfl ?_); refine goesL_ (some 85) rfl rfl Try.func25 (by kernel_rfl) rfl #[.int .i64 (rd l0_0 x6_3)] rfl (by first | rfl | (simp only [List.map_toArray, List.map_cons, List.map_nil, List.length_drop, List.length_take]; rfl)) ?_; (with_reducible refine (spec_Decode.calls k3 (rd l0_0 x6_3) t136 t137 t138 t139 true _ A54.out).mono ?_); rintro e w72 ⟨rfl, hb⟩; refine ⟨_, rfl, ?_⟩; have n0_ := Aside0.mk (blk_below (g := gb123) (o := .cells #[.slice (some ad135) l0_0.length c0_0, .slice A0_1 l0_1.length c0_1, .int .i64 a0_2] 88 (0, 0)) (by (with_reducible repeat (first | refine blk_drewN ?_ _ | refine blk_drew ?_ | refine blk_alloc ?_ _)); exact BK123.out) hb); have n1_ := Aside0.mk (blk_below (g := gb134) (o := .cells #[.int .i64 x135000_3, .int .i64 x135001_3, .int .i64 x135002_3, .int .i64 x135003_3] 25 (0, 0)) (by (with_reducible repeat (first | refine blk_drewN ?_ _ | refine blk_drew ?_ | refine blk_alloc ?_ _)); exact BK134.out) hb); have n2_ := Aside0.mk (below_step (by repeat (first | exact HB.out | apply below_alloc | apply pw_below_drewN | apply below_drew1 | refine below_set ?_ GE123.out | refine below_set ?_ GE134.out)) hb); clear BK123; clear BK134; clear HB; have BK123 := n0_; have BK134 := n1_; have HB := n2_; clear n0_ n1_ n2_; (try clear hb); (try clear hb2); (try clear hk); (try clear hi)) | ((with_reducible refine gate_dst (N := 7) rfl ?_); refine box_event ?hg (N := 7) ?hd (cs := #[.int .i64 0, .int .i64 0, .int .i64 0, .int .i64 0]) (t := 25) ?hr ?_; (case hd => rfl); (case hg => rfl); (case hr => first | (go_simp; done) | (go_simp; rfl)); intro gb141 hg w73 hbox hb; have n0_ := Aside0.mk (blk_below (g := gb123) (o := .cells #[.slice (some ad135) l0_0.length c0_0, .slice A0_1 l0_1.length c0_1, .int .i64 a0_2] 88 (0, 0)) (by (with_reducible repeat (first | refine blk_drewN ?_ _ | refine blk_drew ?_ | refine blk_alloc ?_ _)); exact BK123.out) hb); have n1_ := Aside0.mk (blk_below (g := gb134) (o := .cells #[.int .i64 x135000_3, .int .i64 x135001_3, .int .i64 x135002_3, .int .i64 x135003_3] 25 (0, 0)) (by (with_reducible repeat (first | refine blk_drewN ?_ _ | refine blk_drew ?_ | refine blk_alloc ?_ _)); exact BK134.out) hb); have n2_ := Aside0.mk (below_step (by repeat (first | exact HB.out | apply below_alloc | apply pw_below_drewN | apply below_drew1 | refine below_set ?_ GE123.out | refine below_set ?_ GE134.out)) hb); have n3_ := Aside0.mk (hbox); have n4_ := Aside0.mk ((by rw [hg]; exact (below_size (by repeat (first | exact HB.out | apply below_alloc | apply pw_below_drewN | apply below_drew1 | refine below_set ?_ GE123.out | refine below_set ?_ GE134.out))) : w.heap.size ≤ gb141)); have n5_ := Aside0.mk ((by rw [hg]; exact (below_size (by repeat (first | exact HB.out | apply below_alloc | apply pw_below_drewN | apply below_drew1 | refine below_set ?_ GE123.out | refine below_set ?_ GE134.out))) : w.heap.size ≤ gb141)); have n6_ := Aside0.mk ((by rw [hg]; exact Nat.ne_of_lt (blk_lt (g := gb123) (o := .cells #[.slice (some ad135) l0_0.length c0_0, .slice A0_1 l0_1.length c0_1, .int .i64 a0_2] 88 (0, 0)) (by (with_reducible repeat (first | refine blk_drewN ?_ _ | refine blk_drew ?_ | refine blk_alloc ?_ _)); exact BK123.out)) : gb123 ≠ gb141)); have n7_ := Aside0.mk ((by rw [hg]; exact Nat.ne_of_gt (blk_lt (g := gb123) (o := .cells #[.slice (some ad135) l0_0.length c0_0, .slice A0_1 l0_1.length c0_1, .int .i64 a0_2] 88 (0, 0)) (by (with_reducible repeat (first | refine blk_drewN ?_ _ | refine blk_drew ?_ | refine blk_alloc ?_ _)); exact BK123.out)) : gb141 ≠ gb123)); have n8_ := Aside0.mk ((by rw [hg]; exact Nat.ne_of_lt (blk_lt (g := gb134) (o := .cells #[.int .i64 x135000_3, .int .i64 x135001_3, .int .i64 x135002_3, .int .i64 x135003_3] 25 (0, 0)) (by (with_reducible repeat (first | refine blk_drewN ?_ _ | refine blk_drew ?_ | refine blk_alloc ?_ _)); exact BK134.out)) : gb134 ≠ gb141)); have n9_ := Aside0.mk ((by rw [hg]; exact Nat.ne_of_gt (blk_lt (g := gb134) (o := .cells #[.int .i64 x135000_3, .int .i64 x135001_3, .int .i64 x135002_3, .int .i64 x135003_3] 25 (0, 0)) (by (with_reducible repeat (first | refine blk_drewN ?_ _ | refine blk_drew ?_ | refine blk_alloc ?_ _)); exact BK134.out)) : gb141 ≠ gb134)); clear BK123; clear BK134; clear HB; have BK123 := n0_; have BK134 := n1_; have HB := n2_; have BK141 := n3_; have GW141 := n4_; have GE141 := n5_; have NB123_141 := n6_; have NB141_123 := n7_; have NB134_141 := n8_; have NB141_134 := n9_; clear n0_ n1_ n2_ n3_ n4_ n5_ n6_ n7_ n8_ n9_; clear hb hbox hg; have hnb74 := NB141_123.out; have hnc74 := NB123_141.out; have hnb75 := NB141_134.out; have hnc75 := NB134_141.out; have hcz76_0 := blk_cell BK141.out; have hfz76_0 := blk_frozen BK141.out))
                have n0_ : Aside0 (((((w73.setCell ⟨gb141, 0, none⟩ (.int .i64 t136)).setCell ⟨gb141, 1, none⟩ (.int .i64 t137)).setCell ⟨gb141, 2, none⟩ (.int .i64 t138)).setCell ⟨gb141, 3, none⟩ (.int .i64 t139)).heap[gb123]? = some (.cells #[.slice (some ad135) l0_0.length c0_0, .slice A0_1 l0_1.length c0_1, .int .i64 a0_2] 88 (0, 0))) := ⟨by (with_reducible repeat (first | refine blk_drewN ?_ _ | refine blk_drew ?_ | refine blk_alloc ?_ _)); refine blk_far ?_ NB123_141.out _; (with_reducible repeat (first | refine blk_drewN ?_ _ | refine blk_drew ?_ | refine blk_alloc ?_ _)); refine blk_far ?_ NB123_141.out _; (with_reducible repeat (first | refine blk_drewN ?_ _ | refine blk_drew ?_ | refine blk_alloc ?_ _)); refine blk_far ?_ NB123_141.out _; (with_reducible repeat (first | refine blk_drewN ?_ _ | refine blk_drew ?_ | refine blk_alloc ?_ _)); refine blk_far ?_ NB123_141.out _; (with_reducible repeat (first | refine blk_drewN ?_ _ | refine blk_drew ?_ | refine blk_alloc ?_ _)); exact BK123.out⟩
                have n1_ : Aside0 (((((w73.setCell ⟨gb141, 0, none⟩ (.int .i64 t136)).setCell ⟨gb141, 1, none⟩ (.int .i64 t137)).setCell ⟨gb141, 2, none⟩ (.int .i64 t138)).setCell ⟨gb141, 3, none⟩ (.int .i64 t139)).heap[gb134]? = some (.cells #[.int .i64 x135000_3, .int .i64 x135001_3, .int .i64 x135002_3, .int .i64 x135003_3] 25 (0, 0))) := ⟨by (with_reducible repeat (first | refine blk_drewN ?_ _ | refine blk_drew ?_ | refine blk_alloc ?_ _)); refine blk_far ?_ NB134_141.out _; (with_reducible repeat (first | refine blk_drewN ?_ _ | refine blk_drew ?_ | refine blk_alloc ?_ _)); refine blk_far ?_ NB134_141.out _; (with_reducible repeat (first | refine blk_drewN ?_ _ | refine blk_drew ?_ | refine blk_alloc ?_ _)); refine blk_far ?_ NB134_141.out _; (with_reducible repeat (first | refine blk_drewN ?_ _ | refine blk_drew ?_ | refine blk_alloc ?_ _)); refine blk_far ?_ NB134_141.out _; (with_reducible repeat (first | refine blk_drewN ?_ _ | refine blk_drew ?_ | refine blk_alloc ?_ _)); exact BK134.out⟩
                have n2_ : Aside0 (((((w73.setCell ⟨gb141, 0, none⟩ (.int .i64 t136)).setCell ⟨gb141, 1, none⟩ (.int .i64 t137)).setCell ⟨gb141, 2, none⟩ (.int .i64 t138)).setCell ⟨gb141, 3, none⟩ (.int .i64 t139)).heap[gb141]? = some (.cells #[.int .i64 t136, .int .i64 t137, .int .i64 t138, .int .i64 t139] 25 (0, 0))) := ⟨by (with_reducible repeat (first | refine blk_drewN ?_ _ | refine blk_drew ?_ | refine blk_alloc ?_ _)); refine blk_put (cs := #[.int .i64 t136, .int .i64 t137, .int .i64 t138, .int .i64 0]) ?_ 3 _ rfl; (with_reducible repeat (first | refine blk_drewN ?_ _ | refine blk_drew ?_ | refine blk_alloc ?_ _)); refine blk_put (cs := #[.int .i64 t136, .int .i64 t137, .int .i64 0, .int .i64 0]) ?_ 2 _ rfl; (with_reducible repeat (first | refine blk_drewN ?_ _ | refine blk_drew ?_ | refine blk_alloc ?_ _)); refine blk_put (cs := #[.int .i64 t136, .int .i64 0, .int .i64 0, .int .i64 0]) ?_ 1 _ rfl; (with_reducible repeat (first | refine blk_drewN ?_ _ | refine blk_drew ?_ | refine blk_alloc ?_ _)); refine blk_put (cs := #[.int .i64 0, .int .i64 0, .int .i64 0, .int .i64 0]) ?_ 0 _ rfl; (with_reducible repeat (first | refine blk_drewN ?_ _ | refine blk_drew ?_ | refine blk_alloc ?_ _)); exact BK141.out⟩
                have n3_ : Aside0 (Below w.heap.size w ((((w73.setCell ⟨gb141, 0, none⟩ (.int .i64 t136)).setCell ⟨gb141, 1, none⟩ (.int .i64 t137)).setCell ⟨gb141, 2, none⟩ (.int .i64 t138)).setCell ⟨gb141, 3, none⟩ (.int .i64 t139))) := ⟨by repeat (first | exact HB.out | apply below_alloc | apply pw_below_drewN | apply below_drew1 | refine below_set ?_ GE123.out | refine below_set ?_ GE134.out | refine below_set ?_ GE141.out)⟩
                (try clear BK123)
                (try clear BK134)
                (try clear BK141)
                (try clear HB)
                generalize ((((w73.setCell ⟨gb141, 0, none⟩ (.int .i64 t136)).setCell ⟨gb141, 1, none⟩ (.int .i64 t137)).setCell ⟨gb141, 2, none⟩ (.int .i64 t138)).setCell ⟨gb141, 3, none⟩ (.int .i64 t139)) = w77 at n0_ n1_ n2_ n3_ ⊢
                have BK123 := n0_
                have BK134 := n1_
                have BK141 := n2_
                have HB := n3_
                clear n0_ n1_ n2_ n3_
                have n0_ := Aside0.mk (blk_drew BK123.out)
                have n1_ := Aside0.mk (blk_drew BK134.out)
                have n2_ := Aside0.mk (blk_drew BK141.out)
                have n3_ := Aside0.mk (below_drew1 HB.out)
                clear BK123
                clear BK134
                clear BK141
                clear HB
                have BK123 := n0_
                have BK134 := n1_
                have BK141 := n2_
                have HB := n3_
                clear n0_ n1_ n2_ n3_
                refine start_ (n := 27) (S := fun w' => w'.cell? ⟨gb123, 0, none⟩ = some (.slice (some ad135) l0_0.length c0_0) ∧ w'.cell? ⟨gb123, 1, none⟩ = some (.slice A0_1 l0_1.length c0_1) ∧ w'.cell? ⟨gb123, 2, none⟩ = some (.int .i64 a0_2) ∧ w'.cell? ⟨gb141, 0, none⟩ = some (.int .i64 t136) ∧ w'.cell? ⟨gb141, 1, none⟩ = some (.int .i64 t137) ∧ w'.cell? ⟨gb141, 2, none⟩ = some (.int .i64 t138) ∧ w'.cell? ⟨gb141, 3, none⟩ = some (.int .i64 t139)) (ds := []) spec_ImageOk.m46 (by kernel_rfl) rfl rfl ⟨(blk_cell BK123.out 0).trans rfl, (blk_cell BK123.out 1).trans rfl, (blk_cell BK123.out 2).trans rfl, (blk_cell BK141.out 0).trans rfl, (blk_cell BK141.out 1).trans rfl, (blk_cell BK141.out 2).trans rfl, (blk_cell BK141.out 3).trans rfl⟩ (fun hHeld => ?_); refine with_tabW spec_ImageOk.tab14 spec_ImageOk.bits14 (fun HT_ HW_ => ?_)
                generalize w77.drew = w78 at BK123 BK134 BK141 HB hHeld ⊢
                refine pur 0 88 ?_ HT_ spec_ImageOk.m47 ?_ ?_ ?_ ?_; (rotate_left; (· intro w'; go_simp; with_reducible rfl); rotate_left; (· simp only [Act.put, zz]; rfl))
                refine pur 1 89 ?_ HT_ spec_ImageOk.m48 ?_ ?_ ?_ ?_; (rotate_left; (· intro w'; go_simp; with_reducible rfl); rotate_left; (· simp only [Act.put, zz]; rfl))
                refine pur 2 90 ?_ HT_ spec_ImageOk.m49 ?_ ?_ ?_ ?_; (rotate_left; (· intro w'; go_simp; with_reducible rfl); rotate_left; (· simp only [Act.put, zz]; rfl))
                refine pur 3 91 ?_ HT_ spec_ImageOk.m50 ?_ ?_ ?_ ?_; (rotate_left; (· intro w'; go_simp; with_reducible rfl); rotate_left; (· simp only [Act.put, zz]; rfl))
                refine pur 5 93 ?_ HT_ spec_ImageOk.m51 ?_ ?_ ?_ ?_; (rotate_left; (· intro w'; go_simp; with_reducible rfl); rotate_left; (· simp only [Act.put, zz]; rfl))
                refine pur 7 95 ?_ HT_ spec_ImageOk.m52 ?_ ?_ ?_ ?_; (rotate_left; (· intro w'; go_simp; with_reducible rfl); rotate_left; (· simp only [Act.put, zz]; rfl))
                refine tak 4 92 ?_ HT_ HW_ hHeld spec_ImageOk.m53 ?_ ?_ ?_ ?_; (rotate_left; (· rintro w' ⟨s0, s1, s2, s3, s4, s5, s6⟩; go_simp; with_reducible rfl); rotate_left; (· simp only [Act.put, zz]; rfl))
                refine tak 8 96 ?_ HT_ HW_ hHeld spec_ImageOk.m54 ?_ ?_ ?_ ?_; (rotate_left; (· rintro w' ⟨s0, s1, s2, s3, s4, s5, s6⟩; go_simp; with_reducible rfl); rotate_left; (· simp only [Act.put, zz]; rfl))
                refine one_ (i := 6) (N := some 94) spec_ImageOk.m55 rfl rfl (one_of HT_.out (by kernel_rfl)) (by decide) (fun K hK => ?_)
                refine goes_ Try.func46 (by kernel_rfl) rfl #[.slice (some ad135) l0_0.length c0_0, .int .i64 x6_3] (by rfl) rfl rfl (by first | rfl | (simp only [List.map_toArray, List.map_cons, List.map_nil, List.length_drop, List.length_take]; rfl)) ?_
                with_reducible refine (spec_TouchOf.calls k3 _ _ l0_0 x6_3 t142 _ ?side1 ?side2 A56.out).mono ?_
                (case side1 => repeat (first | exact (Kd.C_below HR0_0.out HB.out) | (with_reducible refine Kd.C_alloc ?_ _) | (with_reducible refine Kd.C_drewN ?_ _) | (with_reducible refine Kd.C_drew ?_)))
                (case side2 => exact HC0_0.out)
                rintro e w79 ⟨rfl, hb⟩
                refine ⟨_, rfl, ?_⟩
                have n0_ := Aside0.mk (blk_below (g := gb123) (o := .cells #[.slice (some ad135) l0_0.length c0_0, .slice A0_1 l0_1.length c0_1, .int .i64 a0_2] 88 (0, 0)) (by (with_reducible repeat (first | refine blk_drewN ?_ _ | refine blk_drew ?_ | refine blk_alloc ?_ _)); exact BK123.out) hb)
                have n1_ := Aside0.mk (blk_below (g := gb134) (o := .cells #[.int .i64 x135000_3, .int .i64 x135001_3, .int .i64 x135002_3, .int .i64 x135003_3] 25 (0, 0)) (by (with_reducible repeat (first | refine blk_drewN ?_ _ | refine blk_drew ?_ | refine blk_alloc ?_ _)); exact BK134.out) hb)
                have n2_ := Aside0.mk (blk_below (g := gb141) (o := .cells #[.int .i64 t136, .int .i64 t137, .int .i64 t138, .int .i64 t139] 25 (0, 0)) (by (with_reducible repeat (first | refine blk_drewN ?_ _ | refine blk_drew ?_ | refine blk_alloc ?_ _)); exact BK141.out) hb)
                have n3_ := Aside0.mk (below_step (by repeat (first | exact HB.out | apply below_alloc | apply pw_below_drewN | apply below_drew1 | refine below_set ?_ GE123.out | refine below_set ?_ GE134.out | refine below_set ?_ GE141.out)) hb)
                clear BK123
                clear BK134
                clear BK141
                clear HB
                have BK123 := n0_
                have BK134 := n1_
                have BK141 := n2_
                have HB := n3_
                clear n0_ n1_ n2_ n3_
                (try clear hb)
                (try clear hb2)
                (try clear hk)
                (try clear hi)
                refine hK.out _ _ ⟨(blk_cell BK123.out 0).trans rfl, (blk_cell BK123.out 1).trans rfl, (blk_cell BK123.out 2).trans rfl, (blk_cell BK141.out 0).trans rfl, (blk_cell BK141.out 1).trans rfl, (blk_cell BK141.out 2).trans rfl, (blk_cell BK141.out 3).trans rfl⟩ (fun hHeld => ?_)
                clear hK K
                refine norm_ (a' := ?_) ?_ ?_
                rotate_left
                ·show Act.put _ (some 94) _ = _
                 simp only [Act.put, zz]
                 rfl
                refine pur 9 97 ?_ HT_ spec_ImageOk.m56 ?_ ?_ ?_ ?_; (rotate_left; (· intro w'; go_simp; with_reducible rfl); rotate_left; (· simp only [Act.put, zz]; rfl))
                refine pur 10 98 ?_ HT_ spec_ImageOk.m57 ?_ ?_ ?_ ?_; (rotate_left; (· intro w'; go_simp; with_reducible rfl); rotate_left; (· simp only [Act.put, zz]; rfl))
                refine pur 11 99 ?_ HT_ spec_ImageOk.m58 ?_ ?_ ?_ ?_; (rotate_left; (· intro w'; go_simp; with_reducible rfl); rotate_left; (· simp only [Act.put, zz]; rfl))
                refine pur 12 100 ?_ HT_ spec_ImageOk.m59 ?_ ?_ ?_ ?_; (rotate_left; (· intro w'; go_simp; with_reducible rfl); rotate_left; (· simp only [Act.put, zz]; rfl))
                refine tak 13 101 ?_ HT_ HW_ hHeld spec_ImageOk.m60 ?_ ?_ ?_ ?_; (rotate_left; (· rintro w' ⟨s0, s1, s2, s3, s4, s5, s6⟩; go_simp; with_reducible rfl); rotate_left; (· simp only [Act.put, zz]; rfl))
                refine pur 14 102 ?_ HT_ spec_ImageOk.m61 ?_ ?_ ?_ ?_; (rotate_left; (· intro w'; go_simp; with_reducible rfl); rotate_left; (· simp only [Act.put, zz]; rfl))
                refine pur 15 103 ?_ HT_ spec_ImageOk.m62 ?_ ?_ ?_ ?_; (rotate_left; (· intro w'; go_simp; with_reducible rfl); rotate_left; (· simp only [Act.put, zz]; rfl))
                refine pun 16 104 HT_ spec_ImageOk.m63 ?_ ?_ ?_; (rotate_left; (· simp only [Act.put, zz]; rfl))
                refine pun 17 105 HT_ spec_ImageOk.m64 ?_ ?_ ?_; (rotate_left; (· simp only [Act.put, zz]; rfl))
                refine pun 18 106 HT_ spec_ImageOk.m65 ?_ ?_ ?_; (rotate_left; (· simp only [Act.put, zz]; rfl))
                refine pur 19 107 ?_ HT_ spec_ImageOk.m66 ?_ ?_ ?_ ?_; (rotate_left; (· intro w'; go_simp; with_reducible rfl); rotate_left; (· simp only [Act.put, zz]; rfl))
                refine pur 20 108 ?_ HT_ spec_ImageOk.m67 ?_ ?_ ?_ ?_; (rotate_left; (· intro w'; go_simp; with_reducible rfl); rotate_left; (· simp only [Act.put, zz]; rfl))
                refine pur 21 109 ?_ HT_ spec_ImageOk.m68 ?_ ?_ ?_ ?_; (rotate_left; (· intro w'; go_simp; with_reducible rfl); rotate_left; (· simp only [Act.put, zz]; rfl))
                refine pur 23 111 ?_ HT_ spec_ImageOk.m74 ?_ ?_ ?_ ?_; (rotate_left; (· intro w'; go_simp; with_reducible rfl); rotate_left; (· simp only [Act.put, zz]; rfl))
                refine tak 22 110 ?_ HT_ HW_ hHeld spec_ImageOk.m70 ?_ ?_ ?_ ?_; (rotate_left; (· rintro w' ⟨s0, s1, s2, s3, s4, s5, s6⟩; go_simp; with_reducible rfl); rotate_left; (· simp only [Act.put, zz]; rfl))
                refine pur 24 112 ?_ HT_ spec_ImageOk.m71 ?_ ?_ ?_ ?_; (rotate_left; (· intro w'; go_simp; with_reducible rfl); rotate_left; (· simp only [Act.put, zz]; rfl))
                refine pur 25 113 ?_ HT_ spec_ImageOk.m72 ?_ ?_ ?_ ?_; (rotate_left; (· intro w'; go_simp; with_reducible rfl); rotate_left; (· simp only [Act.put, zz]; rfl))
                refine pur 26 114 ?_ HT_ spec_ImageOk.m73 ?_ ?_ ?_ ?_; (rotate_left; (· intro w'; go_simp; with_reducible rfl); rotate_left; (· simp only [Act.put, zz]; rfl))
                refine done_ (done_of HT_.out (by kernel_rfl)) ?_
                try go_wp2
                go_ret
                exact ⟨by first | rfl | (simp [errW_none, errW_some] <;> rfl) | (simp [*, errW_none, errW_some] <;> rfl), by repeat (first | exact HB.out | apply below_alloc | apply pw_below_drewN | apply below_drew1 | refine below_set ?_ GE123.out | refine below_set ?_ GE134.out | refine below_set ?_ GE141.out)⟩
               ·rw [if_neg c69] at H
                have c69b0 : decide ((l0_0.length : Int) ≤ t139) = false := decide_eq_false c69
                clear c69
                have H' := Aside0.mk H
                clear H
                have hnb80 := NB123_134.out
                have hnc80 := NB134_123.out
                have hcz81_0 := blk_cell BK123.out
                have hfz81_0 := blk_frozen BK123.out
                have p135 : 0 ≤ (x6_3 : Int) := of_decide_eq_true (by first | (with_reducible assumption) | assumption)
                have q135 : x6_3 < (l0_0.length : Int) := of_decide_eq_true (by first | (with_reducible assumption) | assumption)
                obtain ⟨ad135, e135, hx135_0⟩ := Kd.at_int HR0_0.out x6_3 p135 q135
                cases e135
                replace hx135_0 := (HB.out.cell (World.block_lt_of_cell? w _ hx135_0)).trans hx135_0
                replace p135 := eq_true p135
                replace q135 := eq_true q135
                try go_wp2_with (first | ((with_reducible refine gate_callee (f := 25) rfl ?_); refine goesL_ (some 85) rfl rfl Try.func25 (by kernel_rfl) rfl #[.int .i64 (rd l0_0 x6_3)] rfl (by first | rfl | (simp only [List.map_toArray, List.map_cons, List.map_nil, List.length_drop, List.length_take]; rfl)) ?_; (with_reducible refine (spec_Decode.calls k3 (rd l0_0 x6_3) t136 t137 t138 t139 true _ A54.out).mono ?_); rintro e w82 ⟨rfl, hb⟩; refine ⟨_, rfl, ?_⟩; have n0_ := Aside0.mk (blk_below (g := gb123) (o := .cells #[.slice (some ad135) l0_0.length c0_0, .slice A0_1 l0_1.length c0_1, .int .i64 a0_2] 88 (0, 0)) (by (with_reducible repeat (first | refine blk_drewN ?_ _ | refine blk_drew ?_ | refine blk_alloc ?_ _)); exact BK123.out) hb); have n1_ := Aside0.mk (blk_below (g := gb134) (o := .cells #[.int .i64 x135000_3, .int .i64 x135001_3, .int .i64 x135002_3, .int .i64 x135003_3] 25 (0, 0)) (by (with_reducible repeat (first | refine blk_drewN ?_ _ | refine blk_drew ?_ | refine blk_alloc ?_ _)); exact BK134.out) hb); have n2_ := Aside0.mk (below_step (by repeat (first | exact HB.out | apply below_alloc | apply pw_below_drewN | apply below_drew1 | refine below_set ?_ GE123.out | refine below_set ?_ GE134.out)) hb); clear BK123; clear BK134; clear HB; have BK123 := n0_; have BK134 := n1_; have HB := n2_; clear n0_ n1_ n2_; (try clear hb); (try clear hb2); (try clear hk); (try clear hi)) | ((with_reducible refine gate_dst (N := 7) rfl ?_); refine box_event ?hg (N := 7) ?hd (cs := #[.int .i64 0, .int .i64 0, .int .i64 0, .int .i64 0]) (t := 25) ?hr ?_; (case hd => rfl); (case hg => rfl); (case hr => first | (go_simp; done) | (go_simp; rfl)); intro gb141 hg w83 hbox hb; have n0_ := Aside0.mk (blk_below (g := gb123) (o := .cells #[.slice (some ad135) l0_0.length c0_0, .slice A0_1 l0_1.length c0_1, .int .i64 a0_2] 88 (0, 0)) (by (with_reducible repeat (first | refine blk_drewN ?_ _ | refine blk_drew ?_ | refine blk_alloc ?_ _)); exact BK123.out) hb); have n1_ := Aside0.mk (blk_below (g := gb134) (o := .cells #[.int .i64 x135000_3, .int .i64 x135001_3, .int .i64 x135002_3, .int .i64 x135003_3] 25 (0, 0)) (by (with_reducible repeat (first | refine blk_drewN ?_ _ | refine blk_drew ?_ | refine blk_alloc ?_ _)); exact BK134.out) hb); have n2_ := Aside0.mk (below_step (by repeat (first | exact HB.out | apply below_alloc | apply pw_below_drewN | apply below_drew1 | refine below_set ?_ GE123.out | refine below_set ?_ GE134.out)) hb); have n3_ := Aside0.mk (hbox); have n4_ := Aside0.mk ((by rw [hg]; exact (below_size (by repeat (first | exact HB.out | apply below_alloc | apply pw_below_drewN | apply below_drew1 | refine below_set ?_ GE123.out | refine below_set ?_ GE134.out))) : w.heap.size ≤ gb141)); have n5_ := Aside0.mk ((by rw [hg]; exact (below_size (by repeat (first | exact HB.out | apply below_alloc | apply pw_below_drewN | apply below_drew1 | refine below_set ?_ GE123.out | refine below_set ?_ GE134.out))) : w.heap.size ≤ gb141)); have n6_ := Aside0.mk ((by rw [hg]; exact Nat.ne_of_lt (blk_lt (g := gb123) (o := .cells #[.slice (some ad135) l0_0.length c0_0, .slice A0_1 l0_1.length c0_1, .int .i64 a0_2] 88 (0, 0)) (by (with_reducible repeat (first | refine blk_drewN ?_ _ | refine blk_drew ?_ | refine blk_alloc ?_ _)); exact BK123.out)) : gb123 ≠ gb141)); have n7_ := Aside0.mk ((by rw [hg]; exact Nat.ne_of_gt (blk_lt (g := gb123) (o := .cells #[.slice (some ad135) l0_0.length c0_0, .slice A0_1 l0_1.length c0_1, .int .i64 a0_2] 88 (0, 0)) (by (with_reducible repeat (first | refine blk_drewN ?_ _ | refine blk_drew ?_ | refine blk_alloc ?_ _)); exact BK123.out)) : gb141 ≠ gb123)); have n8_ := Aside0.mk ((by rw [hg]; exact Nat.ne_of_lt (blk_lt (g := gb134) (o := .cells #[.int .i64 x135000_3, .int .i64 x135001_3, .int .i64 x135002_3, .int .i64 x135003_3] 25 (0, 0)) (by (with_reducible repeat (first | refine blk_drewN ?_ _ | refine blk_drew ?_ | refine blk_alloc ?_ _)); exact BK134.out)) : gb134 ≠ gb141)); have n9_ := Aside0.mk ((by rw [hg]; exact Nat.ne_of_gt (blk_lt (g := gb134) (o := .cells #[.int .i64 x135000_3, .int .i64 x135001_3, .int .i64 x135002_3, .int .i64 x135003_3] 25 (0, 0)) (by (with_reducible repeat (first | refine blk_drewN ?_ _ | refine blk_drew ?_ | refine blk_alloc ?_ _)); exact BK134.out)) : gb141 ≠ gb134)); clear BK123; clear BK134; clear HB; have BK123 := n0_; have BK134 := n1_; have HB := n2_; have BK141 := n3_; have GW141 := n4_; have GE141 := n5_; have NB123_141 := n6_; have NB141_123 := n7_; have NB134_141 := n8_; have NB141_134 := n9_; clear n0_ n1_ n2_ n3_ n4_ n5_ n6_ n7_ n8_ n9_; clear hb hbox hg; have hnb84 := NB141_123.out; have hnc84 := NB123_141.out; have hnb85 := NB141_134.out; have hnc85 := NB134_141.out; have hcz86_0 := blk_cell BK141.out; have hfz86_0 := blk_frozen BK141.out))
                have n0_ : Aside0 (((((w83.setCell ⟨gb141, 0, none⟩ (.int .i64 t136)).setCell ⟨gb141, 1, none⟩ (.int .i64 t137)).setCell ⟨gb141, 2, none⟩ (.int .i64 t138)).setCell ⟨gb141, 3, none⟩ (.int .i64 t139)).heap[gb123]? = some (.cells #[.slice (some ad135) l0_0.length c0_0, .slice A0_1 l0_1.length c0_1, .int .i64 a0_2] 88 (0, 0))) := ⟨by (with_reducible repeat (first | refine blk_drewN ?_ _ | refine blk_drew ?_ | refine blk_alloc ?_ _)); refine blk_far ?_ NB123_141.out _; (with_reducible repeat (first | refine blk_drewN ?_ _ | refine blk_drew ?_ | refine blk_alloc ?_ _)); refine blk_far ?_ NB123_141.out _; (with_reducible repeat (first | refine blk_drewN ?_ _ | refine blk_drew ?_ | refine blk_alloc ?_ _)); refine blk_far ?_ NB123_141.out _; (with_reducible repeat (first | refine blk_drewN ?_ _ | refine blk_drew ?_ | refine blk_alloc ?_ _)); refine blk_far ?_ NB123_141.out _; (with_reducible repeat (first | refine blk_drewN ?_ _ | refine blk_drew ?_ | refine blk_alloc ?_ _)); exact BK123.out⟩
                have n1_ : Aside0 (((((w83.setCell ⟨gb141, 0, none⟩ (.int .i64 t136)).setCell ⟨gb141, 1, none⟩ (.int .i64 t137)).setCell ⟨gb141, 2, none⟩ (.int .i64 t138)).setCell ⟨gb141, 3, none⟩ (.int .i64 t139)).heap[gb134]? = some (.cells #[.int .i64 x135000_3, .int .i64 x135001_3, .int .i64 x135002_3, .int .i64 x135003_3] 25 (0, 0))) := ⟨by (with_reducible repeat (first | refine blk_drewN ?_ _ | refine blk_drew ?_ | refine blk_alloc ?_ _)); refine blk_far ?_ NB134_141.out _; (with_reducible repeat (first | refine blk_drewN ?_ _ | refine blk_drew ?_ | refine blk_alloc ?_ _)); refine blk_far ?_ NB134_141.out _; (with_reducible repeat (first | refine blk_drewN ?_ _ | refine blk_drew ?_ | refine blk_alloc ?_ _)); refine blk_far ?_ NB134_141.out _; (with_reducible repeat (first | refine blk_drewN ?_ _ | refine blk_drew ?_ | refine blk_alloc ?_ _)); refine blk_far ?_ NB134_141.out _; (with_reducible repeat (first | refine blk_drewN ?_ _ | refine blk_drew ?_ | refine blk_alloc ?_ _)); exact BK134.out⟩
                have n2_ : Aside0 (((((w83.setCell ⟨gb141, 0, none⟩ (.int .i64 t136)).setCell ⟨gb141, 1, none⟩ (.int .i64 t137)).setCell ⟨gb141, 2, none⟩ (.int .i64 t138)).setCell ⟨gb141, 3, none⟩ (.int .i64 t139)).heap[gb141]? = some (.cells #[.int .i64 t136, .int .i64 t137, .int .i64 t138, .int .i64 t139] 25 (0, 0))) := ⟨by (with_reducible repeat (first | refine blk_drewN ?_ _ | refine blk_drew ?_ | refine blk_alloc ?_ _)); refine blk_put (cs := #[.int .i64 t136, .int .i64 t137, .int .i64 t138, .int .i64 0]) ?_ 3 _ rfl; (with_reducible repeat (first | refine blk_drewN ?_ _ | refine blk_drew ?_ | refine blk_alloc ?_ _)); refine blk_put (cs := #[.int .i64 t136, .int .i64 t137, .int .i64 0, .int .i64 0]) ?_ 2 _ rfl; (with_reducible repeat (first | refine blk_drewN ?_ _ | refine blk_drew ?_ | refine blk_alloc ?_ _)); refine blk_put (cs := #[.int .i64 t136, .int .i64 0, .int .i64 0, .int .i64 0]) ?_ 1 _ rfl; (with_reducible repeat (first | refine blk_drewN ?_ _ | refine blk_drew ?_ | refine blk_alloc ?_ _)); refine blk_put (cs := #[.int .i64 0, .int .i64 0, .int .i64 0, .int .i64 0]) ?_ 0 _ rfl; (with_reducible repeat (first | refine blk_drewN ?_ _ | refine blk_drew ?_ | refine blk_alloc ?_ _)); exact BK141.out⟩
                have n3_ : Aside0 (Below w.heap.size w ((((w83.setCell ⟨gb141, 0, none⟩ (.int .i64 t136)).setCell ⟨gb141, 1, none⟩ (.int .i64 t137)).setCell ⟨gb141, 2, none⟩ (.int .i64 t138)).setCell ⟨gb141, 3, none⟩ (.int .i64 t139))) := ⟨by repeat (first | exact HB.out | apply below_alloc | apply pw_below_drewN | apply below_drew1 | refine below_set ?_ GE123.out | refine below_set ?_ GE134.out | refine below_set ?_ GE141.out)⟩
                (try clear BK123)
                (try clear BK134)
                (try clear BK141)
                (try clear HB)
                generalize ((((w83.setCell ⟨gb141, 0, none⟩ (.int .i64 t136)).setCell ⟨gb141, 1, none⟩ (.int .i64 t137)).setCell ⟨gb141, 2, none⟩ (.int .i64 t138)).setCell ⟨gb141, 3, none⟩ (.int .i64 t139)) = w87 at n0_ n1_ n2_ n3_ ⊢
                have BK123 := n0_
                have BK134 := n1_
                have BK141 := n2_
                have HB := n3_
                clear n0_ n1_ n2_ n3_
                have n0_ := Aside0.mk (blk_drew BK123.out)
                have n1_ := Aside0.mk (blk_drew BK134.out)
                have n2_ := Aside0.mk (blk_drew BK141.out)
                have n3_ := Aside0.mk (below_drew1 HB.out)
                clear BK123
                clear BK134
                clear BK141
                clear HB
                have BK123 := n0_
                have BK134 := n1_
                have BK141 := n2_
                have HB := n3_
                clear n0_ n1_ n2_ n3_
                refine start_ (n := 27) (S := fun w' => w'.cell? ⟨gb123, 0, none⟩ = some (.slice (some ad135) l0_0.length c0_0) ∧ w'.cell? ⟨gb123, 1, none⟩ = some (.slice A0_1 l0_1.length c0_1) ∧ w'.cell? ⟨gb123, 2, none⟩ = some (.int .i64 a0_2) ∧ w'.cell? ⟨gb141, 0, none⟩ = some (.int .i64 t136) ∧ w'.cell? ⟨gb141, 1, none⟩ = some (.int .i64 t137) ∧ w'.cell? ⟨gb141, 2, none⟩ = some (.int .i64 t138) ∧ w'.cell? ⟨gb141, 3, none⟩ = some (.int .i64 t139)) (ds := []) spec_ImageOk.m46 (by kernel_rfl) rfl rfl ⟨(blk_cell BK123.out 0).trans rfl, (blk_cell BK123.out 1).trans rfl, (blk_cell BK123.out 2).trans rfl, (blk_cell BK141.out 0).trans rfl, (blk_cell BK141.out 1).trans rfl, (blk_cell BK141.out 2).trans rfl, (blk_cell BK141.out 3).trans rfl⟩ (fun hHeld => ?_); refine with_tabW spec_ImageOk.tab14 spec_ImageOk.bits14 (fun HT_ HW_ => ?_)
                generalize w87.drew = w88 at BK123 BK134 BK141 HB hHeld ⊢
                refine pur 0 88 ?_ HT_ spec_ImageOk.m47 ?_ ?_ ?_ ?_; (rotate_left; (· intro w'; go_simp; with_reducible rfl); rotate_left; (· simp only [Act.put, zz]; rfl))
                refine pur 1 89 ?_ HT_ spec_ImageOk.m48 ?_ ?_ ?_ ?_; (rotate_left; (· intro w'; go_simp; with_reducible rfl); rotate_left; (· simp only [Act.put, zz]; rfl))
                refine pur 2 90 ?_ HT_ spec_ImageOk.m49 ?_ ?_ ?_ ?_; (rotate_left; (· intro w'; go_simp; with_reducible rfl); rotate_left; (· simp only [Act.put, zz]; rfl))
                refine pur 3 91 ?_ HT_ spec_ImageOk.m50 ?_ ?_ ?_ ?_; (rotate_left; (· intro w'; go_simp; with_reducible rfl); rotate_left; (· simp only [Act.put, zz]; rfl))
                refine pur 5 93 ?_ HT_ spec_ImageOk.m51 ?_ ?_ ?_ ?_; (rotate_left; (· intro w'; go_simp; with_reducible rfl); rotate_left; (· simp only [Act.put, zz]; rfl))
                refine pur 7 95 ?_ HT_ spec_ImageOk.m52 ?_ ?_ ?_ ?_; (rotate_left; (· intro w'; go_simp; with_reducible rfl); rotate_left; (· simp only [Act.put, zz]; rfl))
                refine tak 4 92 ?_ HT_ HW_ hHeld spec_ImageOk.m53 ?_ ?_ ?_ ?_; (rotate_left; (· rintro w' ⟨s0, s1, s2, s3, s4, s5, s6⟩; go_simp; with_reducible rfl); rotate_left; (· simp only [Act.put, zz]; rfl))
                refine tak 8 96 ?_ HT_ HW_ hHeld spec_ImageOk.m54 ?_ ?_ ?_ ?_; (rotate_left; (· rintro w' ⟨s0, s1, s2, s3, s4, s5, s6⟩; go_simp; with_reducible rfl); rotate_left; (· simp only [Act.put, zz]; rfl))
                refine one_ (i := 6) (N := some 94) spec_ImageOk.m55 rfl rfl (one_of HT_.out (by kernel_rfl)) (by decide) (fun K hK => ?_)
                refine goes_ Try.func46 (by kernel_rfl) rfl #[.slice (some ad135) l0_0.length c0_0, .int .i64 x6_3] (by rfl) rfl rfl (by first | rfl | (simp only [List.map_toArray, List.map_cons, List.map_nil, List.length_drop, List.length_take]; rfl)) ?_
                with_reducible refine (spec_TouchOf.calls k3 _ _ l0_0 x6_3 t142 _ ?side1 ?side2 A56.out).mono ?_
                (case side1 => repeat (first | exact (Kd.C_below HR0_0.out HB.out) | (with_reducible refine Kd.C_alloc ?_ _) | (with_reducible refine Kd.C_drewN ?_ _) | (with_reducible refine Kd.C_drew ?_)))
                (case side2 => exact HC0_0.out)
                rintro e w89 ⟨rfl, hb⟩
                refine ⟨_, rfl, ?_⟩
                have n0_ := Aside0.mk (blk_below (g := gb123) (o := .cells #[.slice (some ad135) l0_0.length c0_0, .slice A0_1 l0_1.length c0_1, .int .i64 a0_2] 88 (0, 0)) (by (with_reducible repeat (first | refine blk_drewN ?_ _ | refine blk_drew ?_ | refine blk_alloc ?_ _)); exact BK123.out) hb)
                have n1_ := Aside0.mk (blk_below (g := gb134) (o := .cells #[.int .i64 x135000_3, .int .i64 x135001_3, .int .i64 x135002_3, .int .i64 x135003_3] 25 (0, 0)) (by (with_reducible repeat (first | refine blk_drewN ?_ _ | refine blk_drew ?_ | refine blk_alloc ?_ _)); exact BK134.out) hb)
                have n2_ := Aside0.mk (blk_below (g := gb141) (o := .cells #[.int .i64 t136, .int .i64 t137, .int .i64 t138, .int .i64 t139] 25 (0, 0)) (by (with_reducible repeat (first | refine blk_drewN ?_ _ | refine blk_drew ?_ | refine blk_alloc ?_ _)); exact BK141.out) hb)
                have n3_ := Aside0.mk (below_step (by repeat (first | exact HB.out | apply below_alloc | apply pw_below_drewN | apply below_drew1 | refine below_set ?_ GE123.out | refine below_set ?_ GE134.out | refine below_set ?_ GE141.out)) hb)
                clear BK123
                clear BK134
                clear BK141
                clear HB
                have BK123 := n0_
                have BK134 := n1_
                have BK141 := n2_
                have HB := n3_
                clear n0_ n1_ n2_ n3_
                (try clear hb)
                (try clear hb2)
                (try clear hk)
                (try clear hi)
                refine hK.out _ _ ⟨(blk_cell BK123.out 0).trans rfl, (blk_cell BK123.out 1).trans rfl, (blk_cell BK123.out 2).trans rfl, (blk_cell BK141.out 0).trans rfl, (blk_cell BK141.out 1).trans rfl, (blk_cell BK141.out 2).trans rfl, (blk_cell BK141.out 3).trans rfl⟩ (fun hHeld => ?_)
                clear hK K
                refine norm_ (a' := ?_) ?_ ?_
                rotate_left
                ·show Act.put _ (some 94) _ = _
                 simp only [Act.put, zz]
                 rfl
                refine pur 9 97 ?_ HT_ spec_ImageOk.m56 ?_ ?_ ?_ ?_; (rotate_left; (· intro w'; go_simp; with_reducible rfl); rotate_left; (· simp only [Act.put, zz]; rfl))
                refine pur 10 98 ?_ HT_ spec_ImageOk.m57 ?_ ?_ ?_ ?_; (rotate_left; (· intro w'; go_simp; with_reducible rfl); rotate_left; (· simp only [Act.put, zz]; rfl))
                refine pur 11 99 ?_ HT_ spec_ImageOk.m58 ?_ ?_ ?_ ?_; (rotate_left; (· intro w'; go_simp; with_reducible rfl); rotate_left; (· simp only [Act.put, zz]; rfl))
                refine pur 12 100 ?_ HT_ spec_ImageOk.m59 ?_ ?_ ?_ ?_; (rotate_left; (· intro w'; go_simp; with_reducible rfl); rotate_left; (· simp only [Act.put, zz]; rfl))
                refine tak 13 101 ?_ HT_ HW_ hHeld spec_ImageOk.m60 ?_ ?_ ?_ ?_; (rotate_left; (· rintro w' ⟨s0, s1, s2, s3, s4, s5, s6⟩; go_simp; with_reducible rfl); rotate_left; (· simp only [Act.put, zz]; rfl))
                refine pur 14 102 ?_ HT_ spec_ImageOk.m61 ?_ ?_ ?_ ?_; (rotate_left; (· intro w'; go_simp; with_reducible rfl); rotate_left; (· simp only [Act.put, zz]; rfl))
                refine pur 15 103 ?_ HT_ spec_ImageOk.m62 ?_ ?_ ?_ ?_; (rotate_left; (· intro w'; go_simp; with_reducible rfl); rotate_left; (· simp only [Act.put, zz]; rfl))
                refine pun 16 104 HT_ spec_ImageOk.m63 ?_ ?_ ?_; (rotate_left; (· simp only [Act.put, zz]; rfl))
                refine pun 17 105 HT_ spec_ImageOk.m64 ?_ ?_ ?_; (rotate_left; (· simp only [Act.put, zz]; rfl))
                refine pun 18 106 HT_ spec_ImageOk.m65 ?_ ?_ ?_; (rotate_left; (· simp only [Act.put, zz]; rfl))
                refine pur 19 107 ?_ HT_ spec_ImageOk.m66 ?_ ?_ ?_ ?_; (rotate_left; (· intro w'; go_simp; with_reducible rfl); rotate_left; (· simp only [Act.put, zz]; rfl))
                refine pur 20 108 ?_ HT_ spec_ImageOk.m67 ?_ ?_ ?_ ?_; (rotate_left; (· intro w'; go_simp; with_reducible rfl); rotate_left; (· simp only [Act.put, zz]; rfl))
                refine pur 21 109 ?_ HT_ spec_ImageOk.m68 ?_ ?_ ?_ ?_; (rotate_left; (· intro w'; go_simp; with_reducible rfl); rotate_left; (· simp only [Act.put, zz]; rfl))
                refine pur 23 111 ?_ HT_ spec_ImageOk.m74 ?_ ?_ ?_ ?_; (rotate_left; (· intro w'; go_simp; with_reducible rfl); rotate_left; (· simp only [Act.put, zz]; rfl))
                refine tak 22 110 ?_ HT_ HW_ hHeld spec_ImageOk.m70 ?_ ?_ ?_ ?_; (rotate_left; (· rintro w' ⟨s0, s1, s2, s3, s4, s5, s6⟩; go_simp; with_reducible rfl); rotate_left; (· simp only [Act.put, zz]; rfl))
                refine pur 24 112 ?_ HT_ spec_ImageOk.m71 ?_ ?_ ?_ ?_; (rotate_left; (· intro w'; go_simp; with_reducible rfl); rotate_left; (· simp only [Act.put, zz]; rfl))
                refine pur 25 113 ?_ HT_ spec_ImageOk.m72 ?_ ?_ ?_ ?_; (rotate_left; (· intro w'; go_simp; with_reducible rfl); rotate_left; (· simp only [Act.put, zz]; rfl))
                refine pur 26 114 ?_ HT_ spec_ImageOk.m73 ?_ ?_ ?_ ?_; (rotate_left; (· intro w'; go_simp; with_reducible rfl); rotate_left; (· simp only [Act.put, zz]; rfl))
                refine done_ (done_of HT_.out (by kernel_rfl)) ?_
                have hcz90_0 := blk_cell BK141.out
                have hfz90_0 := blk_frozen BK141.out
                have hcz91_0 := blk_cell BK134.out
                have hfz91_0 := blk_frozen BK134.out
                try go_wp2
                go_roundg k3
                case measure => have := HJ1.out; have := HK2.out; have := HK3.out; omega
                case rel => exact ⟨(wrap64 (x6_3 + 1)), (t136), (t137), (t138), (t139), (by first | rfl | (simp; done) | (simp [*]; done)), H', ⟨by have := HJ1.out; have := HK2.out; have := HK3.out; omega⟩, ⟨by (with_reducible repeat (first | refine blk_drewN ?_ _ | refine blk_drew ?_ | refine blk_alloc ?_ _)); refine blk_far ?_ NB123_134.out _; (with_reducible repeat (first | refine blk_drewN ?_ _ | refine blk_drew ?_ | refine blk_alloc ?_ _)); refine blk_far ?_ NB123_134.out _; (with_reducible repeat (first | refine blk_drewN ?_ _ | refine blk_drew ?_ | refine blk_alloc ?_ _)); refine blk_far ?_ NB123_134.out _; (with_reducible repeat (first | refine blk_drewN ?_ _ | refine blk_drew ?_ | refine blk_alloc ?_ _)); refine blk_far ?_ NB123_134.out _; (with_reducible repeat (first | refine blk_drewN ?_ _ | refine blk_drew ?_ | refine blk_alloc ?_ _)); exact BK123.out⟩, ⟨by (with_reducible repeat (first | refine blk_drewN ?_ _ | refine blk_drew ?_ | refine blk_alloc ?_ _)); refine blk_put (cs := #[.int .i64 t136, .int .i64 t137, .int .i64 t138, .int .i64 x135003_3]) ?_ 3 _ rfl; (with_reducible repeat (first | refine blk_drewN ?_ _ | refine blk_drew ?_ | refine blk_alloc ?_ _)); refine blk_put (cs := #[.int .i64 t136, .int .i64 t137, .int .i64 x135002_3, .int .i64 x135003_3]) ?_ 2 _ rfl; (with_reducible repeat (first | refine blk_drewN ?_ _ | refine blk_drew ?_ | refine blk_alloc ?_ _)); refine blk_put (cs := #[.int .i64 t136, .int .i64 x135001_3, .int .i64 x135002_3, .int .i64 x135003_3]) ?_ 1 _ rfl; (with_reducible repeat (first | refine blk_drewN ?_ _ | refine blk_drew ?_ | refine blk_alloc ?_ _)); refine blk_put (cs := #[.int .i64 x135000_3, .int .i64 x135001_3, .int .i64 x135002_3, .int .i64 x135003_3]) ?_ 0 _ rfl; (with_reducible repeat (first | refine blk_drewN ?_ _ | refine blk_drew ?_ | refine blk_alloc ?_ _)); exact BK134.out⟩, ⟨by repeat (first | exact HB.out | apply below_alloc | apply pw_below_drewN | apply below_drew1 | refine below_set ?_ GE123.out | refine below_set ?_ GE134.out | refine below_set ?_ GE141.out)⟩⟩
              ·rw [if_neg c68] at H
               have c68b0 : (t136 == 7) = false := beq_eq_false_iff_ne.mpr c68
               have c68b1 : (t136 != 7) = true := bne_iff_ne.mpr c68
               by_cases c92 : t136 = 8
               ·rw [if_pos c92] at H
                have c92b0 : (t136 == 8) = true := beq_iff_eq.mpr c92
                have c92b1 : (t136 != 8) = false := bne_eq_false_iff_eq.mpr c92
                clear c92
                by_cases c93 : t139 ≥ (l0_0.length : Int)
                ·rw [if_pos c93] at H
                 have c93b0 : decide ((l0_0.length : Int) ≤ t139) = true := decide_eq_true c93
                 clear c93
                 obtain rfl := Option.some.inj H
                 have hnb94 := NB123_134.out
                 have hnc94 := NB134_123.out
                 have hcz95_0 := blk_cell BK123.out
                 have hfz95_0 := blk_frozen BK123.out
                 have p135 : 0 ≤ (x6_3 : Int) := of_decide_eq_true (by first | (with_reducible assumption) | assumption)
                 have q135 : x6_3 < (l0_0.length : Int) := of_decide_eq_true (by first | (with_reducible assumption) | assumption)
                 obtain ⟨ad135, e135, hx135_0⟩ := Kd.at_int HR0_0.out x6_3 p135 q135
                 cases e135
                 replace hx135_0 := (HB.out.cell (World.block_lt_of_cell? w _ hx135_0)).trans hx135_0
                 replace p135 := eq_true p135
                 replace q135 := eq_true q135
                 try go_wp2_with (first | ((with_reducible refine gate_callee (f := 25) rfl ?_); refine goesL_ (some 85) rfl rfl Try.func25 (by kernel_rfl) rfl #[.int .i64 (rd l0_0 x6_3)] rfl (by first | rfl | (simp only [List.map_toArray, List.map_cons, List.map_nil, List.length_drop, List.length_take]; rfl)) ?_; (with_reducible refine (spec_Decode.calls k3 (rd l0_0 x6_3) t136 t137 t138 t139 true _ A54.out).mono ?_); rintro e w96 ⟨rfl, hb⟩; refine ⟨_, rfl, ?_⟩; have n0_ := Aside0.mk (blk_below (g := gb123) (o := .cells #[.slice (some ad135) l0_0.length c0_0, .slice A0_1 l0_1.length c0_1, .int .i64 a0_2] 88 (0, 0)) (by (with_reducible repeat (first | refine blk_drewN ?_ _ | refine blk_drew ?_ | refine blk_alloc ?_ _)); exact BK123.out) hb); have n1_ := Aside0.mk (blk_below (g := gb134) (o := .cells #[.int .i64 x135000_3, .int .i64 x135001_3, .int .i64 x135002_3, .int .i64 x135003_3] 25 (0, 0)) (by (with_reducible repeat (first | refine blk_drewN ?_ _ | refine blk_drew ?_ | refine blk_alloc ?_ _)); exact BK134.out) hb); have n2_ := Aside0.mk (below_step (by repeat (first | exact HB.out | apply below_alloc | apply pw_below_drewN | apply below_drew1 | refine below_set ?_ GE123.out | refine below_set ?_ GE134.out)) hb); clear BK123; clear BK134; clear HB; have BK123 := n0_; have BK134 := n1_; have HB := n2_; clear n0_ n1_ n2_; (try clear hb); (try clear hb2); (try clear hk); (try clear hi)) | ((with_reducible refine gate_dst (N := 7) rfl ?_); refine box_event ?hg (N := 7) ?hd (cs := #[.int .i64 0, .int .i64 0, .int .i64 0, .int .i64 0]) (t := 25) ?hr ?_; (case hd => rfl); (case hg => rfl); (case hr => first | (go_simp; done) | (go_simp; rfl)); intro gb141 hg w97 hbox hb; have n0_ := Aside0.mk (blk_below (g := gb123) (o := .cells #[.slice (some ad135) l0_0.length c0_0, .slice A0_1 l0_1.length c0_1, .int .i64 a0_2] 88 (0, 0)) (by (with_reducible repeat (first | refine blk_drewN ?_ _ | refine blk_drew ?_ | refine blk_alloc ?_ _)); exact BK123.out) hb); have n1_ := Aside0.mk (blk_below (g := gb134) (o := .cells #[.int .i64 x135000_3, .int .i64 x135001_3, .int .i64 x135002_3, .int .i64 x135003_3] 25 (0, 0)) (by (with_reducible repeat (first | refine blk_drewN ?_ _ | refine blk_drew ?_ | refine blk_alloc ?_ _)); exact BK134.out) hb); have n2_ := Aside0.mk (below_step (by repeat (first | exact HB.out | apply below_alloc | apply pw_below_drewN | apply below_drew1 | refine below_set ?_ GE123.out | refine below_set ?_ GE134.out)) hb); have n3_ := Aside0.mk (hbox); have n4_ := Aside0.mk ((by rw [hg]; exact (below_size (by repeat (first | exact HB.out | apply below_alloc | apply pw_below_drewN | apply below_drew1 | refine below_set ?_ GE123.out | refine below_set ?_ GE134.out))) : w.heap.size ≤ gb141)); have n5_ := Aside0.mk ((by rw [hg]; exact (below_size (by repeat (first | exact HB.out | apply below_alloc | apply pw_below_drewN | apply below_drew1 | refine below_set ?_ GE123.out | refine below_set ?_ GE134.out))) : w.heap.size ≤ gb141)); have n6_ := Aside0.mk ((by rw [hg]; exact Nat.ne_of_lt (blk_lt (g := gb123) (o := .cells #[.slice (some ad135) l0_0.length c0_0, .slice A0_1 l0_1.length c0_1, .int .i64 a0_2] 88 (0, 0)) (by (with_reducible repeat (first | refine blk_drewN ?_ _ | refine blk_drew ?_ | refine blk_alloc ?_ _)); exact BK123.out)) : gb123 ≠ gb141)); have n7_ := Aside0.mk ((by rw [hg]; exact Nat.ne_of_gt (blk_lt (g := gb123) (o := .cells #[.slice (some ad135) l0_0.length c0_0, .slice A0_1 l0_1.length c0_1, .int .i64 a0_2] 88 (0, 0)) (by (with_reducible repeat (first | refine blk_drewN ?_ _ | refine blk_drew ?_ | refine blk_alloc ?_ _)); exact BK123.out)) : gb141 ≠ gb123)); have n8_ := Aside0.mk ((by rw [hg]; exact Nat.ne_of_lt (blk_lt (g := gb134) (o := .cells #[.int .i64 x135000_3, .int .i64 x135001_3, .int .i64 x135002_3, .int .i64 x135003_3] 25 (0, 0)) (by (with_reducible repeat (first | refine blk_drewN ?_ _ | refine blk_drew ?_ | refine blk_alloc ?_ _)); exact BK134.out)) : gb134 ≠ gb141)); have n9_ := Aside0.mk ((by rw [hg]; exact Nat.ne_of_gt (blk_lt (g := gb134) (o := .cells #[.int .i64 x135000_3, .int .i64 x135001_3, .int .i64 x135002_3, .int .i64 x135003_3] 25 (0, 0)) (by (with_reducible repeat (first | refine blk_drewN ?_ _ | refine blk_drew ?_ | refine blk_alloc ?_ _)); exact BK134.out)) : gb141 ≠ gb134)); clear BK123; clear BK134; clear HB; have BK123 := n0_; have BK134 := n1_; have HB := n2_; have BK141 := n3_; have GW141 := n4_; have GE141 := n5_; have NB123_141 := n6_; have NB141_123 := n7_; have NB134_141 := n8_; have NB141_134 := n9_; clear n0_ n1_ n2_ n3_ n4_ n5_ n6_ n7_ n8_ n9_; clear hb hbox hg; have hnb98 := NB141_123.out; have hnc98 := NB123_141.out; have hnb99 := NB141_134.out; have hnc99 := NB134_141.out; have hcz100_0 := blk_cell BK141.out; have hfz100_0 := blk_frozen BK141.out))
                 have n0_ : Aside0 (((((w97.setCell ⟨gb141, 0, none⟩ (.int .i64 t136)).setCell ⟨gb141, 1, none⟩ (.int .i64 t137)).setCell ⟨gb141, 2, none⟩ (.int .i64 t138)).setCell ⟨gb141, 3, none⟩ (.int .i64 t139)).heap[gb123]? = some (.cells #[.slice (some ad135) l0_0.length c0_0, .slice A0_1 l0_1.length c0_1, .int .i64 a0_2] 88 (0, 0))) := ⟨by (with_reducible repeat (first | refine blk_drewN ?_ _ | refine blk_drew ?_ | refine blk_alloc ?_ _)); refine blk_far ?_ NB123_141.out _; (with_reducible repeat (first | refine blk_drewN ?_ _ | refine blk_drew ?_ | refine blk_alloc ?_ _)); refine blk_far ?_ NB123_141.out _; (with_reducible repeat (first | refine blk_drewN ?_ _ | refine blk_drew ?_ | refine blk_alloc ?_ _)); refine blk_far ?_ NB123_141.out _; (with_reducible repeat (first | refine blk_drewN ?_ _ | refine blk_drew ?_ | refine blk_alloc ?_ _)); refine blk_far ?_ NB123_141.out _; (with_reducible repeat (first | refine blk_drewN ?_ _ | refine blk_drew ?_ | refine blk_alloc ?_ _)); exact BK123.out⟩
                 have n1_ : Aside0 (((((w97.setCell ⟨gb141, 0, none⟩ (.int .i64 t136)).setCell ⟨gb141, 1, none⟩ (.int .i64 t137)).setCell ⟨gb141, 2, none⟩ (.int .i64 t138)).setCell ⟨gb141, 3, none⟩ (.int .i64 t139)).heap[gb134]? = some (.cells #[.int .i64 x135000_3, .int .i64 x135001_3, .int .i64 x135002_3, .int .i64 x135003_3] 25 (0, 0))) := ⟨by (with_reducible repeat (first | refine blk_drewN ?_ _ | refine blk_drew ?_ | refine blk_alloc ?_ _)); refine blk_far ?_ NB134_141.out _; (with_reducible repeat (first | refine blk_drewN ?_ _ | refine blk_drew ?_ | refine blk_alloc ?_ _)); refine blk_far ?_ NB134_141.out _; (with_reducible repeat (first | refine blk_drewN ?_ _ | refine blk_drew ?_ | refine blk_alloc ?_ _)); refine blk_far ?_ NB134_141.out _; (with_reducible repeat (first | refine blk_drewN ?_ _ | refine blk_drew ?_ | refine blk_alloc ?_ _)); refine blk_far ?_ NB134_141.out _; (with_reducible repeat (first | refine blk_drewN ?_ _ | refine blk_drew ?_ | refine blk_alloc ?_ _)); exact BK134.out⟩
                 have n2_ : Aside0 (((((w97.setCell ⟨gb141, 0, none⟩ (.int .i64 t136)).setCell ⟨gb141, 1, none⟩ (.int .i64 t137)).setCell ⟨gb141, 2, none⟩ (.int .i64 t138)).setCell ⟨gb141, 3, none⟩ (.int .i64 t139)).heap[gb141]? = some (.cells #[.int .i64 t136, .int .i64 t137, .int .i64 t138, .int .i64 t139] 25 (0, 0))) := ⟨by (with_reducible repeat (first | refine blk_drewN ?_ _ | refine blk_drew ?_ | refine blk_alloc ?_ _)); refine blk_put (cs := #[.int .i64 t136, .int .i64 t137, .int .i64 t138, .int .i64 0]) ?_ 3 _ rfl; (with_reducible repeat (first | refine blk_drewN ?_ _ | refine blk_drew ?_ | refine blk_alloc ?_ _)); refine blk_put (cs := #[.int .i64 t136, .int .i64 t137, .int .i64 0, .int .i64 0]) ?_ 2 _ rfl; (with_reducible repeat (first | refine blk_drewN ?_ _ | refine blk_drew ?_ | refine blk_alloc ?_ _)); refine blk_put (cs := #[.int .i64 t136, .int .i64 0, .int .i64 0, .int .i64 0]) ?_ 1 _ rfl; (with_reducible repeat (first | refine blk_drewN ?_ _ | refine blk_drew ?_ | refine blk_alloc ?_ _)); refine blk_put (cs := #[.int .i64 0, .int .i64 0, .int .i64 0, .int .i64 0]) ?_ 0 _ rfl; (with_reducible repeat (first | refine blk_drewN ?_ _ | refine blk_drew ?_ | refine blk_alloc ?_ _)); exact BK141.out⟩
                 have n3_ : Aside0 (Below w.heap.size w ((((w97.setCell ⟨gb141, 0, none⟩ (.int .i64 t136)).setCell ⟨gb141, 1, none⟩ (.int .i64 t137)).setCell ⟨gb141, 2, none⟩ (.int .i64 t138)).setCell ⟨gb141, 3, none⟩ (.int .i64 t139))) := ⟨by repeat (first | exact HB.out | apply below_alloc | apply pw_below_drewN | apply below_drew1 | refine below_set ?_ GE123.out | refine below_set ?_ GE134.out | refine below_set ?_ GE141.out)⟩
                 (try clear BK123)
                 (try clear BK134)
                 (try clear BK141)
                 (try clear HB)
                 generalize ((((w97.setCell ⟨gb141, 0, none⟩ (.int .i64 t136)).setCell ⟨gb141, 1, none⟩ (.int .i64 t137)).setCell ⟨gb141, 2, none⟩ (.int .i64 t138)).setCell ⟨gb141, 3, none⟩ (.int .i64 t139)) = w101 at n0_ n1_ n2_ n3_ ⊢
                 have BK123 := n0_
                 have BK134 := n1_
                 have BK141 := n2_
                 have HB := n3_
                 clear n0_ n1_ n2_ n3_
                 have n0_ := Aside0.mk (blk_drew BK123.out)
                 have n1_ := Aside0.mk (blk_drew BK134.out)
                 have n2_ := Aside0.mk (blk_drew BK141.out)
                 have n3_ := Aside0.mk (below_drew1 HB.out)
                 clear BK123
                 clear BK134
                 clear BK141
                 clear HB
                 have BK123 := n0_
                 have BK134 := n1_
                 have BK141 := n2_
                 have HB := n3_
                 clear n0_ n1_ n2_ n3_
                 refine start_ (n := 27) (S := fun w' => w'.cell? ⟨gb123, 0, none⟩ = some (.slice (some ad135) l0_0.length c0_0) ∧ w'.cell? ⟨gb123, 1, none⟩ = some (.slice A0_1 l0_1.length c0_1) ∧ w'.cell? ⟨gb123, 2, none⟩ = some (.int .i64 a0_2) ∧ w'.cell? ⟨gb141, 0, none⟩ = some (.int .i64 t136) ∧ w'.cell? ⟨gb141, 1, none⟩ = some (.int .i64 t137) ∧ w'.cell? ⟨gb141, 2, none⟩ = some (.int .i64 t138) ∧ w'.cell? ⟨gb141, 3, none⟩ = some (.int .i64 t139)) (ds := []) spec_ImageOk.m46 (by kernel_rfl) rfl rfl ⟨(blk_cell BK123.out 0).trans rfl, (blk_cell BK123.out 1).trans rfl, (blk_cell BK123.out 2).trans rfl, (blk_cell BK141.out 0).trans rfl, (blk_cell BK141.out 1).trans rfl, (blk_cell BK141.out 2).trans rfl, (blk_cell BK141.out 3).trans rfl⟩ (fun hHeld => ?_); refine with_tabW spec_ImageOk.tab14 spec_ImageOk.bits14 (fun HT_ HW_ => ?_)
                 generalize w101.drew = w102 at BK123 BK134 BK141 HB hHeld ⊢
                 refine pur 0 88 ?_ HT_ spec_ImageOk.m47 ?_ ?_ ?_ ?_; (rotate_left; (· intro w'; go_simp; with_reducible rfl); rotate_left; (· simp only [Act.put, zz]; rfl))
                 refine pur 1 89 ?_ HT_ spec_ImageOk.m48 ?_ ?_ ?_ ?_; (rotate_left; (· intro w'; go_simp; with_reducible rfl); rotate_left; (· simp only [Act.put, zz]; rfl))
                 refine pur 2 90 ?_ HT_ spec_ImageOk.m49 ?_ ?_ ?_ ?_; (rotate_left; (· intro w'; go_simp; with_reducible rfl); rotate_left; (· simp only [Act.put, zz]; rfl))
                 refine pur 3 91 ?_ HT_ spec_ImageOk.m50 ?_ ?_ ?_ ?_; (rotate_left; (· intro w'; go_simp; with_reducible rfl); rotate_left; (· simp only [Act.put, zz]; rfl))
                 refine pur 5 93 ?_ HT_ spec_ImageOk.m51 ?_ ?_ ?_ ?_; (rotate_left; (· intro w'; go_simp; with_reducible rfl); rotate_left; (· simp only [Act.put, zz]; rfl))
                 refine pur 7 95 ?_ HT_ spec_ImageOk.m52 ?_ ?_ ?_ ?_; (rotate_left; (· intro w'; go_simp; with_reducible rfl); rotate_left; (· simp only [Act.put, zz]; rfl))
                 refine tak 4 92 ?_ HT_ HW_ hHeld spec_ImageOk.m53 ?_ ?_ ?_ ?_; (rotate_left; (· rintro w' ⟨s0, s1, s2, s3, s4, s5, s6⟩; go_simp; with_reducible rfl); rotate_left; (· simp only [Act.put, zz]; rfl))
                 refine tak 8 96 ?_ HT_ HW_ hHeld spec_ImageOk.m54 ?_ ?_ ?_ ?_; (rotate_left; (· rintro w' ⟨s0, s1, s2, s3, s4, s5, s6⟩; go_simp; with_reducible rfl); rotate_left; (· simp only [Act.put, zz]; rfl))
                 refine one_ (i := 6) (N := some 94) spec_ImageOk.m55 rfl rfl (one_of HT_.out (by kernel_rfl)) (by decide) (fun K hK => ?_)
                 refine goes_ Try.func46 (by kernel_rfl) rfl #[.slice (some ad135) l0_0.length c0_0, .int .i64 x6_3] (by rfl) rfl rfl (by first | rfl | (simp only [List.map_toArray, List.map_cons, List.map_nil, List.length_drop, List.length_take]; rfl)) ?_
                 with_reducible refine (spec_TouchOf.calls k3 _ _ l0_0 x6_3 t142 _ ?side1 ?side2 A56.out).mono ?_
                 (case side1 => repeat (first | exact (Kd.C_below HR0_0.out HB.out) | (with_reducible refine Kd.C_alloc ?_ _) | (with_reducible refine Kd.C_drewN ?_ _) | (with_reducible refine Kd.C_drew ?_)))
                 (case side2 => exact HC0_0.out)
                 rintro e w103 ⟨rfl, hb⟩
                 refine ⟨_, rfl, ?_⟩
                 have n0_ := Aside0.mk (blk_below (g := gb123) (o := .cells #[.slice (some ad135) l0_0.length c0_0, .slice A0_1 l0_1.length c0_1, .int .i64 a0_2] 88 (0, 0)) (by (with_reducible repeat (first | refine blk_drewN ?_ _ | refine blk_drew ?_ | refine blk_alloc ?_ _)); exact BK123.out) hb)
                 have n1_ := Aside0.mk (blk_below (g := gb134) (o := .cells #[.int .i64 x135000_3, .int .i64 x135001_3, .int .i64 x135002_3, .int .i64 x135003_3] 25 (0, 0)) (by (with_reducible repeat (first | refine blk_drewN ?_ _ | refine blk_drew ?_ | refine blk_alloc ?_ _)); exact BK134.out) hb)
                 have n2_ := Aside0.mk (blk_below (g := gb141) (o := .cells #[.int .i64 t136, .int .i64 t137, .int .i64 t138, .int .i64 t139] 25 (0, 0)) (by (with_reducible repeat (first | refine blk_drewN ?_ _ | refine blk_drew ?_ | refine blk_alloc ?_ _)); exact BK141.out) hb)
                 have n3_ := Aside0.mk (below_step (by repeat (first | exact HB.out | apply below_alloc | apply pw_below_drewN | apply below_drew1 | refine below_set ?_ GE123.out | refine below_set ?_ GE134.out | refine below_set ?_ GE141.out)) hb)
                 clear BK123
                 clear BK134
                 clear BK141
                 clear HB
                 have BK123 := n0_
                 have BK134 := n1_
                 have BK141 := n2_
                 have HB := n3_
                 clear n0_ n1_ n2_ n3_
                 (try clear hb)
                 (try clear hb2)
                 (try clear hk)
                 (try clear hi)
                 refine hK.out _ _ ⟨(blk_cell BK123.out 0).trans rfl, (blk_cell BK123.out 1).trans rfl, (blk_cell BK123.out 2).trans rfl, (blk_cell BK141.out 0).trans rfl, (blk_cell BK141.out 1).trans rfl, (blk_cell BK141.out 2).trans rfl, (blk_cell BK141.out 3).trans rfl⟩ (fun hHeld => ?_)
                 clear hK K
                 refine norm_ (a' := ?_) ?_ ?_
                 rotate_left
                 ·show Act.put _ (some 94) _ = _
                  simp only [Act.put, zz]
                  rfl
                 refine pur 9 97 ?_ HT_ spec_ImageOk.m56 ?_ ?_ ?_ ?_; (rotate_left; (· intro w'; go_simp; with_reducible rfl); rotate_left; (· simp only [Act.put, zz]; rfl))
                 refine pur 10 98 ?_ HT_ spec_ImageOk.m57 ?_ ?_ ?_ ?_; (rotate_left; (· intro w'; go_simp; with_reducible rfl); rotate_left; (· simp only [Act.put, zz]; rfl))
                 refine pur 11 99 ?_ HT_ spec_ImageOk.m58 ?_ ?_ ?_ ?_; (rotate_left; (· intro w'; go_simp; with_reducible rfl); rotate_left; (· simp only [Act.put, zz]; rfl))
                 refine pur 12 100 ?_ HT_ spec_ImageOk.m59 ?_ ?_ ?_ ?_; (rotate_left; (· intro w'; go_simp; with_reducible rfl); rotate_left; (· simp only [Act.put, zz]; rfl))
                 refine tak 13 101 ?_ HT_ HW_ hHeld spec_ImageOk.m60 ?_ ?_ ?_ ?_; (rotate_left; (· rintro w' ⟨s0, s1, s2, s3, s4, s5, s6⟩; go_simp; with_reducible rfl); rotate_left; (· simp only [Act.put, zz]; rfl))
                 refine pur 14 102 ?_ HT_ spec_ImageOk.m61 ?_ ?_ ?_ ?_; (rotate_left; (· intro w'; go_simp; with_reducible rfl); rotate_left; (· simp only [Act.put, zz]; rfl))
                 refine pur 15 103 ?_ HT_ spec_ImageOk.m62 ?_ ?_ ?_ ?_; (rotate_left; (· intro w'; go_simp; with_reducible rfl); rotate_left; (· simp only [Act.put, zz]; rfl))
                 refine pur 16 104 ?_ HT_ spec_ImageOk.m63 ?_ ?_ ?_ ?_; (rotate_left; (· intro w'; go_simp; with_reducible rfl); rotate_left; (· simp only [Act.put, zz]; rfl))
                 refine tak 17 105 ?_ HT_ HW_ hHeld spec_ImageOk.m64 ?_ ?_ ?_ ?_; (rotate_left; (· rintro w' ⟨s0, s1, s2, s3, s4, s5, s6⟩; go_simp; with_reducible rfl); rotate_left; (· simp only [Act.put, zz]; rfl))
                 refine pur 18 106 ?_ HT_ spec_ImageOk.m65 ?_ ?_ ?_ ?_; (rotate_left; (· intro w'; go_simp; with_reducible rfl); rotate_left; (· simp only [Act.put, zz]; rfl))
                 refine pur 19 107 ?_ HT_ spec_ImageOk.m66 ?_ ?_ ?_ ?_; (rotate_left; (· intro w'; go_simp; with_reducible rfl); rotate_left; (· simp only [Act.put, zz]; rfl))
                 refine pur 20 108 ?_ HT_ spec_ImageOk.m67 ?_ ?_ ?_ ?_; (rotate_left; (· intro w'; go_simp; with_reducible rfl); rotate_left; (· simp only [Act.put, zz]; rfl))
                 refine pur 21 109 ?_ HT_ spec_ImageOk.m68 ?_ ?_ ?_ ?_; (rotate_left; (· intro w'; go_simp; with_reducible rfl); rotate_left; (· simp only [Act.put, zz]; rfl))
                 refine pur 23 111 ?_ HT_ spec_ImageOk.m74 ?_ ?_ ?_ ?_; (rotate_left; (· intro w'; go_simp; with_reducible rfl); rotate_left; (· simp only [Act.put, zz]; rfl))
                 refine tak 22 110 ?_ HT_ HW_ hHeld spec_ImageOk.m70 ?_ ?_ ?_ ?_; (rotate_left; (· rintro w' ⟨s0, s1, s2, s3, s4, s5, s6⟩; go_simp; with_reducible rfl); rotate_left; (· simp only [Act.put, zz]; rfl))
                 refine pur 24 112 ?_ HT_ spec_ImageOk.m71 ?_ ?_ ?_ ?_; (rotate_left; (· intro w'; go_simp; with_reducible rfl); rotate_left; (· simp only [Act.put, zz]; rfl))
                 refine pur 25 113 ?_ HT_ spec_ImageOk.m72 ?_ ?_ ?_ ?_; (rotate_left; (· intro w'; go_simp; with_reducible rfl); rotate_left; (· simp only [Act.put, zz]; rfl))
                 refine pur 26 114 ?_ HT_ spec_ImageOk.m73 ?_ ?_ ?_ ?_; (rotate_left; (· intro w'; go_simp; with_reducible rfl); rotate_left; (· simp only [Act.put, zz]; rfl))
                 refine done_ (done_of HT_.out (by kernel_rfl)) ?_
                 try go_wp2
                 go_ret
                 exact ⟨by first | rfl | (simp [errW_none, errW_some] <;> rfl) | (simp [*, errW_none, errW_some] <;> rfl), by repeat (first | exact HB.out | apply below_alloc | apply pw_below_drewN | apply below_drew1 | refine below_set ?_ GE123.out | refine below_set ?_ GE134.out | refine below_set ?_ GE141.out)⟩
                ·rw [if_neg c93] at H
                 have c93b0 : decide ((l0_0.length : Int) ≤ t139) = false := decide_eq_false c93
                 clear c93
                 have H' := Aside0.mk H
                 clear H
                 have hnb104 := NB123_134.out
                 have hnc104 := NB134_123.out
                 have hcz105_0 := blk_cell BK123.out
                 have hfz105_0 := blk_frozen BK123.out
                 have p135 : 0 ≤ (x6_3 : Int) := of_decide_eq_true (by first | (with_reducible assumption) | assumption)
                 have q135 : x6_3 < (l0_0.length : Int) := of_decide_eq_true (by first | (with_reducible assumption) | assumption)
                 obtain ⟨ad135, e135, hx135_0⟩ := Kd.at_int HR0_0.out x6_3 p135 q135
                 cases e135
                 replace hx135_0 := (HB.out.cell (World.block_lt_of_cell? w _ hx135_0)).trans hx135_0
                 replace p135 := eq_true p135
                 replace q135 := eq_true q135
                 try go_wp2_with (first | ((with_reducible refine gate_callee (f := 25) rfl ?_); refine goesL_ (some 85) rfl rfl Try.func25 (by kernel_rfl) rfl #[.int .i64 (rd l0_0 x6_3)] rfl (by first | rfl | (simp only [List.map_toArray, List.map_cons, List.map_nil, List.length_drop, List.length_take]; rfl)) ?_; (with_reducible refine (spec_Decode.calls k3 (rd l0_0 x6_3) t136 t137 t138 t139 true _ A54.out).mono ?_); rintro e w106 ⟨rfl, hb⟩; refine ⟨_, rfl, ?_⟩; have n0_ := Aside0.mk (blk_below (g := gb123) (o := .cells #[.slice (some ad135) l0_0.length c0_0, .slice A0_1 l0_1.length c0_1, .int .i64 a0_2] 88 (0, 0)) (by (with_reducible repeat (first | refine blk_drewN ?_ _ | refine blk_drew ?_ | refine blk_alloc ?_ _)); exact BK123.out) hb); have n1_ := Aside0.mk (blk_below (g := gb134) (o := .cells #[.int .i64 x135000_3, .int .i64 x135001_3, .int .i64 x135002_3, .int .i64 x135003_3] 25 (0, 0)) (by (with_reducible repeat (first | refine blk_drewN ?_ _ | refine blk_drew ?_ | refine blk_alloc ?_ _)); exact BK134.out) hb); have n2_ := Aside0.mk (below_step (by repeat (first | exact HB.out | apply below_alloc | apply pw_below_drewN | apply below_drew1 | refine below_set ?_ GE123.out | refine below_set ?_ GE134.out)) hb); clear BK123; clear BK134; clear HB; have BK123 := n0_; have BK134 := n1_; have HB := n2_; clear n0_ n1_ n2_; (try clear hb); (try clear hb2); (try clear hk); (try clear hi)) | ((with_reducible refine gate_dst (N := 7) rfl ?_); refine box_event ?hg (N := 7) ?hd (cs := #[.int .i64 0, .int .i64 0, .int .i64 0, .int .i64 0]) (t := 25) ?hr ?_; (case hd => rfl); (case hg => rfl); (case hr => first | (go_simp; done) | (go_simp; rfl)); intro gb141 hg w107 hbox hb; have n0_ := Aside0.mk (blk_below (g := gb123) (o := .cells #[.slice (some ad135) l0_0.length c0_0, .slice A0_1 l0_1.length c0_1, .int .i64 a0_2] 88 (0, 0)) (by (with_reducible repeat (first | refine blk_drewN ?_ _ | refine blk_drew ?_ | refine blk_alloc ?_ _)); exact BK123.out) hb); have n1_ := Aside0.mk (blk_below (g := gb134) (o := .cells #[.int .i64 x135000_3, .int .i64 x135001_3, .int .i64 x135002_3, .int .i64 x135003_3] 25 (0, 0)) (by (with_reducible repeat (first | refine blk_drewN ?_ _ | refine blk_drew ?_ | refine blk_alloc ?_ _)); exact BK134.out) hb); have n2_ := Aside0.mk (below_step (by repeat (first | exact HB.out | apply below_alloc | apply pw_below_drewN | apply below_drew1 | refine below_set ?_ GE123.out | refine below_set ?_ GE134.out)) hb); have n3_ := Aside0.mk (hbox); have n4_ := Aside0.mk ((by rw [hg]; exact (below_size (by repeat (first | exact HB.out | apply below_alloc | apply pw_below_drewN | apply below_drew1 | refine below_set ?_ GE123.out | refine below_set ?_ GE134.out))) : w.heap.size ≤ gb141)); have n5_ := Aside0.mk ((by rw [hg]; exact (below_size (by repeat (first | exact HB.out | apply below_alloc | apply pw_below_drewN | apply below_drew1 | refine below_set ?_ GE123.out | refine below_set ?_ GE134.out))) : w.heap.size ≤ gb141)); have n6_ := Aside0.mk ((by rw [hg]; exact Nat.ne_of_lt (blk_lt (g := gb123) (o := .cells #[.slice (some ad135) l0_0.length c0_0, .slice A0_1 l0_1.length c0_1, .int .i64 a0_2] 88 (0, 0)) (by (with_reducible repeat (first | refine blk_drewN ?_ _ | refine blk_drew ?_ | refine blk_alloc ?_ _)); exact BK123.out)) : gb123 ≠ gb141)); have n7_ := Aside0.mk ((by rw [hg]; exact Nat.ne_of_gt (blk_lt (g := gb123) (o := .cells #[.slice (some ad135) l0_0.length c0_0, .slice A0_1 l0_1.length c0_1, .int .i64 a0_2] 88 (0, 0)) (by (with_reducible repeat (first | refine blk_drewN ?_ _ | refine blk_drew ?_ | refine blk_alloc ?_ _)); exact BK123.out)) : gb141 ≠ gb123)); have n8_ := Aside0.mk ((by rw [hg]; exact Nat.ne_of_lt (blk_lt (g := gb134) (o := .cells #[.int .i64 x135000_3, .int .i64 x135001_3, .int .i64 x135002_3, .int .i64 x135003_3] 25 (0, 0)) (by (with_reducible repeat (first | refine blk_drewN ?_ _ | refine blk_drew ?_ | refine blk_alloc ?_ _)); exact BK134.out)) : gb134 ≠ gb141)); have n9_ := Aside0.mk ((by rw [hg]; exact Nat.ne_of_gt (blk_lt (g := gb134) (o := .cells #[.int .i64 x135000_3, .int .i64 x135001_3, .int .i64 x135002_3, .int .i64 x135003_3] 25 (0, 0)) (by (with_reducible repeat (first | refine blk_drewN ?_ _ | refine blk_drew ?_ | refine blk_alloc ?_ _)); exact BK134.out)) : gb141 ≠ gb134)); clear BK123; clear BK134; clear HB; have BK123 := n0_; have BK134 := n1_; have HB := n2_; have BK141 := n3_; have GW141 := n4_; have GE141 := n5_; have NB123_141 := n6_; have NB141_123 := n7_; have NB134_141 := n8_; have NB141_134 := n9_; clear n0_ n1_ n2_ n3_ n4_ n5_ n6_ n7_ n8_ n9_; clear hb hbox hg; have hnb108 := NB141_123.out; have hnc108 := NB123_141.out; have hnb109 := NB141_134.out; have hnc109 := NB134_141.out; have hcz110_0 := blk_cell BK141.out; have hfz110_0 := blk_frozen BK141.out))
                 have n0_ : Aside0 (((((w107.setCell ⟨gb141, 0, none⟩ (.int .i64 t136)).setCell ⟨gb141, 1, none⟩ (.int .i64 t137)).setCell ⟨gb141, 2, none⟩ (.int .i64 t138)).setCell ⟨gb141, 3, none⟩ (.int .i64 t139)).heap[gb123]? = some (.cells #[.slice (some ad135) l0_0.length c0_0, .slice A0_1 l0_1.length c0_1, .int .i64 a0_2] 88 (0, 0))) := ⟨by (with_reducible repeat (first | refine blk_drewN ?_ _ | refine blk_drew ?_ | refine blk_alloc ?_ _)); refine blk_far ?_ NB123_141.out _; (with_reducible repeat (first | refine blk_drewN ?_ _ | refine blk_drew ?_ | refine blk_alloc ?_ _)); refine blk_far ?_ NB123_141.out _; (with_reducible repeat (first | refine blk_drewN ?_ _ | refine blk_drew ?_ | refine blk_alloc ?_ _)); refine blk_far ?_ NB123_141.out _; (with_reducible repeat (first | refine blk_drewN ?_ _ | refine blk_drew ?_ | refine blk_alloc ?_ _)); refine blk_far ?_ NB123_141.out _; (with_reducible repeat (first | refine blk_drewN ?_ _ | refine blk_drew ?_ | refine blk_alloc ?_ _)); exact BK123.out⟩
                 have n1_ : Aside0 (((((w107.setCell ⟨gb141, 0, none⟩ (.int .i64 t136)).setCell ⟨gb141, 1, none⟩ (.int .i64 t137)).setCell ⟨gb141, 2, none⟩ (.int .i64 t138)).setCell ⟨gb141, 3, none⟩ (.int .i64 t139)).heap[gb134]? = some (.cells #[.int .i64 x135000_3, .int .i64 x135001_3, .int .i64 x135002_3, .int .i64 x135003_3] 25 (0, 0))) := ⟨by (with_reducible repeat (first | refine blk_drewN ?_ _ | refine blk_drew ?_ | refine blk_alloc ?_ _)); refine blk_far ?_ NB134_141.out _; (with_reducible repeat (first | refine blk_drewN ?_ _ | refine blk_drew ?_ | refine blk_alloc ?_ _)); refine blk_far ?_ NB134_141.out _; (with_reducible repeat (first | refine blk_drewN ?_ _ | refine blk_drew ?_ | refine blk_alloc ?_ _)); refine blk_far ?_ NB134_141.out _; (with_reducible repeat (first | refine blk_drewN ?_ _ | refine blk_drew ?_ | refine blk_alloc ?_ _)); refine blk_far ?_ NB134_141.out _; (with_reducible repeat (first | refine blk_drewN ?_ _ | refine blk_drew ?_ | refine blk_alloc ?_ _)); exact BK134.out⟩
                 have n2_ : Aside0 (((((w107.setCell ⟨gb141, 0, none⟩ (.int .i64 t136)).setCell ⟨gb141, 1, none⟩ (.int .i64 t137)).setCell ⟨gb141, 2, none⟩ (.int .i64 t138)).setCell ⟨gb141, 3, none⟩ (.int .i64 t139)).heap[gb141]? = some (.cells #[.int .i64 t136, .int .i64 t137, .int .i64 t138, .int .i64 t139] 25 (0, 0))) := ⟨by (with_reducible repeat (first | refine blk_drewN ?_ _ | refine blk_drew ?_ | refine blk_alloc ?_ _)); refine blk_put (cs := #[.int .i64 t136, .int .i64 t137, .int .i64 t138, .int .i64 0]) ?_ 3 _ rfl; (with_reducible repeat (first | refine blk_drewN ?_ _ | refine blk_drew ?_ | refine blk_alloc ?_ _)); refine blk_put (cs := #[.int .i64 t136, .int .i64 t137, .int .i64 0, .int .i64 0]) ?_ 2 _ rfl; (with_reducible repeat (first | refine blk_drewN ?_ _ | refine blk_drew ?_ | refine blk_alloc ?_ _)); refine blk_put (cs := #[.int .i64 t136, .int .i64 0, .int .i64 0, .int .i64 0]) ?_ 1 _ rfl; (with_reducible repeat (first | refine blk_drewN ?_ _ | refine blk_drew ?_ | refine blk_alloc ?_ _)); refine blk_put (cs := #[.int .i64 0, .int .i64 0, .int .i64 0, .int .i64 0]) ?_ 0 _ rfl; (with_reducible repeat (first | refine blk_drewN ?_ _ | refine blk_drew ?_ | refine blk_alloc ?_ _)); exact BK141.out⟩
                 have n3_ : Aside0 (Below w.heap.size w ((((w107.setCell ⟨gb141, 0, none⟩ (.int .i64 t136)).setCell ⟨gb141, 1, none⟩ (.int .i64 t137)).setCell ⟨gb141, 2, none⟩ (.int .i64 t138)).setCell ⟨gb141, 3, none⟩ (.int .i64 t139))) := ⟨by repeat (first | exact HB.out | apply below_alloc | apply pw_below_drewN | apply below_drew1 | refine below_set ?_ GE123.out | refine below_set ?_ GE134.out | refine below_set ?_ GE141.out)⟩
                 (try clear BK123)
                 (try clear BK134)
                 (try clear BK141)
                 (try clear HB)
                 generalize ((((w107.setCell ⟨gb141, 0, none⟩ (.int .i64 t136)).setCell ⟨gb141, 1, none⟩ (.int .i64 t137)).setCell ⟨gb141, 2, none⟩ (.int .i64 t138)).setCell ⟨gb141, 3, none⟩ (.int .i64 t139)) = w111 at n0_ n1_ n2_ n3_ ⊢
                 have BK123 := n0_
                 have BK134 := n1_
                 have BK141 := n2_
                 have HB := n3_
                 clear n0_ n1_ n2_ n3_
                 have n0_ := Aside0.mk (blk_drew BK123.out)
                 have n1_ := Aside0.mk (blk_drew BK134.out)
                 have n2_ := Aside0.mk (blk_drew BK141.out)
                 have n3_ := Aside0.mk (below_drew1 HB.out)
                 clear BK123
                 clear BK134
                 clear BK141
                 clear HB
                 have BK123 := n0_
                 have BK134 := n1_
                 have BK141 := n2_
                 have HB := n3_
                 clear n0_ n1_ n2_ n3_
                 refine start_ (n := 27) (S := fun w' => w'.cell? ⟨gb123, 0, none⟩ = some (.slice (some ad135) l0_0.length c0_0) ∧ w'.cell? ⟨gb123, 1, none⟩ = some (.slice A0_1 l0_1.length c0_1) ∧ w'.cell? ⟨gb123, 2, none⟩ = some (.int .i64 a0_2) ∧ w'.cell? ⟨gb141, 0, none⟩ = some (.int .i64 t136) ∧ w'.cell? ⟨gb141, 1, none⟩ = some (.int .i64 t137) ∧ w'.cell? ⟨gb141, 2, none⟩ = some (.int .i64 t138) ∧ w'.cell? ⟨gb141, 3, none⟩ = some (.int .i64 t139)) (ds := []) spec_ImageOk.m46 (by kernel_rfl) rfl rfl ⟨(blk_cell BK123.out 0).trans rfl, (blk_cell BK123.out 1).trans rfl, (blk_cell BK123.out 2).trans rfl, (blk_cell BK141.out 0).trans rfl, (blk_cell BK141.out 1).trans rfl, (blk_cell BK141.out 2).trans rfl, (blk_cell BK141.out 3).trans rfl⟩ (fun hHeld => ?_); refine with_tabW spec_ImageOk.tab14 spec_ImageOk.bits14 (fun HT_ HW_ => ?_)
                 generalize w111.drew = w112 at BK123 BK134 BK141 HB hHeld ⊢
                 refine pur 0 88 ?_ HT_ spec_ImageOk.m47 ?_ ?_ ?_ ?_; (rotate_left; (· intro w'; go_simp; with_reducible rfl); rotate_left; (· simp only [Act.put, zz]; rfl))
                 refine pur 1 89 ?_ HT_ spec_ImageOk.m48 ?_ ?_ ?_ ?_; (rotate_left; (· intro w'; go_simp; with_reducible rfl); rotate_left; (· simp only [Act.put, zz]; rfl))
                 refine pur 2 90 ?_ HT_ spec_ImageOk.m49 ?_ ?_ ?_ ?_; (rotate_left; (· intro w'; go_simp; with_reducible rfl); rotate_left; (· simp only [Act.put, zz]; rfl))
                 refine pur 3 91 ?_ HT_ spec_ImageOk.m50 ?_ ?_ ?_ ?_; (rotate_left; (· intro w'; go_simp; with_reducible rfl); rotate_left; (· simp only [Act.put, zz]; rfl))
                 refine pur 5 93 ?_ HT_ spec_ImageOk.m51 ?_ ?_ ?_ ?_; (rotate_left; (· intro w'; go_simp; with_reducible rfl); rotate_left; (· simp only [Act.put, zz]; rfl))
                 refine pur 7 95 ?_ HT_ spec_ImageOk.m52 ?_ ?_ ?_ ?_; (rotate_left; (· intro w'; go_simp; with_reducible rfl); rotate_left; (· simp only [Act.put, zz]; rfl))
                 refine tak 4 92 ?_ HT_ HW_ hHeld spec_ImageOk.m53 ?_ ?_ ?_ ?_; (rotate_left; (· rintro w' ⟨s0, s1, s2, s3, s4, s5, s6⟩; go_simp; with_reducible rfl); rotate_left; (· simp only [Act.put, zz]; rfl))
                 refine tak 8 96 ?_ HT_ HW_ hHeld spec_ImageOk.m54 ?_ ?_ ?_ ?_; (rotate_left; (· rintro w' ⟨s0, s1, s2, s3, s4, s5, s6⟩; go_simp; with_reducible rfl); rotate_left; (· simp only [Act.put, zz]; rfl))
                 refine one_ (i := 6) (N := some 94) spec_ImageOk.m55 rfl rfl (one_of HT_.out (by kernel_rfl)) (by decide) (fun K hK => ?_)
                 refine goes_ Try.func46 (by kernel_rfl) rfl #[.slice (some ad135) l0_0.length c0_0, .int .i64 x6_3] (by rfl) rfl rfl (by first | rfl | (simp only [List.map_toArray, List.map_cons, List.map_nil, List.length_drop, List.length_take]; rfl)) ?_
                 with_reducible refine (spec_TouchOf.calls k3 _ _ l0_0 x6_3 t142 _ ?side1 ?side2 A56.out).mono ?_
                 (case side1 => repeat (first | exact (Kd.C_below HR0_0.out HB.out) | (with_reducible refine Kd.C_alloc ?_ _) | (with_reducible refine Kd.C_drewN ?_ _) | (with_reducible refine Kd.C_drew ?_)))
                 (case side2 => exact HC0_0.out)
                 rintro e w113 ⟨rfl, hb⟩
                 refine ⟨_, rfl, ?_⟩
                 have n0_ := Aside0.mk (blk_below (g := gb123) (o := .cells #[.slice (some ad135) l0_0.length c0_0, .slice A0_1 l0_1.length c0_1, .int .i64 a0_2] 88 (0, 0)) (by (with_reducible repeat (first | refine blk_drewN ?_ _ | refine blk_drew ?_ | refine blk_alloc ?_ _)); exact BK123.out) hb)
                 have n1_ := Aside0.mk (blk_below (g := gb134) (o := .cells #[.int .i64 x135000_3, .int .i64 x135001_3, .int .i64 x135002_3, .int .i64 x135003_3] 25 (0, 0)) (by (with_reducible repeat (first | refine blk_drewN ?_ _ | refine blk_drew ?_ | refine blk_alloc ?_ _)); exact BK134.out) hb)
                 have n2_ := Aside0.mk (blk_below (g := gb141) (o := .cells #[.int .i64 t136, .int .i64 t137, .int .i64 t138, .int .i64 t139] 25 (0, 0)) (by (with_reducible repeat (first | refine blk_drewN ?_ _ | refine blk_drew ?_ | refine blk_alloc ?_ _)); exact BK141.out) hb)
                 have n3_ := Aside0.mk (below_step (by repeat (first | exact HB.out | apply below_alloc | apply pw_below_drewN | apply below_drew1 | refine below_set ?_ GE123.out | refine below_set ?_ GE134.out | refine below_set ?_ GE141.out)) hb)
                 clear BK123
                 clear BK134
                 clear BK141
                 clear HB
                 have BK123 := n0_
                 have BK134 := n1_
                 have BK141 := n2_
                 have HB := n3_
                 clear n0_ n1_ n2_ n3_
                 (try clear hb)
                 (try clear hb2)
                 (try clear hk)
                 (try clear hi)
                 refine hK.out _ _ ⟨(blk_cell BK123.out 0).trans rfl, (blk_cell BK123.out 1).trans rfl, (blk_cell BK123.out 2).trans rfl, (blk_cell BK141.out 0).trans rfl, (blk_cell BK141.out 1).trans rfl, (blk_cell BK141.out 2).trans rfl, (blk_cell BK141.out 3).trans rfl⟩ (fun hHeld => ?_)
                 clear hK K
                 refine norm_ (a' := ?_) ?_ ?_
                 rotate_left
                 ·show Act.put _ (some 94) _ = _
                  simp only [Act.put, zz]
                  rfl
                 refine pur 9 97 ?_ HT_ spec_ImageOk.m56 ?_ ?_ ?_ ?_; (rotate_left; (· intro w'; go_simp; with_reducible rfl); rotate_left; (· simp only [Act.put, zz]; rfl))
                 refine pur 10 98 ?_ HT_ spec_ImageOk.m57 ?_ ?_ ?_ ?_; (rotate_left; (· intro w'; go_simp; with_reducible rfl); rotate_left; (· simp only [Act.put, zz]; rfl))
                 refine pur 11 99 ?_ HT_ spec_ImageOk.m58 ?_ ?_ ?_ ?_; (rotate_left; (· intro w'; go_simp; with_reducible rfl); rotate_left; (· simp only [Act.put, zz]; rfl))
                 refine pur 12 100 ?_ HT_ spec_ImageOk.m59 ?_ ?_ ?_ ?_; (rotate_left; (· intro w'; go_simp; with_reducible rfl); rotate_left; (· simp only [Act.put, zz]; rfl))
                 refine tak 13 101 ?_ HT_ HW_ hHeld spec_ImageOk.m60 ?_ ?_ ?_ ?_; (rotate_left; (· rintro w' ⟨s0, s1, s2, s3, s4, s5, s6⟩; go_simp; with_reducible rfl); rotate_left; (· simp only [Act.put, zz]; rfl))
                 refine pur 14 102 ?_ HT_ spec_ImageOk.m61 ?_ ?_ ?_ ?_; (rotate_left; (· intro w'; go_simp; with_reducible rfl); rotate_left; (· simp only [Act.put, zz]; rfl))
                 refine pur 15 103 ?_ HT_ spec_ImageOk.m62 ?_ ?_ ?_ ?_; (rotate_left; (· intro w'; go_simp; with_reducible rfl); rotate_left; (· simp only [Act.put, zz]; rfl))
                 refine pur 16 104 ?_ HT_ spec_ImageOk.m63 ?_ ?_ ?_ ?_; (rotate_left; (· intro w'; go_simp; with_reducible rfl); rotate_left; (· simp only [Act.put, zz]; rfl))
                 refine tak 17 105 ?_ HT_ HW_ hHeld spec_ImageOk.m64 ?_ ?_ ?_ ?_; (rotate_left; (· rintro w' ⟨s0, s1, s2, s3, s4, s5, s6⟩; go_simp; with_reducible rfl); rotate_left; (· simp only [Act.put, zz]; rfl))
                 refine pur 18 106 ?_ HT_ spec_ImageOk.m65 ?_ ?_ ?_ ?_; (rotate_left; (· intro w'; go_simp; with_reducible rfl); rotate_left; (· simp only [Act.put, zz]; rfl))
                 refine pur 19 107 ?_ HT_ spec_ImageOk.m66 ?_ ?_ ?_ ?_; (rotate_left; (· intro w'; go_simp; with_reducible rfl); rotate_left; (· simp only [Act.put, zz]; rfl))
                 refine pur 20 108 ?_ HT_ spec_ImageOk.m67 ?_ ?_ ?_ ?_; (rotate_left; (· intro w'; go_simp; with_reducible rfl); rotate_left; (· simp only [Act.put, zz]; rfl))
                 refine pur 21 109 ?_ HT_ spec_ImageOk.m68 ?_ ?_ ?_ ?_; (rotate_left; (· intro w'; go_simp; with_reducible rfl); rotate_left; (· simp only [Act.put, zz]; rfl))
                 refine pur 23 111 ?_ HT_ spec_ImageOk.m74 ?_ ?_ ?_ ?_; (rotate_left; (· intro w'; go_simp; with_reducible rfl); rotate_left; (· simp only [Act.put, zz]; rfl))
                 refine tak 22 110 ?_ HT_ HW_ hHeld spec_ImageOk.m70 ?_ ?_ ?_ ?_; (rotate_left; (· rintro w' ⟨s0, s1, s2, s3, s4, s5, s6⟩; go_simp; with_reducible rfl); rotate_left; (· simp only [Act.put, zz]; rfl))
                 refine pur 24 112 ?_ HT_ spec_ImageOk.m71 ?_ ?_ ?_ ?_; (rotate_left; (· intro w'; go_simp; with_reducible rfl); rotate_left; (· simp only [Act.put, zz]; rfl))
                 refine pur 25 113 ?_ HT_ spec_ImageOk.m72 ?_ ?_ ?_ ?_; (rotate_left; (· intro w'; go_simp; with_reducible rfl); rotate_left; (· simp only [Act.put, zz]; rfl))
                 refine pur 26 114 ?_ HT_ spec_ImageOk.m73 ?_ ?_ ?_ ?_; (rotate_left; (· intro w'; go_simp; with_reducible rfl); rotate_left; (· simp only [Act.put, zz]; rfl))
                 refine done_ (done_of HT_.out (by kernel_rfl)) ?_
                 have hcz114_0 := blk_cell BK141.out
                 have hfz114_0 := blk_frozen BK141.out
                 have hcz115_0 := blk_cell BK134.out
                 have hfz115_0 := blk_frozen BK134.out
                 try go_wp2
                 go_roundg k3
                 case measure => have := HJ1.out; have := HK2.out; have := HK3.out; omega
                 case rel => exact ⟨(wrap64 (x6_3 + 1)), (t136), (t137), (t138), (t139), (by first | rfl | (simp; done) | (simp [*]; done)), H', ⟨by have := HJ1.out; have := HK2.out; have := HK3.out; omega⟩, ⟨by (with_reducible repeat (first | refine blk_drewN ?_ _ | refine blk_drew ?_ | refine blk_alloc ?_ _)); refine blk_far ?_ NB123_134.out _; (with_reducible repeat (first | refine blk_drewN ?_ _ | refine blk_drew ?_ | refine blk_alloc ?_ _)); refine blk_far ?_ NB123_134.out _; (with_reducible repeat (first | refine blk_drewN ?_ _ | refine blk_drew ?_ | refine blk_alloc ?_ _)); refine blk_far ?_ NB123_134.out _; (with_reducible repeat (first | refine blk_drewN ?_ _ | refine blk_drew ?_ | refine blk_alloc ?_ _)); refine blk_far ?_ NB123_134.out _; (with_reducible repeat (first | refine blk_drewN ?_ _ | refine blk_drew ?_ | refine blk_alloc ?_ _)); exact BK123.out⟩, ⟨by (with_reducible repeat (first | refine blk_drewN ?_ _ | refine blk_drew ?_ | refine blk_alloc ?_ _)); refine blk_put (cs := #[.int .i64 t136, .int .i64 t137, .int .i64 t138, .int .i64 x135003_3]) ?_ 3 _ rfl; (with_reducible repeat (first | refine blk_drewN ?_ _ | refine blk_drew ?_ | refine blk_alloc ?_ _)); refine blk_put (cs := #[.int .i64 t136, .int .i64 t137, .int .i64 x135002_3, .int .i64 x135003_3]) ?_ 2 _ rfl; (with_reducible repeat (first | refine blk_drewN ?_ _ | refine blk_drew ?_ | refine blk_alloc ?_ _)); refine blk_put (cs := #[.int .i64 t136, .int .i64 x135001_3, .int .i64 x135002_3, .int .i64 x135003_3]) ?_ 1 _ rfl; (with_reducible repeat (first | refine blk_drewN ?_ _ | refine blk_drew ?_ | refine blk_alloc ?_ _)); refine blk_put (cs := #[.int .i64 x135000_3, .int .i64 x135001_3, .int .i64 x135002_3, .int .i64 x135003_3]) ?_ 0 _ rfl; (with_reducible repeat (first | refine blk_drewN ?_ _ | refine blk_drew ?_ | refine blk_alloc ?_ _)); exact BK134.out⟩, ⟨by repeat (first | exact HB.out | apply below_alloc | apply pw_below_drewN | apply below_drew1 | refine below_set ?_ GE123.out | refine below_set ?_ GE134.out | refine below_set ?_ GE141.out)⟩⟩
               ·rw [if_neg c92] at H
                have c92b0 : (t136 == 8) = false := beq_eq_false_iff_ne.mpr c92
                have c92b1 : (t136 != 8) = true := bne_iff_ne.mpr c92
                have H' := Aside0.mk H
                clear H
                have hnb116 := NB123_134.out
                have hnc116 := NB134_123.out
                have hcz117_0 := blk_cell BK123.out
                have hfz117_0 := blk_frozen BK123.out
                have p135 : 0 ≤ (x6_3 : Int) := of_decide_eq_true (by first | (with_reducible assumption) | assumption)
                have q135 : x6_3 < (l0_0.length : Int) := of_decide_eq_true (by first | (with_reducible assumption) | assumption)
                obtain ⟨ad135, e135, hx135_0⟩ := Kd.at_int HR0_0.out x6_3 p135 q135
                cases e135
                replace hx135_0 := (HB.out.cell (World.block_lt_of_cell? w _ hx135_0)).trans hx135_0
                replace p135 := eq_true p135
                replace q135 := eq_true q135
                try go_wp2_with (first | ((with_reducible refine gate_callee (f := 25) rfl ?_); refine goesL_ (some 85) rfl rfl Try.func25 (by kernel_rfl) rfl #[.int .i64 (rd l0_0 x6_3)] rfl (by first | rfl | (simp only [List.map_toArray, List.map_cons, List.map_nil, List.length_drop, List.length_take]; rfl)) ?_; (with_reducible refine (spec_Decode.calls k3 (rd l0_0 x6_3) t136 t137 t138 t139 true _ A54.out).mono ?_); rintro e w118 ⟨rfl, hb⟩; refine ⟨_, rfl, ?_⟩; have n0_ := Aside0.mk (blk_below (g := gb123) (o := .cells #[.slice (some ad135) l0_0.length c0_0, .slice A0_1 l0_1.length c0_1, .int .i64 a0_2] 88 (0, 0)) (by (with_reducible repeat (first | refine blk_drewN ?_ _ | refine blk_drew ?_ | refine blk_alloc ?_ _)); exact BK123.out) hb); have n1_ := Aside0.mk (blk_below (g := gb134) (o := .cells #[.int .i64 x135000_3, .int .i64 x135001_3, .int .i64 x135002_3, .int .i64 x135003_3] 25 (0, 0)) (by (with_reducible repeat (first | refine blk_drewN ?_ _ | refine blk_drew ?_ | refine blk_alloc ?_ _)); exact BK134.out) hb); have n2_ := Aside0.mk (below_step (by repeat (first | exact HB.out | apply below_alloc | apply pw_below_drewN | apply below_drew1 | refine below_set ?_ GE123.out | refine below_set ?_ GE134.out)) hb); clear BK123; clear BK134; clear HB; have BK123 := n0_; have BK134 := n1_; have HB := n2_; clear n0_ n1_ n2_; (try clear hb); (try clear hb2); (try clear hk); (try clear hi)) | ((with_reducible refine gate_dst (N := 7) rfl ?_); refine box_event ?hg (N := 7) ?hd (cs := #[.int .i64 0, .int .i64 0, .int .i64 0, .int .i64 0]) (t := 25) ?hr ?_; (case hd => rfl); (case hg => rfl); (case hr => first | (go_simp; done) | (go_simp; rfl)); intro gb141 hg w119 hbox hb; have n0_ := Aside0.mk (blk_below (g := gb123) (o := .cells #[.slice (some ad135) l0_0.length c0_0, .slice A0_1 l0_1.length c0_1, .int .i64 a0_2] 88 (0, 0)) (by (with_reducible repeat (first | refine blk_drewN ?_ _ | refine blk_drew ?_ | refine blk_alloc ?_ _)); exact BK123.out) hb); have n1_ := Aside0.mk (blk_below (g := gb134) (o := .cells #[.int .i64 x135000_3, .int .i64 x135001_3, .int .i64 x135002_3, .int .i64 x135003_3] 25 (0, 0)) (by (with_reducible repeat (first | refine blk_drewN ?_ _ | refine blk_drew ?_ | refine blk_alloc ?_ _)); exact BK134.out) hb); have n2_ := Aside0.mk (below_step (by repeat (first | exact HB.out | apply below_alloc | apply pw_below_drewN | apply below_drew1 | refine below_set ?_ GE123.out | refine below_set ?_ GE134.out)) hb); have n3_ := Aside0.mk (hbox); have n4_ := Aside0.mk ((by rw [hg]; exact (below_size (by repeat (first | exact HB.out | apply below_alloc | apply pw_below_drewN | apply below_drew1 | refine below_set ?_ GE123.out | refine below_set ?_ GE134.out))) : w.heap.size ≤ gb141)); have n5_ := Aside0.mk ((by rw [hg]; exact (below_size (by repeat (first | exact HB.out | apply below_alloc | apply pw_below_drewN | apply below_drew1 | refine below_set ?_ GE123.out | refine below_set ?_ GE134.out))) : w.heap.size ≤ gb141)); have n6_ := Aside0.mk ((by rw [hg]; exact Nat.ne_of_lt (blk_lt (g := gb123) (o := .cells #[.slice (some ad135) l0_0.length c0_0, .slice A0_1 l0_1.length c0_1, .int .i64 a0_2] 88 (0, 0)) (by (with_reducible repeat (first | refine blk_drewN ?_ _ | refine blk_drew ?_ | refine blk_alloc ?_ _)); exact BK123.out)) : gb123 ≠ gb141)); have n7_ := Aside0.mk ((by rw [hg]; exact Nat.ne_of_gt (blk_lt (g := gb123) (o := .cells #[.slice (some ad135) l0_0.length c0_0, .slice A0_1 l0_1.length c0_1, .int .i64 a0_2] 88 (0, 0)) (by (with_reducible repeat (first | refine blk_drewN ?_ _ | refine blk_drew ?_ | refine blk_alloc ?_ _)); exact BK123.out)) : gb141 ≠ gb123)); have n8_ := Aside0.mk ((by rw [hg]; exact Nat.ne_of_lt (blk_lt (g := gb134) (o := .cells #[.int .i64 x135000_3, .int .i64 x135001_3, .int .i64 x135002_3, .int .i64 x135003_3] 25 (0, 0)) (by (with_reducible repeat (first | refine blk_drewN ?_ _ | refine blk_drew ?_ | refine blk_alloc ?_ _)); exact BK134.out)) : gb134 ≠ gb141)); have n9_ := Aside0.mk ((by rw [hg]; exact Nat.ne_of_gt (blk_lt (g := gb134) (o := .cells #[.int .i64 x135000_3, .int .i64 x135001_3, .int .i64 x135002_3, .int .i64 x135003_3] 25 (0, 0)) (by (with_reducible repeat (first | refine blk_drewN ?_ _ | refine blk_drew ?_ | refine blk_alloc ?_ _)); exact BK134.out)) : gb141 ≠ gb134)); clear BK123; clear BK134; clear HB; have BK123 := n0_; have BK134 := n1_; have HB := n2_; have BK141 := n3_; have GW141 := n4_; have GE141 := n5_; have NB123_141 := n6_; have NB141_123 := n7_; have NB134_141 := n8_; have NB141_134 := n9_; clear n0_ n1_ n2_ n3_ n4_ n5_ n6_ n7_ n8_ n9_; clear hb hbox hg; have hnb120 := NB141_123.out; have hnc120 := NB123_141.out; have hnb121 := NB141_134.out; have hnc121 := NB134_141.out; have hcz122_0 := blk_cell BK141.out; have hfz122_0 := blk_frozen BK141.out))
                have n0_ : Aside0 (((((w119.setCell ⟨gb141, 0, none⟩ (.int .i64 t136)).setCell ⟨gb141, 1, none⟩ (.int .i64 t137)).setCell ⟨gb141, 2, none⟩ (.int .i64 t138)).setCell ⟨gb141, 3, none⟩ (.int .i64 t139)).heap[gb123]? = some (.cells #[.slice (some ad135) l0_0.length c0_0, .slice A0_1 l0_1.length c0_1, .int .i64 a0_2] 88 (0, 0))) := ⟨by (with_reducible repeat (first | refine blk_drewN ?_ _ | refine blk_drew ?_ | refine blk_alloc ?_ _)); refine blk_far ?_ NB123_141.out _; (with_reducible repeat (first | refine blk_drewN ?_ _ | refine blk_drew ?_ | refine blk_alloc ?_ _)); refine blk_far ?_ NB123_141.out _; (with_reducible repeat (first | refine blk_drewN ?_ _ | refine blk_drew ?_ | refine blk_alloc ?_ _)); refine blk_far ?_ NB123_141.out _; (with_reducible repeat (first | refine blk_drewN ?_ _ | refine blk_drew ?_ | refine blk_alloc ?_ _)); refine blk_far ?_ NB123_141.out _; (with_reducible repeat (first | refine blk_drewN ?_ _ | refine blk_drew ?_ | refine blk_alloc ?_ _)); exact BK123.out⟩
                have n1_ : Aside0 (((((w119.setCell ⟨gb141, 0, none⟩ (.int .i64 t136)).setCell ⟨gb141, 1, none⟩ (.int .i64 t137)).setCell ⟨gb141, 2, none⟩ (.int .i64 t138)).setCell ⟨gb141, 3, none⟩ (.int .i64 t139)).heap[gb134]? = some (.cells #[.int .i64 x135000_3, .int .i64 x135001_3, .int .i64 x135002_3, .int .i64 x135003_3] 25 (0, 0))) := ⟨by (with_reducible repeat (first | refine blk_drewN ?_ _ | refine blk_drew ?_ | refine blk_alloc ?_ _)); refine blk_far ?_ NB134_141.out _; (with_reducible repeat (first | refine blk_drewN ?_ _ | refine blk_drew ?_ | refine blk_alloc ?_ _)); refine blk_far ?_ NB134_141.out _; (with_reducible repeat (first | refine blk_drewN ?_ _ | refine blk_drew ?_ | refine blk_alloc ?_ _)); refine blk_far ?_ NB134_141.out _; (with_reducible repeat (first | refine blk_drewN ?_ _ | refine blk_drew ?_ | refine blk_alloc ?_ _)); refine blk_far ?_ NB134_141.out _; (with_reducible repeat (first | refine blk_drewN ?_ _ | refine blk_drew ?_ | refine blk_alloc ?_ _)); exact BK134.out⟩
                have n2_ : Aside0 (((((w119.setCell ⟨gb141, 0, none⟩ (.int .i64 t136)).setCell ⟨gb141, 1, none⟩ (.int .i64 t137)).setCell ⟨gb141, 2, none⟩ (.int .i64 t138)).setCell ⟨gb141, 3, none⟩ (.int .i64 t139)).heap[gb141]? = some (.cells #[.int .i64 t136, .int .i64 t137, .int .i64 t138, .int .i64 t139] 25 (0, 0))) := ⟨by (with_reducible repeat (first | refine blk_drewN ?_ _ | refine blk_drew ?_ | refine blk_alloc ?_ _)); refine blk_put (cs := #[.int .i64 t136, .int .i64 t137, .int .i64 t138, .int .i64 0]) ?_ 3 _ rfl; (with_reducible repeat (first | refine blk_drewN ?_ _ | refine blk_drew ?_ | refine blk_alloc ?_ _)); refine blk_put (cs := #[.int .i64 t136, .int .i64 t137, .int .i64 0, .int .i64 0]) ?_ 2 _ rfl; (with_reducible repeat (first | refine blk_drewN ?_ _ | refine blk_drew ?_ | refine blk_alloc ?_ _)); refine blk_put (cs := #[.int .i64 t136, .int .i64 0, .int .i64 0, .int .i64 0]) ?_ 1 _ rfl; (with_reducible repeat (first | refine blk_drewN ?_ _ | refine blk_drew ?_ | refine blk_alloc ?_ _)); refine blk_put (cs := #[.int .i64 0, .int .i64 0, .int .i64 0, .int .i64 0]) ?_ 0 _ rfl; (with_reducible repeat (first | refine blk_drewN ?_ _ | refine blk_drew ?_ | refine blk_alloc ?_ _)); exact BK141.out⟩
                have n3_ : Aside0 (Below w.heap.size w ((((w119.setCell ⟨gb141, 0, none⟩ (.int .i64 t136)).setCell ⟨gb141, 1, none⟩ (.int .i64 t137)).setCell ⟨gb141, 2, none⟩ (.int .i64 t138)).setCell ⟨gb141, 3, none⟩ (.int .i64 t139))) := ⟨by repeat (first | exact HB.out | apply below_alloc | apply pw_below_drewN | apply below_drew1 | refine below_set ?_ GE123.out | refine below_set ?_ GE134.out | refine below_set ?_ GE141.out)⟩
                (try clear BK123)
                (try clear BK134)
                (try clear BK141)
                (try clear HB)
                generalize ((((w119.setCell ⟨gb141, 0, none⟩ (.int .i64 t136)).setCell ⟨gb141, 1, none⟩ (.int .i64 t137)).setCell ⟨gb141, 2, none⟩ (.int .i64 t138)).setCell ⟨gb141, 3, none⟩ (.int .i64 t139)) = w123 at n0_ n1_ n2_ n3_ ⊢
                have BK123 := n0_
                have BK134 := n1_
                have BK141 := n2_
                have HB := n3_
                clear n0_ n1_ n2_ n3_
                have n0_ := Aside0.mk (blk_drew BK123.out)
                have n1_ := Aside0.mk (blk_drew BK134.out)
                have n2_ := Aside0.mk (blk_drew BK141.out)
                have n3_ := Aside0.mk (below_drew1 HB.out)
                clear BK123
                clear BK134
                clear BK141
                clear HB
                have BK123 := n0_
                have BK134 := n1_
                have BK141 := n2_
                have HB := n3_
                clear n0_ n1_ n2_ n3_
                refine start_ (n := 27) (S := fun w' => w'.cell? ⟨gb123, 0, none⟩ = some (.slice (some ad135) l0_0.length c0_0) ∧ w'.cell? ⟨gb123, 1, none⟩ = some (.slice A0_1 l0_1.length c0_1) ∧ w'.cell? ⟨gb123, 2, none⟩ = some (.int .i64 a0_2) ∧ w'.cell? ⟨gb141, 0, none⟩ = some (.int .i64 t136) ∧ w'.cell? ⟨gb141, 1, none⟩ = some (.int .i64 t137) ∧ w'.cell? ⟨gb141, 2, none⟩ = some (.int .i64 t138) ∧ w'.cell? ⟨gb141, 3, none⟩ = some (.int .i64 t139)) (ds := []) spec_ImageOk.m46 (by kernel_rfl) rfl rfl ⟨(blk_cell BK123.out 0).trans rfl, (blk_cell BK123.out 1).trans rfl, (blk_cell BK123.out 2).trans rfl, (blk_cell BK141.out 0).trans rfl, (blk_cell BK141.out 1).trans rfl, (blk_cell BK141.out 2).trans rfl, (blk_cell BK141.out 3).trans rfl⟩ (fun hHeld => ?_); refine with_tabW spec_ImageOk.tab14 spec_ImageOk.bits14 (fun HT_ HW_ => ?_)
                generalize w123.drew = w124 at BK123 BK134 BK141 HB hHeld ⊢
                refine pur 0 88 ?_ HT_ spec_ImageOk.m47 ?_ ?_ ?_ ?_; (rotate_left; (· intro w'; go_simp; with_reducible rfl); rotate_left; (· simp only [Act.put, zz]; rfl))
                refine pur 1 89 ?_ HT_ spec_ImageOk.m48 ?_ ?_ ?_ ?_; (rotate_left; (· intro w'; go_simp; with_reducible rfl); rotate_left; (· simp only [Act.put, zz]; rfl))
                refine pur 2 90 ?_ HT_ spec_ImageOk.m49 ?_ ?_ ?_ ?_; (rotate_left; (· intro w'; go_simp; with_reducible rfl); rotate_left; (· simp only [Act.put, zz]; rfl))
                refine pur 3 91 ?_ HT_ spec_ImageOk.m50 ?_ ?_ ?_ ?_; (rotate_left; (· intro w'; go_simp; with_reducible rfl); rotate_left; (· simp only [Act.put, zz]; rfl))
                refine pur 5 93 ?_ HT_ spec_ImageOk.m51 ?_ ?_ ?_ ?_; (rotate_left; (· intro w'; go_simp; with_reducible rfl); rotate_left; (· simp only [Act.put, zz]; rfl))
                refine pur 7 95 ?_ HT_ spec_ImageOk.m52 ?_ ?_ ?_ ?_; (rotate_left; (· intro w'; go_simp; with_reducible rfl); rotate_left; (· simp only [Act.put, zz]; rfl))
                refine tak 4 92 ?_ HT_ HW_ hHeld spec_ImageOk.m53 ?_ ?_ ?_ ?_; (rotate_left; (· rintro w' ⟨s0, s1, s2, s3, s4, s5, s6⟩; go_simp; with_reducible rfl); rotate_left; (· simp only [Act.put, zz]; rfl))
                refine tak 8 96 ?_ HT_ HW_ hHeld spec_ImageOk.m54 ?_ ?_ ?_ ?_; (rotate_left; (· rintro w' ⟨s0, s1, s2, s3, s4, s5, s6⟩; go_simp; with_reducible rfl); rotate_left; (· simp only [Act.put, zz]; rfl))
                refine one_ (i := 6) (N := some 94) spec_ImageOk.m55 rfl rfl (one_of HT_.out (by kernel_rfl)) (by decide) (fun K hK => ?_)
                refine goes_ Try.func46 (by kernel_rfl) rfl #[.slice (some ad135) l0_0.length c0_0, .int .i64 x6_3] (by rfl) rfl rfl (by first | rfl | (simp only [List.map_toArray, List.map_cons, List.map_nil, List.length_drop, List.length_take]; rfl)) ?_
                with_reducible refine (spec_TouchOf.calls k3 _ _ l0_0 x6_3 t142 _ ?side1 ?side2 A56.out).mono ?_
                (case side1 => repeat (first | exact (Kd.C_below HR0_0.out HB.out) | (with_reducible refine Kd.C_alloc ?_ _) | (with_reducible refine Kd.C_drewN ?_ _) | (with_reducible refine Kd.C_drew ?_)))
                (case side2 => exact HC0_0.out)
                rintro e w125 ⟨rfl, hb⟩
                refine ⟨_, rfl, ?_⟩
                have n0_ := Aside0.mk (blk_below (g := gb123) (o := .cells #[.slice (some ad135) l0_0.length c0_0, .slice A0_1 l0_1.length c0_1, .int .i64 a0_2] 88 (0, 0)) (by (with_reducible repeat (first | refine blk_drewN ?_ _ | refine blk_drew ?_ | refine blk_alloc ?_ _)); exact BK123.out) hb)
                have n1_ := Aside0.mk (blk_below (g := gb134) (o := .cells #[.int .i64 x135000_3, .int .i64 x135001_3, .int .i64 x135002_3, .int .i64 x135003_3] 25 (0, 0)) (by (with_reducible repeat (first | refine blk_drewN ?_ _ | refine blk_drew ?_ | refine blk_alloc ?_ _)); exact BK134.out) hb)
                have n2_ := Aside0.mk (blk_below (g := gb141) (o := .cells #[.int .i64 t136, .int .i64 t137, .int .i64 t138, .int .i64 t139] 25 (0, 0)) (by (with_reducible repeat (first | refine blk_drewN ?_ _ | refine blk_drew ?_ | refine blk_alloc ?_ _)); exact BK141.out) hb)
                have n3_ := Aside0.mk (below_step (by repeat (first | exact HB.out | apply below_alloc | apply pw_below_drewN | apply below_drew1 | refine below_set ?_ GE123.out | refine below_set ?_ GE134.out | refine below_set ?_ GE141.out)) hb)
                clear BK123
                clear BK134
                clear BK141
                clear HB
                have BK123 := n0_
                have BK134 := n1_
                have BK141 := n2_
                have HB := n3_
                clear n0_ n1_ n2_ n3_
                (try clear hb)
                (try clear hb2)
                (try clear hk)
                (try clear hi)
                refine hK.out _ _ ⟨(blk_cell BK123.out 0).trans rfl, (blk_cell BK123.out 1).trans rfl, (blk_cell BK123.out 2).trans rfl, (blk_cell BK141.out 0).trans rfl, (blk_cell BK141.out 1).trans rfl, (blk_cell BK141.out 2).trans rfl, (blk_cell BK141.out 3).trans rfl⟩ (fun hHeld => ?_)
                clear hK K
                refine norm_ (a' := ?_) ?_ ?_
                rotate_left
                ·show Act.put _ (some 94) _ = _
                 simp only [Act.put, zz]
                 rfl
                refine pur 9 97 ?_ HT_ spec_ImageOk.m56 ?_ ?_ ?_ ?_; (rotate_left; (· intro w'; go_simp; with_reducible rfl); rotate_left; (· simp only [Act.put, zz]; rfl))
                refine pur 10 98 ?_ HT_ spec_ImageOk.m57 ?_ ?_ ?_ ?_; (rotate_left; (· intro w'; go_simp; with_reducible rfl); rotate_left; (· simp only [Act.put, zz]; rfl))
                refine pur 11 99 ?_ HT_ spec_ImageOk.m58 ?_ ?_ ?_ ?_; (rotate_left; (· intro w'; go_simp; with_reducible rfl); rotate_left; (· simp only [Act.put, zz]; rfl))
                refine pur 12 100 ?_ HT_ spec_ImageOk.m59 ?_ ?_ ?_ ?_; (rotate_left; (· intro w'; go_simp; with_reducible rfl); rotate_left; (· simp only [Act.put, zz]; rfl))
                refine tak 13 101 ?_ HT_ HW_ hHeld spec_ImageOk.m60 ?_ ?_ ?_ ?_; (rotate_left; (· rintro w' ⟨s0, s1, s2, s3, s4, s5, s6⟩; go_simp; with_reducible rfl); rotate_left; (· simp only [Act.put, zz]; rfl))
                refine pur 14 102 ?_ HT_ spec_ImageOk.m61 ?_ ?_ ?_ ?_; (rotate_left; (· intro w'; go_simp; with_reducible rfl); rotate_left; (· simp only [Act.put, zz]; rfl))
                refine pur 15 103 ?_ HT_ spec_ImageOk.m62 ?_ ?_ ?_ ?_; (rotate_left; (· intro w'; go_simp; with_reducible rfl); rotate_left; (· simp only [Act.put, zz]; rfl))
                refine pur 16 104 ?_ HT_ spec_ImageOk.m63 ?_ ?_ ?_ ?_; (rotate_left; (· intro w'; go_simp; with_reducible rfl); rotate_left; (· simp only [Act.put, zz]; rfl))
                refine tak 17 105 ?_ HT_ HW_ hHeld spec_ImageOk.m64 ?_ ?_ ?_ ?_; (rotate_left; (· rintro w' ⟨s0, s1, s2, s3, s4, s5, s6⟩; go_simp; with_reducible rfl); rotate_left; (· simp only [Act.put, zz]; rfl))
                refine pur 18 106 ?_ HT_ spec_ImageOk.m65 ?_ ?_ ?_ ?_; (rotate_left; (· intro w'; go_simp; with_reducible rfl); rotate_left; (· simp only [Act.put, zz]; rfl))
                refine pur 19 107 ?_ HT_ spec_ImageOk.m66 ?_ ?_ ?_ ?_; (rotate_left; (· intro w'; go_simp; with_reducible rfl); rotate_left; (· simp only [Act.put, zz]; rfl))
                refine pur 20 108 ?_ HT_ spec_ImageOk.m67 ?_ ?_ ?_ ?_; (rotate_left; (· intro w'; go_simp; with_reducible rfl); rotate_left; (· simp only [Act.put, zz]; rfl))
                refine pun 21 109 HT_ spec_ImageOk.m68 ?_ ?_ ?_; (rotate_left; (· simp only [Act.put, zz]; rfl))
                refine pun 22 110 HT_ spec_ImageOk.m69 ?_ ?_ ?_; (rotate_left; (· simp only [Act.put, zz]; rfl))
                refine pun 23 111 HT_ spec_ImageOk.m70 ?_ ?_ ?_; (rotate_left; (· simp only [Act.put, zz]; rfl))
                refine pun 24 112 HT_ spec_ImageOk.m71 ?_ ?_ ?_; (rotate_left; (· simp only [Act.put, zz]; rfl))
                refine pur 25 113 ?_ HT_ spec_ImageOk.m72 ?_ ?_ ?_ ?_; (rotate_left; (· intro w'; go_simp; with_reducible rfl); rotate_left; (· simp only [Act.put, zz]; rfl))
                refine pur 26 114 ?_ HT_ spec_ImageOk.m73 ?_ ?_ ?_ ?_; (rotate_left; (· intro w'; go_simp; with_reducible rfl); rotate_left; (· simp only [Act.put, zz]; rfl))
                refine done_ (done_of HT_.out (by kernel_rfl)) ?_
                have hcz126_0 := blk_cell BK141.out
                have hfz126_0 := blk_frozen BK141.out
                have hcz127_0 := blk_cell BK134.out
                have hfz127_0 := blk_frozen BK134.out
                try go_wp2
                go_roundg k3
                case measure => have := HJ1.out; have := HK2.out; have := HK3.out; omega
                case rel => exact ⟨(wrap64 (x6_3 + 1)), (t136), (t137), (t138), (t139), (by first | rfl | (simp; done) | (simp [*]; done)), H', ⟨by have := HJ1.out; have := HK2.out; have := HK3.out; omega⟩, ⟨by (with_reducible repeat (first | refine blk_drewN ?_ _ | refine blk_drew ?_ | refine blk_alloc ?_ _)); refine blk_far ?_ NB123_134.out _; (with_reducible repeat (first | refine blk_drewN ?_ _ | refine blk_drew ?_ | refine blk_alloc ?_ _)); refine blk_far ?_ NB123_134.out _; (with_reducible repeat (first | refine blk_drewN ?_ _ | refine blk_drew ?_ | refine blk_alloc ?_ _)); refine blk_far ?_ NB123_134.out _; (with_reducible repeat (first | refine blk_drewN ?_ _ | refine blk_drew ?_ | refine blk_alloc ?_ _)); refine blk_far ?_ NB123_134.out _; (with_reducible repeat (first | refine blk_drewN ?_ _ | refine blk_drew ?_ | refine blk_alloc ?_ _)); exact BK123.out⟩, ⟨by (with_reducible repeat (first | refine blk_drewN ?_ _ | refine blk_drew ?_ | refine blk_alloc ?_ _)); refine blk_put (cs := #[.int .i64 t136, .int .i64 t137, .int .i64 t138, .int .i64 x135003_3]) ?_ 3 _ rfl; (with_reducible repeat (first | refine blk_drewN ?_ _ | refine blk_drew ?_ | refine blk_alloc ?_ _)); refine blk_put (cs := #[.int .i64 t136, .int .i64 t137, .int .i64 x135002_3, .int .i64 x135003_3]) ?_ 2 _ rfl; (with_reducible repeat (first | refine blk_drewN ?_ _ | refine blk_drew ?_ | refine blk_alloc ?_ _)); refine blk_put (cs := #[.int .i64 t136, .int .i64 x135001_3, .int .i64 x135002_3, .int .i64 x135003_3]) ?_ 1 _ rfl; (with_reducible repeat (first | refine blk_drewN ?_ _ | refine blk_drew ?_ | refine blk_alloc ?_ _)); refine blk_put (cs := #[.int .i64 x135000_3, .int .i64 x135001_3, .int .i64 x135002_3, .int .i64 x135003_3]) ?_ 0 _ rfl; (with_reducible repeat (first | refine blk_drewN ?_ _ | refine blk_drew ?_ | refine blk_alloc ?_ _)); exact BK134.out⟩, ⟨by repeat (first | exact HB.out | apply below_alloc | apply pw_below_drewN | apply below_drew1 | refine below_set ?_ GE123.out | refine below_set ?_ GE134.out | refine below_set ?_ GE141.out)⟩⟩
            ·replace c55 := Bool.eq_false_iff.mpr c55
             subst c55
             have H1 : (some false) = some r := by rw [if_neg (show ¬ (false = true) by decide)] at H; exact H
             clear H
             have H := H1
             clear H1
             obtain rfl := Option.some.inj H
             have hnb128 := NB123_134.out
             have hnc128 := NB134_123.out
             have hcz129_0 := blk_cell BK123.out
             have hfz129_0 := blk_frozen BK123.out
             have p135 : 0 ≤ (x6_3 : Int) := of_decide_eq_true (by first | (with_reducible assumption) | assumption)
             have q135 : x6_3 < (l0_0.length : Int) := of_decide_eq_true (by first | (with_reducible assumption) | assumption)
             obtain ⟨ad135, e135, hx135_0⟩ := Kd.at_int HR0_0.out x6_3 p135 q135
             cases e135
             replace hx135_0 := (HB.out.cell (World.block_lt_of_cell? w _ hx135_0)).trans hx135_0
             replace p135 := eq_true p135
             replace q135 := eq_true q135
             try go_wp2_with (first | ((with_reducible refine gate_callee (f := 25) rfl ?_); refine goesL_ (some 85) rfl rfl Try.func25 (by kernel_rfl) rfl #[.int .i64 (rd l0_0 x6_3)] rfl (by first | rfl | (simp only [List.map_toArray, List.map_cons, List.map_nil, List.length_drop, List.length_take]; rfl)) ?_; (with_reducible refine (spec_Decode.calls k3 (rd l0_0 x6_3) t136 t137 t138 t139 false _ A54.out).mono ?_); rintro e w130 ⟨rfl, hb⟩; refine ⟨_, rfl, ?_⟩; have n0_ := Aside0.mk (blk_below (g := gb123) (o := .cells #[.slice (some ad135) l0_0.length c0_0, .slice A0_1 l0_1.length c0_1, .int .i64 a0_2] 88 (0, 0)) (by (with_reducible repeat (first | refine blk_drewN ?_ _ | refine blk_drew ?_ | refine blk_alloc ?_ _)); exact BK123.out) hb); have n1_ := Aside0.mk (blk_below (g := gb134) (o := .cells #[.int .i64 x135000_3, .int .i64 x135001_3, .int .i64 x135002_3, .int .i64 x135003_3] 25 (0, 0)) (by (with_reducible repeat (first | refine blk_drewN ?_ _ | refine blk_drew ?_ | refine blk_alloc ?_ _)); exact BK134.out) hb); have n2_ := Aside0.mk (below_step (by repeat (first | exact HB.out | apply below_alloc | apply pw_below_drewN | apply below_drew1 | refine below_set ?_ GE123.out | refine below_set ?_ GE134.out)) hb); clear BK123; clear BK134; clear HB; have BK123 := n0_; have BK134 := n1_; have HB := n2_; clear n0_ n1_ n2_; (try clear hb); (try clear hb2); (try clear hk); (try clear hi)) | ((with_reducible refine gate_dst (N := 7) rfl ?_); refine box_event ?hg (N := 7) ?hd (cs := #[.int .i64 0, .int .i64 0, .int .i64 0, .int .i64 0]) (t := 25) ?hr ?_; (case hd => rfl); (case hg => rfl); (case hr => first | (go_simp; done) | (go_simp; rfl)); intro gb141 hg w131 hbox hb; have n0_ := Aside0.mk (blk_below (g := gb123) (o := .cells #[.slice (some ad135) l0_0.length c0_0, .slice A0_1 l0_1.length c0_1, .int .i64 a0_2] 88 (0, 0)) (by (with_reducible repeat (first | refine blk_drewN ?_ _ | refine blk_drew ?_ | refine blk_alloc ?_ _)); exact BK123.out) hb); have n1_ := Aside0.mk (blk_below (g := gb134) (o := .cells #[.int .i64 x135000_3, .int .i64 x135001_3, .int .i64 x135002_3, .int .i64 x135003_3] 25 (0, 0)) (by (with_reducible repeat (first | refine blk_drewN ?_ _ | refine blk_drew ?_ | refine blk_alloc ?_ _)); exact BK134.out) hb); have n2_ := Aside0.mk (below_step (by repeat (first | exact HB.out | apply below_alloc | apply pw_below_drewN | apply below_drew1 | refine below_set ?_ GE123.out | refine below_set ?_ GE134.out)) hb); have n3_ := Aside0.mk (hbox); have n4_ := Aside0.mk ((by rw [hg]; exact (below_size (by repeat (first | exact HB.out | apply below_alloc | apply pw_below_drewN | apply below_drew1 | refine below_set ?_ GE123.out | refine below_set ?_ GE134.out))) : w.heap.size ≤ gb141)); have n5_ := Aside0.mk ((by rw [hg]; exact (below_size (by repeat (first | exact HB.out | apply below_alloc | apply pw_below_drewN | apply below_drew1 | refine below_set ?_ GE123.out | refine below_set ?_ GE134.out))) : w.heap.size ≤ gb141)); have n6_ := Aside0.mk ((by rw [hg]; exact Nat.ne_of_lt (blk_lt (g := gb123) (o := .cells #[.slice (some ad135) l0_0.length c0_0, .slice A0_1 l0_1.length c0_1, .int .i64 a0_2] 88 (0, 0)) (by (with_reducible repeat (first | refine blk_drewN ?_ _ | refine blk_drew ?_ | refine blk_alloc ?_ _)); exact BK123.out)) : gb123 ≠ gb141)); have n7_ := Aside0.mk ((by rw [hg]; exact Nat.ne_of_gt (blk_lt (g := gb123) (o := .cells #[.slice (some ad135) l0_0.length c0_0, .slice A0_1 l0_1.length c0_1, .int .i64 a0_2] 88 (0, 0)) (by (with_reducible repeat (first | refine blk_drewN ?_ _ | refine blk_drew ?_ | refine blk_alloc ?_ _)); exact BK123.out)) : gb141 ≠ gb123)); have n8_ := Aside0.mk ((by rw [hg]; exact Nat.ne_of_lt (blk_lt (g := gb134) (o := .cells #[.int .i64 x135000_3, .int .i64 x135001_3, .int .i64 x135002_3, .int .i64 x135003_3] 25 (0, 0)) (by (with_reducible repeat (first | refine blk_drewN ?_ _ | refine blk_drew ?_ | refine blk_alloc ?_ _)); exact BK134.out)) : gb134 ≠ gb141)); have n9_ := Aside0.mk ((by rw [hg]; exact Nat.ne_of_gt (blk_lt (g := gb134) (o := .cells #[.int .i64 x135000_3, .int .i64 x135001_3, .int .i64 x135002_3, .int .i64 x135003_3] 25 (0, 0)) (by (with_reducible repeat (first | refine blk_drewN ?_ _ | refine blk_drew ?_ | refine blk_alloc ?_ _)); exact BK134.out)) : gb141 ≠ gb134)); clear BK123; clear BK134; clear HB; have BK123 := n0_; have BK134 := n1_; have HB := n2_; have BK141 := n3_; have GW141 := n4_; have GE141 := n5_; have NB123_141 := n6_; have NB141_123 := n7_; have NB134_141 := n8_; have NB141_134 := n9_; clear n0_ n1_ n2_ n3_ n4_ n5_ n6_ n7_ n8_ n9_; clear hb hbox hg; have hnb132 := NB141_123.out; have hnc132 := NB123_141.out; have hnb133 := NB141_134.out; have hnc133 := NB134_141.out; have hcz134_0 := blk_cell BK141.out; have hfz134_0 := blk_frozen BK141.out))
             have n0_ : Aside0 (((((w131.setCell ⟨gb141, 0, none⟩ (.int .i64 t136)).setCell ⟨gb141, 1, none⟩ (.int .i64 t137)).setCell ⟨gb141, 2, none⟩ (.int .i64 t138)).setCell ⟨gb141, 3, none⟩ (.int .i64 t139)).heap[gb123]? = some (.cells #[.slice (some ad135) l0_0.length c0_0, .slice A0_1 l0_1.length c0_1, .int .i64 a0_2] 88 (0, 0))) := ⟨by (with_reducible repeat (first | refine blk_drewN ?_ _ | refine blk_drew ?_ | refine blk_alloc ?_ _)); refine blk_far ?_ NB123_141.out _; (with_reducible repeat (first | refine blk_drewN ?_ _ | refine blk_drew ?_ | refine blk_alloc ?_ _)); refine blk_far ?_ NB123_141.out _; (with_reducible repeat (first | refine blk_drewN ?_ _ | refine blk_drew ?_ | refine blk_alloc ?_ _)); refine blk_far ?_ NB123_141.out _; (with_reducible repeat (first | refine blk_drewN ?_ _ | refine blk_drew ?_ | refine blk_alloc ?_ _)); refine blk_far ?_ NB123_141.out _; (with_reducible repeat (first | refine blk_drewN ?_ _ | refine blk_drew ?_ | refine blk_alloc ?_ _)); exact BK123.out⟩
             have n1_ : Aside0 (((((w131.setCell ⟨gb141, 0, none⟩ (.int .i64 t136)).setCell ⟨gb141, 1, none⟩ (.int .i64 t137)).setCell ⟨gb141, 2, none⟩ (.int .i64 t138)).setCell ⟨gb141, 3, none⟩ (.int .i64 t139)).heap[gb134]? = some (.cells #[.int .i64 x135000_3, .int .i64 x135001_3, .int .i64 x135002_3, .int .i64 x135003_3] 25 (0, 0))) := ⟨by (with_reducible repeat (first | refine blk_drewN ?_ _ | refine blk_drew ?_ | refine blk_alloc ?_ _)); refine blk_far ?_ NB134_141.out _; (with_reducible repeat (first | refine blk_drewN ?_ _ | refine blk_drew ?_ | refine blk_alloc ?_ _)); refine blk_far ?_ NB134_141.out _; (with_reducible repeat (first | refine blk_drewN ?_ _ | refine blk_drew ?_ | refine blk_alloc ?_ _)); refine blk_far ?_ NB134_141.out _; (with_reducible repeat (first | refine blk_drewN ?_ _ | refine blk_drew ?_ | refine blk_alloc ?_ _)); refine blk_far ?_ NB134_141.out _; (with_reducible repeat (first | refine blk_drewN ?_ _ | refine blk_drew ?_ | refine blk_alloc ?_ _)); exact BK134.out⟩
             have n2_ : Aside0 (((((w131.setCell ⟨gb141, 0, none⟩ (.int .i64 t136)).setCell ⟨gb141, 1, none⟩ (.int .i64 t137)).setCell ⟨gb141, 2, none⟩ (.int .i64 t138)).setCell ⟨gb141, 3, none⟩ (.int .i64 t139)).heap[gb141]? = some (.cells #[.int .i64 t136, .int .i64 t137, .int .i64 t138, .int .i64 t139] 25 (0, 0))) := ⟨by (with_reducible repeat (first | refine blk_drewN ?_ _ | refine blk_drew ?_ | refine blk_alloc ?_ _)); refine blk_put (cs := #[.int .i64 t136, .int .i64 t137, .int .i64 t138, .int .i64 0]) ?_ 3 _ rfl; (with_reducible repeat (first | refine blk_drewN ?_ _ | refine blk_drew ?_ | refine blk_alloc ?_ _)); refine blk_put (cs := #[.int .i64 t136, .int .i64 t137, .int .i64 0, .int .i64 0]) ?_ 2 _ rfl; (with_reducible repeat (first | refine blk_drewN ?_ _ | refine blk_drew ?_ | refine blk_alloc ?_ _)); refine blk_put (cs := #[.int .i64 t136, .int .i64 0, .int .i64 0, .int .i64 0]) ?_ 1 _ rfl; (with_reducible repeat (first | refine blk_drewN ?_ _ | refine blk_drew ?_ | refine blk_alloc ?_ _)); refine blk_put (cs := #[.int .i64 0, .int .i64 0, .int .i64 0, .int .i64 0]) ?_ 0 _ rfl; (with_reducible repeat (first | refine blk_drewN ?_ _ | refine blk_drew ?_ | refine blk_alloc ?_ _)); exact BK141.out⟩
             have n3_ : Aside0 (Below w.heap.size w ((((w131.setCell ⟨gb141, 0, none⟩ (.int .i64 t136)).setCell ⟨gb141, 1, none⟩ (.int .i64 t137)).setCell ⟨gb141, 2, none⟩ (.int .i64 t138)).setCell ⟨gb141, 3, none⟩ (.int .i64 t139))) := ⟨by repeat (first | exact HB.out | apply below_alloc | apply pw_below_drewN | apply below_drew1 | refine below_set ?_ GE123.out | refine below_set ?_ GE134.out | refine below_set ?_ GE141.out)⟩
             (try clear BK123)
             (try clear BK134)
             (try clear BK141)
             (try clear HB)
             generalize ((((w131.setCell ⟨gb141, 0, none⟩ (.int .i64 t136)).setCell ⟨gb141, 1, none⟩ (.int .i64 t137)).setCell ⟨gb141, 2, none⟩ (.int .i64 t138)).setCell ⟨gb141, 3, none⟩ (.int .i64 t139)) = w135 at n0_ n1_ n2_ n3_ ⊢
             have BK123 := n0_
             have BK134 := n1_
             have BK141 := n2_
             have HB := n3_
             clear n0_ n1_ n2_ n3_
             have n0_ := Aside0.mk (blk_drew BK123.out)
             have n1_ := Aside0.mk (blk_drew BK134.out)
             have n2_ := Aside0.mk (blk_drew BK141.out)
             have n3_ := Aside0.mk (below_drew1 HB.out)
             clear BK123
             clear BK134
             clear BK141
             clear HB
             have BK123 := n0_
             have BK134 := n1_
             have BK141 := n2_
             have HB := n3_
             clear n0_ n1_ n2_ n3_
             refine start_ (n := 27) (S := fun w' => True) (ds := []) spec_ImageOk.m46 (by kernel_rfl) rfl rfl trivial (fun hHeld => ?_); refine with_tabW spec_ImageOk.tab14 spec_ImageOk.bits14 (fun HT_ HW_ => ?_)
             generalize w135.drew = w136 at BK123 BK134 BK141 HB hHeld ⊢
             refine pur 0 88 ?_ HT_ spec_ImageOk.m47 ?_ ?_ ?_ ?_; (rotate_left; (· intro w'; go_simp; with_reducible rfl); rotate_left; (· simp only [Act.put, zz]; rfl))
             refine pur 1 89 ?_ HT_ spec_ImageOk.m48 ?_ ?_ ?_ ?_; (rotate_left; (· intro w'; go_simp; with_reducible rfl); rotate_left; (· simp only [Act.put, zz]; rfl))
             refine pur 2 90 ?_ HT_ spec_ImageOk.m49 ?_ ?_ ?_ ?_; (rotate_left; (· intro w'; go_simp; with_reducible rfl); rotate_left; (· simp only [Act.put, zz]; rfl))
             refine pun 3 91 HT_ spec_ImageOk.m50 ?_ ?_ ?_; (rotate_left; (· simp only [Act.put, zz]; rfl))
             refine pun 4 92 HT_ spec_ImageOk.m75 ?_ ?_ ?_; (rotate_left; (· simp only [Act.put, zz]; rfl))
             refine pun 5 93 HT_ spec_ImageOk.m76 ?_ ?_ ?_; (rotate_left; (· simp only [Act.put, zz]; rfl))
             refine pun 6 94 HT_ spec_ImageOk.m77 ?_ ?_ ?_; (rotate_left; (· simp only [Act.put, zz]; rfl))
             refine pun 7 95 HT_ spec_ImageOk.m78 ?_ ?_ ?_; (rotate_left; (· simp only [Act.put, zz]; rfl))
             refine pun 8 96 HT_ spec_ImageOk.m55 ?_ ?_ ?_; (rotate_left; (· simp only [Act.put, zz]; rfl))
             refine pun 9 97 HT_ spec_ImageOk.m56 ?_ ?_ ?_; (rotate_left; (· simp only [Act.put, zz]; rfl))
             refine pur 10 98 ?_ HT_ spec_ImageOk.m57 ?_ ?_ ?_ ?_; (rotate_left; (· intro w'; go_simp; with_reducible rfl); rotate_left; (· simp only [Act.put, zz]; rfl))
             refine pur 11 99 ?_ HT_ spec_ImageOk.m58 ?_ ?_ ?_ ?_; (rotate_left; (· intro w'; go_simp; with_reducible rfl); rotate_left; (· simp only [Act.put, zz]; rfl))
             refine pun 12 100 HT_ spec_ImageOk.m59 ?_ ?_ ?_; (rotate_left; (· simp only [Act.put, zz]; rfl))
             refine pun 13 101 HT_ spec_ImageOk.m60 ?_ ?_ ?_; (rotate_left; (· simp only [Act.put, zz]; rfl))
             refine pun 14 102 HT_ spec_ImageOk.m61 ?_ ?_ ?_; (rotate_left; (· simp only [Act.put, zz]; rfl))
             refine pun 15 103 HT_ spec_ImageOk.m62 ?_ ?_ ?_; (rotate_left; (· simp only [Act.put, zz]; rfl))
             refine pun 16 104 HT_ spec_ImageOk.m63 ?_ ?_ ?_; (rotate_left; (· simp only [Act.put, zz]; rfl))
             refine pun 17 105 HT_ spec_ImageOk.m64 ?_ ?_ ?_; (rotate_left; (· simp only [Act.put, zz]; rfl))
             refine pun 18 106 HT_ spec_ImageOk.m65 ?_ ?_ ?_; (rotate_left; (· simp only [Act.put, zz]; rfl))
             refine pun 19 107 HT_ spec_ImageOk.m66 ?_ ?_ ?_; (rotate_left; (· simp only [Act.put, zz]; rfl))
             refine pun 20 108 HT_ spec_ImageOk.m67 ?_ ?_ ?_; (rotate_left; (· simp only [Act.put, zz]; rfl))
             refine pun 21 109 HT_ spec_ImageOk.m68 ?_ ?_ ?_; (rotate_left; (· simp only [Act.put, zz]; rfl))
             refine pun 22 110 HT_ spec_ImageOk.m69 ?_ ?_ ?_; (rotate_left; (· simp only [Act.put, zz]; rfl))
             refine pun 23 111 HT_ spec_ImageOk.m70 ?_ ?_ ?_; (rotate_left; (· simp only [Act.put, zz]; rfl))
             refine pun 24 112 HT_ spec_ImageOk.m71 ?_ ?_ ?_; (rotate_left; (· simp only [Act.put, zz]; rfl))
             refine pun 25 113 HT_ spec_ImageOk.m72 ?_ ?_ ?_; (rotate_left; (· simp only [Act.put, zz]; rfl))
             refine pur 26 114 ?_ HT_ spec_ImageOk.m73 ?_ ?_ ?_ ?_; (rotate_left; (· intro w'; go_simp; with_reducible rfl); rotate_left; (· simp only [Act.put, zz]; rfl))
             refine done_ (done_of HT_.out (by kernel_rfl)) ?_
             try go_wp2
             go_ret
             exact ⟨by first | rfl | (simp [errW_none, errW_some] <;> rfl) | (simp [*, errW_none, errW_some] <;> rfl), by repeat (first | exact HB.out | apply below_alloc | apply pw_below_drewN | apply below_drew1 | refine below_set ?_ GE123.out | refine below_set ?_ GE134.out | refine below_set ?_ GE141.out)⟩
           ·rw [if_neg c53] at H
            exact absurd H (by simp)
          ·rw [if_neg c52] at H
           exact absurd H (by simp)
         ·rw [if_neg c51] at H
          have c51b0 : decide (x6_3 < (l0_0.length : Int)) = false := decide_eq_false c51
          clear c51
          by_cases c137 : x135000_3 = 10
          ·rw [if_pos c137] at H
           have c137b0 : (x135000_3 == 10) = true := beq_iff_eq.mpr c137
           have c137b1 : (x135000_3 != 10) = false := bne_eq_false_iff_eq.mpr c137
           clear c137
           obtain rfl := Option.some.inj H
           have hnb138 := NB134_123.out
           have hnc138 := NB123_134.out
           have hcz139_0 := blk_cell BK134.out
           have hfz139_0 := blk_frozen BK134.out
           go_wp2
           go_ret
           exact ⟨by first | rfl | (simp [errW_none, errW_some] <;> rfl) | (simp [*, errW_none, errW_some] <;> rfl), by repeat (first | exact HB.out | apply below_alloc | apply pw_below_drewN | apply below_drew1 | refine below_set ?_ GE123.out | refine below_set ?_ GE134.out)⟩
          ·rw [if_neg c137] at H
           have c137b0 : (x135000_3 == 10) = false := beq_eq_false_iff_ne.mpr c137
           have c137b1 : (x135000_3 != 10) = true := bne_iff_ne.mpr c137
           obtain rfl := Option.some.inj H
           have hnb140 := NB134_123.out
           have hnc140 := NB123_134.out
           have hcz141_0 := blk_cell BK134.out
           have hfz141_0 := blk_frozen BK134.out
           go_wp2
           go_ret
           exact ⟨by first | rfl | (simp [errW_none, errW_some] <;> rfl) | (simp [*, errW_none, errW_some] <;> rfl), by repeat (first | exact HB.out | apply below_alloc | apply pw_below_drewN | apply below_drew1 | refine below_set ?_ GE123.out | refine below_set ?_ GE134.out)⟩

end Go.Proofs.Ytcappoimcdfggaa.PFnExactImageOk
