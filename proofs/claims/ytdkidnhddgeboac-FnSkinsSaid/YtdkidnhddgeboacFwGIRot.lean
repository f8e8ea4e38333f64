/- Turns of halves turn vectors of integers into vectors of integers. (A template.) -/
import Derived.Test.YtdkidnhddgeboacFwGIUnit
namespace Go.Fw
open Go

theorem Db.up {k B : Nat} {n : Int} {x : F32} (h : Db k B n x) (j : Nat) : Db (k + j) (B * 2 ^ j) (n * 2 ^ j) x := by
  refine ⟨h.1.up j, ?_⟩
  rw [Int.natAbs_mul, Int.natAbs_pow]
  exact Nat.mul_le_mul_right _ h.2
/-- The matrix of a turn. -/
def M11 (k : Nat) : Int := (2 - HY k * HY k - HZ k * HZ k) / 2
def M12 (k : Nat) : Int := (HX k * HY k - HW k * HZ k) / 2
def M13 (k : Nat) : Int := (HX k * HZ k + HW k * HY k) / 2
def M21 (k : Nat) : Int := (HX k * HY k + HW k * HZ k) / 2
def M22 (k : Nat) : Int := (2 - HX k * HX k - HZ k * HZ k) / 2
def M23 (k : Nat) : Int := (HY k * HZ k - HW k * HX k) / 2
def M31 (k : Nat) : Int := (HX k * HZ k - HW k * HY k) / 2
def M32 (k : Nat) : Int := (HY k * HZ k + HW k * HX k) / 2
def M33 (k : Nat) : Int := (2 - HX k * HX k - HY k * HY k) / 2
abbrev V3 := Int × Int × Int
def rotI (k : Nat) (v : V3) : V3 := (M11 k * v.1 + M12 k * v.2.1 + M13 k * v.2.2, M21 k * v.1 + M22 k * v.2.1 + M23 k * v.2.2, M31 k * v.1 + M32 k * v.2.1 + M33 k * v.2.2)
/-- What is said of a turn and a vector. -/
structure RotOK (k : Nat) (a b c : Int) : Prop where
  x : a * 4 + (HY k * c - HZ k * b) * 2 * HW k + (HY k * ((HX k * b - HY k * a) * 2) - HZ k * ((HZ k * a - HX k * c) * 2)) = 2 * (2 * (M11 k * a + M12 k * b + M13 k * c))
  y : b * 4 + (HZ k * a - HX k * c) * 2 * HW k + (HZ k * ((HY k * c - HZ k * b) * 2) - HX k * ((HX k * b - HY k * a) * 2)) = 2 * (2 * (M21 k * a + M22 k * b + M23 k * c))
  z : c * 4 + (HX k * b - HY k * a) * 2 * HW k + (HX k * ((HZ k * a - HX k * c) * 2) - HY k * ((HY k * c - HZ k * b) * 2)) = 2 * (2 * (M31 k * a + M32 k * b + M33 k * c))
  sq : (M11 k * a + M12 k * b + M13 k * c) * (M11 k * a + M12 k * b + M13 k * c) + (M21 k * a + M22 k * b + M23 k * c) * (M21 k * a + M22 k * b + M23 k * c) + (M31 k * a + M32 k * b + M33 k * c) * (M31 k * a + M32 k * b + M33 k * c) = a * a + b * b + c * c
  bd : ∀ B : Nat, a.natAbs ≤ B → b.natAbs ≤ B → c.natAbs ≤ B → (M11 k * a + M12 k * b + M13 k * c).natAbs ≤ B ∧ (M21 k * a + M22 k * b + M23 k * c).natAbs ≤ B ∧ (M31 k * a + M32 k * b + M33 k * c).natAbs ≤ B
theorem rot0 (a b c : Int) : RotOK 0 a b c := by
  have hw : HW 0 = 2 := by decide
  have hx : HX 0 = 0 := by decide
  have hy : HY 0 = 0 := by decide
  have hz : HZ 0 = 0 := by decide
  have m11 : M11 0 = 1 := by decide
  have m12 : M12 0 = 0 := by decide
  have m13 : M13 0 = 0 := by decide
  have m21 : M21 0 = 0 := by decide
  have m22 : M22 0 = 1 := by decide
  have m23 : M23 0 = 0 := by decide
  have m31 : M31 0 = 0 := by decide
  have m32 : M32 0 = 0 := by decide
  have m33 : M33 0 = 1 := by decide
  have r1 : (1) * a + (0) * b + (0) * c = a := by omega
  have r2 : (0) * a + (1) * b + (0) * c = b := by omega
  have r3 : (0) * a + (0) * b + (1) * c = c := by omega
  refine ⟨?_, ?_, ?_, ?_, ?_⟩
  · rw [hw, hx, hy, hz, m11, m12, m13]; omega
  · rw [hw, hx, hy, hz, m21, m22, m23]; omega
  · rw [hw, hx, hy, hz, m31, m32, m33]; omega
  · rw [m11, m12, m13, m21, m22, m23, m31, m32, m33, r1, r2, r3]
    try simp only [Int.neg_mul_neg]
    try omega
  · intro B h1 h2 h3; rw [m11, m12, m13, m21, m22, m23, m31, m32, m33, r1, r2, r3]; omega
theorem rot1 (a b c : Int) : RotOK 1 a b c := by
  have hw : HW 1 = 0 := by decide
  have hx : HX 1 = 2 := by decide
  have hy : HY 1 = 0 := by decide
  have hz : HZ 1 = 0 := by decide
  have m11 : M11 1 = 1 := by decide
  have m12 : M12 1 = 0 := by decide
  have m13 : M13 1 = 0 := by decide
  have m21 : M21 1 = 0 := by decide
  have m22 : M22 1 = (-1) := by decide
  have m23 : M23 1 = 0 := by decide
  have m31 : M31 1 = 0 := by decide
  have m32 : M32 1 = 0 := by decide
  have m33 : M33 1 = (-1) := by decide
  have r1 : (1) * a + (0) * b + (0) * c = a := by omega
  have r2 : (0) * a + (-1) * b + (0) * c = (-b) := by omega
  have r3 : (0) * a + (0) * b + (-1) * c = (-c) := by omega
  refine ⟨?_, ?_, ?_, ?_, ?_⟩
  · rw [hw, hx, hy, hz, m11, m12, m13]; omega
  · rw [hw, hx, hy, hz, m21, m22, m23]; omega
  · rw [hw, hx, hy, hz, m31, m32, m33]; omega
  · rw [m11, m12, m13, m21, m22, m23, m31, m32, m33, r1, r2, r3]
    try simp only [Int.neg_mul_neg]
    try omega
  · intro B h1 h2 h3; rw [m11, m12, m13, m21, m22, m23, m31, m32, m33, r1, r2, r3]; omega
theorem rot2 (a b c : Int) : RotOK 2 a b c := by
  have hw : HW 2 = 0 := by decide
  have hx : HX 2 = 0 := by decide
  have hy : HY 2 = 2 := by decide
  have hz : HZ 2 = 0 := by decide
  have m11 : M11 2 = (-1) := by decide
  have m12 : M12 2 = 0 := by decide
  have m13 : M13 2 = 0 := by decide
  have m21 : M21 2 = 0 := by decide
  have m22 : M22 2 = 1 := by decide
  have m23 : M23 2 = 0 := by decide
  have m31 : M31 2 = 0 := by decide
  have m32 : M32 2 = 0 := by decide
  have m33 : M33 2 = (-1) := by decide
  have r1 : (-1) * a + (0) * b + (0) * c = (-a) := by omega
  have r2 : (0) * a + (1) * b + (0) * c = b := by omega
  have r3 : (0) * a + (0) * b + (-1) * c = (-c) := by omega
  refine ⟨?_, ?_, ?_, ?_, ?_⟩
  · rw [hw, hx, hy, hz, m11, m12, m13]; omega
  · rw [hw, hx, hy, hz, m21, m22, m23]; omega
  · rw [hw, hx, hy, hz, m31, m32, m33]; omega
  · rw [m11, m12, m13, m21, m22, m23, m31, m32, m33, r1, r2, r3]
    try simp only [Int.neg_mul_neg]
    try omega
  · intro B h1 h2 h3; rw [m11, m12, m13, m21, m22, m23, m31, m32, m33, r1, r2, r3]; omega
theorem rot3 (a b c : Int) : RotOK 3 a b c := by
  have hw : HW 3 = 0 := by decide
  have hx : HX 3 = 0 := by decide
  have hy : HY 3 = 0 := by decide
  have hz : HZ 3 = 2 := by decide
  have m11 : M11 3 = (-1) := by decide
  have m12 : M12 3 = 0 := by decide
  have m13 : M13 3 = 0 := by decide
  have m21 : M21 3 = 0 := by decide
  have m22 : M22 3 = (-1) := by decide
  have m23 : M23 3 = 0 := by decide
  have m31 : M31 3 = 0 := by decide
  have m32 : M32 3 = 0 := by decide
  have m33 : M33 3 = 1 := by decide
  have r1 : (-1) * a + (0) * b + (0) * c = (-a) := by omega
  have r2 : (0) * a + (-1) * b + (0) * c = (-b) := by omega
  have r3 : (0) * a + (0) * b + (1) * c = c := by omega
  refine ⟨?_, ?_, ?_, ?_, ?_⟩
  · rw [hw, hx, hy, hz, m11, m12, m13]; omega
  · rw [hw, hx, hy, hz, m21, m22, m23]; omega
  · rw [hw, hx, hy, hz, m31, m32, m33]; omega
  · rw [m11, m12, m13, m21, m22, m23, m31, m32, m33, r1, r2, r3]
    try simp only [Int.neg_mul_neg]
    try omega
  · intro B h1 h2 h3; rw [m11, m12, m13, m21, m22, m23, m31, m32, m33, r1, r2, r3]; omega
theorem rot4 (a b c : Int) : RotOK 4 a b c := by
  have hw : HW 4 = (-2) := by decide
  have hx : HX 4 = 0 := by decide
  have hy : HY 4 = 0 := by decide
  have hz : HZ 4 = 0 := by decide
  have m11 : M11 4 = 1 := by decide
  have m12 : M12 4 = 0 := by decide
  have m13 : M13 4 = 0 := by decide
  have m21 : M21 4 = 0 := by decide
  have m22 : M22 4 = 1 := by decide
  have m23 : M23 4 = 0 := by decide
  have m31 : M31 4 = 0 := by decide
  have m32 : M32 4 = 0 := by decide
  have m33 : M33 4 = 1 := by decide
  have r1 : (1) * a + (0) * b + (0) * c = a := by omega
  have r2 : (0) * a + (1) * b + (0) * c = b := by omega
  have r3 : (0) * a + (0) * b + (1) * c = c := by omega
  refine ⟨?_, ?_, ?_, ?_, ?_⟩
  · rw [hw, hx, hy, hz, m11, m12, m13]; omega
  · rw [hw, hx, hy, hz, m21, m22, m23]; omega
  · rw [hw, hx, hy, hz, m31, m32, m33]; omega
  · rw [m11, m12, m13, m21, m22, m23, m31, m32, m33, r1, r2, r3]
    try simp only [Int.neg_mul_neg]
    try omega
  · intro B h1 h2 h3; rw [m11, m12, m13, m21, m22, m23, m31, m32, m33, r1, r2, r3]; omega
theorem rot5 (a b c : Int) : RotOK 5 a b c := by
  have hw : HW 5 = 0 := by decide
  have hx : HX 5 = (-2) := by decide
  have hy : HY 5 = 0 := by decide
  have hz : HZ 5 = 0 := by decide
  have m11 : M11 5 = 1 := by decide
  have m12 : M12 5 = 0 := by decide
  have m13 : M13 5 = 0 := by decide
  have m21 : M21 5 = 0 := by decide
  have m22 : M22 5 = (-1) := by decide
  have m23 : M23 5 = 0 := by decide
  have m31 : M31 5 = 0 := by decide
  have m32 : M32 5 = 0 := by decide
  have m33 : M33 5 = (-1) := by decide
  have r1 : (1) * a + (0) * b + (0) * c = a := by omega
  have r2 : (0) * a + (-1) * b + (0) * c = (-b) := by omega
  have r3 : (0) * a + (0) * b + (-1) * c = (-c) := by omega
  refine ⟨?_, ?_, ?_, ?_, ?_⟩
  · rw [hw, hx, hy, hz, m11, m12, m13]; omega
  · rw [hw, hx, hy, hz, m21, m22, m23]; omega
  · rw [hw, hx, hy, hz, m31, m32, m33]; omega
  · rw [m11, m12, m13, m21, m22, m23, m31, m32, m33, r1, r2, r3]
    try simp only [Int.neg_mul_neg]
    try omega
  · intro B h1 h2 h3; rw [m11, m12, m13, m21, m22, m23, m31, m32, m33, r1, r2, r3]; omega
theorem rot6 (a b c : Int) : RotOK 6 a b c := by
  have hw : HW 6 = 0 := by decide
  have hx : HX 6 = 0 := by decide
  have hy : HY 6 = (-2) := by decide
  have hz : HZ 6 = 0 := by decide
  have m11 : M11 6 = (-1) := by decide
  have m12 : M12 6 = 0 := by decide
  have m13 : M13 6 = 0 := by decide
  have m21 : M21 6 = 0 := by decide
  have m22 : M22 6 = 1 := by decide
  have m23 : M23 6 = 0 := by decide
  have m31 : M31 6 = 0 := by decide
  have m32 : M32 6 = 0 := by decide
  have m33 : M33 6 = (-1) := by decide
  have r1 : (-1) * a + (0) * b + (0) * c = (-a) := by omega
  have r2 : (0) * a + (1) * b + (0) * c = b := by omega
  have r3 : (0) * a + (0) * b + (-1) * c = (-c) := by omega
  refine ⟨?_, ?_, ?_, ?_, ?_⟩
  · rw [hw, hx, hy, hz, m11, m12, m13]; omega
  · rw [hw, hx, hy, hz, m21, m22, m23]; omega
  · rw [hw, hx, hy, hz, m31, m32, m33]; omega
  · rw [m11, m12, m13, m21, m22, m23, m31, m32, m33, r1, r2, r3]
    try simp only [Int.neg_mul_neg]
    try omega
  · intro B h1 h2 h3; rw [m11, m12, m13, m21, m22, m23, m31, m32, m33, r1, r2, r3]; omega
theorem rot7 (a b c : Int) : RotOK 7 a b c := by
  have hw : HW 7 = 0 := by decide
  have hx : HX 7 = 0 := by decide
  have hy : HY 7 = 0 := by decide
  have hz : HZ 7 = (-2) := by decide
  have m11 : M11 7 = (-1) := by decide
  have m12 : M12 7 = 0 := by decide
  have m13 : M13 7 = 0 := by decide
  have m21 : M21 7 = 0 := by decide
  have m22 : M22 7 = (-1) := by decide
  have m23 : M23 7 = 0 := by decide
  have m31 : M31 7 = 0 := by decide
  have m32 : M32 7 = 0 := by decide
  have m33 : M33 7 = 1 := by decide
  have r1 : (-1) * a + (0) * b + (0) * c = (-a) := by omega
  have r2 : (0) * a + (-1) * b + (0) * c = (-b) := by omega
  have r3 : (0) * a + (0) * b + (1) * c = c := by omega
  refine ⟨?_, ?_, ?_, ?_, ?_⟩
  · rw [hw, hx, hy, hz, m11, m12, m13]; omega
  · rw [hw, hx, hy, hz, m21, m22, m23]; omega
  · rw [hw, hx, hy, hz, m31, m32, m33]; omega
  · rw [m11, m12, m13, m21, m22, m23, m31, m32, m33, r1, r2, r3]
    try simp only [Int.neg_mul_neg]
    try omega
  · intro B h1 h2 h3; rw [m11, m12, m13, m21, m22, m23, m31, m32, m33, r1, r2, r3]; omega
theorem rot8 (a b c : Int) : RotOK 8 a b c := by
  have hw : HW 8 = (-1) := by decide
  have hx : HX 8 = (-1) := by decide
  have hy : HY 8 = (-1) := by decide
  have hz : HZ 8 = (-1) := by decide
  have m11 : M11 8 = 0 := by decide
  have m12 : M12 8 = 0 := by decide
  have m13 : M13 8 = 1 := by decide
  have m21 : M21 8 = 1 := by decide
  have m22 : M22 8 = 0 := by decide
  have m23 : M23 8 = 0 := by decide
  have m31 : M31 8 = 0 := by decide
  have m32 : M32 8 = 1 := by decide
  have m33 : M33 8 = 0 := by decide
  have r1 : (0) * a + (0) * b + (1) * c = c := by omega
  have r2 : (1) * a + (0) * b + (0) * c = a := by omega
  have r3 : (0) * a + (1) * b + (0) * c = b := by omega
  refine ⟨?_, ?_, ?_, ?_, ?_⟩
  · rw [hw, hx, hy, hz, m11, m12, m13]; omega
  · rw [hw, hx, hy, hz, m21, m22, m23]; omega
  · rw [hw, hx, hy, hz, m31, m32, m33]; omega
  · rw [m11, m12, m13, m21, m22, m23, m31, m32, m33, r1, r2, r3]
    try simp only [Int.neg_mul_neg]
    try omega
  · intro B h1 h2 h3; rw [m11, m12, m13, m21, m22, m23, m31, m32, m33, r1, r2, r3]; omega
theorem rot9 (a b c : Int) : RotOK 9 a b c := by
  have hw : HW 9 = 1 := by decide
  have hx : HX 9 = (-1) := by decide
  have hy : HY 9 = (-1) := by decide
  have hz : HZ 9 = (-1) := by decide
  have m11 : M11 9 = 0 := by decide
  have m12 : M12 9 = 1 := by decide
  have m13 : M13 9 = 0 := by decide
  have m21 : M21 9 = 0 := by decide
  have m22 : M22 9 = 0 := by decide
  have m23 : M23 9 = 1 := by decide
  have m31 : M31 9 = 1 := by decide
  have m32 : M32 9 = 0 := by decide
  have m33 : M33 9 = 0 := by decide
  have r1 : (0) * a + (1) * b + (0) * c = b := by omega
  have r2 : (0) * a + (0) * b + (1) * c = c := by omega
  have r3 : (1) * a + (0) * b + (0) * c = a := by omega
  refine ⟨?_, ?_, ?_, ?_, ?_⟩
  · rw [hw, hx, hy, hz, m11, m12, m13]; omega
  · rw [hw, hx, hy, hz, m21, m22, m23]; omega
  · rw [hw, hx, hy, hz, m31, m32, m33]; omega
  · rw [m11, m12, m13, m21, m22, m23, m31, m32, m33, r1, r2, r3]
    try simp only [Int.neg_mul_neg]
    try omega
  · intro B h1 h2 h3; rw [m11, m12, m13, m21, m22, m23, m31, m32, m33, r1, r2, r3]; omega
theorem rot10 (a b c : Int) : RotOK 10 a b c := by
  have hw : HW 10 = (-1) := by decide
  have hx : HX 10 = 1 := by decide
  have hy : HY 10 = (-1) := by decide
  have hz : HZ 10 = (-1) := by decide
  have m11 : M11 10 = 0 := by decide
  have m12 : M12 10 = (-1) := by decide
  have m13 : M13 10 = 0 := by decide
  have m21 : M21 10 = 0 := by decide
  have m22 : M22 10 = 0 := by decide
  have m23 : M23 10 = 1 := by decide
  have m31 : M31 10 = (-1) := by decide
  have m32 : M32 10 = 0 := by decide
  have m33 : M33 10 = 0 := by decide
  have r1 : (0) * a + (-1) * b + (0) * c = (-b) := by omega
  have r2 : (0) * a + (0) * b + (1) * c = c := by omega
  have r3 : (-1) * a + (0) * b + (0) * c = (-a) := by omega
  refine ⟨?_, ?_, ?_, ?_, ?_⟩
  · rw [hw, hx, hy, hz, m11, m12, m13]; omega
  · rw [hw, hx, hy, hz, m21, m22, m23]; omega
  · rw [hw, hx, hy, hz, m31, m32, m33]; omega
  · rw [m11, m12, m13, m21, m22, m23, m31, m32, m33, r1, r2, r3]
    try simp only [Int.neg_mul_neg]
    try omega
  · intro B h1 h2 h3; rw [m11, m12, m13, m21, m22, m23, m31, m32, m33, r1, r2, r3]; omega
theorem rot11 (a b c : Int) : RotOK 11 a b c := by
  have hw : HW 11 = 1 := by decide
  have hx : HX 11 = 1 := by decide
  have hy : HY 11 = (-1) := by decide
  have hz : HZ 11 = (-1) := by decide
  have m11 : M11 11 = 0 := by decide
  have m12 : M12 11 = 0 := by decide
  have m13 : M13 11 = (-1) := by decide
  have m21 : M21 11 = (-1) := by decide
  have m22 : M22 11 = 0 := by decide
  have m23 : M23 11 = 0 := by decide
  have m31 : M31 11 = 0 := by decide
  have m32 : M32 11 = 1 := by decide
  have m33 : M33 11 = 0 := by decide
  have r1 : (0) * a + (0) * b + (-1) * c = (-c) := by omega
  have r2 : (-1) * a + (0) * b + (0) * c = (-a) := by omega
  have r3 : (0) * a + (1) * b + (0) * c = b := by omega
  refine ⟨?_, ?_, ?_, ?_, ?_⟩
  · rw [hw, hx, hy, hz, m11, m12, m13]; omega
  · rw [hw, hx, hy, hz, m21, m22, m23]; omega
  · rw [hw, hx, hy, hz, m31, m32, m33]; omega
  · rw [m11, m12, m13, m21, m22, m23, m31, m32, m33, r1, r2, r3]
    try simp only [Int.neg_mul_neg]
    try omega
  · intro B h1 h2 h3; rw [m11, m12, m13, m21, m22, m23, m31, m32, m33, r1, r2, r3]; omega
theorem rot12 (a b c : Int) : RotOK 12 a b c := by
  have hw : HW 12 = (-1) := by decide
  have hx : HX 12 = (-1) := by decide
  have hy : HY 12 = 1 := by decide
  have hz : HZ 12 = (-1) := by decide
  have m11 : M11 12 = 0 := by decide
  have m12 : M12 12 = (-1) := by decide
  have m13 : M13 12 = 0 := by decide
  have m21 : M21 12 = 0 := by decide
  have m22 : M22 12 = 0 := by decide
  have m23 : M23 12 = (-1) := by decide
  have m31 : M31 12 = 1 := by decide
  have m32 : M32 12 = 0 := by decide
  have m33 : M33 12 = 0 := by decide
  have r1 : (0) * a + (-1) * b + (0) * c = (-b) := by omega
  have r2 : (0) * a + (0) * b + (-1) * c = (-c) := by omega
  have r3 : (1) * a + (0) * b + (0) * c = a := by omega
  refine ⟨?_, ?_, ?_, ?_, ?_⟩
  · rw [hw, hx, hy, hz, m11, m12, m13]; omega
  · rw [hw, hx, hy, hz, m21, m22, m23]; omega
  · rw [hw, hx, hy, hz, m31, m32, m33]; omega
  · rw [m11, m12, m13, m21, m22, m23, m31, m32, m33, r1, r2, r3]
    try simp only [Int.neg_mul_neg]
    try omega
  · intro B h1 h2 h3; rw [m11, m12, m13, m21, m22, m23, m31, m32, m33, r1, r2, r3]; omega
theorem rot13 (a b c : Int) : RotOK 13 a b c := by
  have hw : HW 13 = 1 := by decide
  have hx : HX 13 = (-1) := by decide
  have hy : HY 13 = 1 := by decide
  have hz : HZ 13 = (-1) := by decide
  have m11 : M11 13 = 0 := by decide
  have m12 : M12 13 = 0 := by decide
  have m13 : M13 13 = 1 := by decide
  have m21 : M21 13 = (-1) := by decide
  have m22 : M22 13 = 0 := by decide
  have m23 : M23 13 = 0 := by decide
  have m31 : M31 13 = 0 := by decide
  have m32 : M32 13 = (-1) := by decide
  have m33 : M33 13 = 0 := by decide
  have r1 : (0) * a + (0) * b + (1) * c = c := by omega
  have r2 : (-1) * a + (0) * b + (0) * c = (-a) := by omega
  have r3 : (0) * a + (-1) * b + (0) * c = (-b) := by omega
  refine ⟨?_, ?_, ?_, ?_, ?_⟩
  · rw [hw, hx, hy, hz, m11, m12, m13]; omega
  · rw [hw, hx, hy, hz, m21, m22, m23]; omega
  · rw [hw, hx, hy, hz, m31, m32, m33]; omega
  · rw [m11, m12, m13, m21, m22, m23, m31, m32, m33, r1, r2, r3]
    try simp only [Int.neg_mul_neg]
    try omega
  · intro B h1 h2 h3; rw [m11, m12, m13, m21, m22, m23, m31, m32, m33, r1, r2, r3]; omega
theorem rot14 (a b c : Int) : RotOK 14 a b c := by
  have hw : HW 14 = (-1) := by decide
  have hx : HX 14 = 1 := by decide
  have hy : HY 14 = 1 := by decide
  have hz : HZ 14 = (-1) := by decide
  have m11 : M11 14 = 0 := by decide
  have m12 : M12 14 = 0 := by decide
  have m13 : M13 14 = (-1) := by decide
  have m21 : M21 14 = 1 := by decide
  have m22 : M22 14 = 0 := by decide
  have m23 : M23 14 = 0 := by decide
  have m31 : M31 14 = 0 := by decide
  have m32 : M32 14 = (-1) := by decide
  have m33 : M33 14 = 0 := by decide
  have r1 : (0) * a + (0) * b + (-1) * c = (-c) := by omega
  have r2 : (1) * a + (0) * b + (0) * c = a := by omega
  have r3 : (0) * a + (-1) * b + (0) * c = (-b) := by omega
  refine ⟨?_, ?_, ?_, ?_, ?_⟩
  · rw [hw, hx, hy, hz, m11, m12, m13]; omega
  · rw [hw, hx, hy, hz, m21, m22, m23]; omega
  · rw [hw, hx, hy, hz, m31, m32, m33]; omega
  · rw [m11, m12, m13, m21, m22, m23, m31, m32, m33, r1, r2, r3]
    try simp only [Int.neg_mul_neg]
    try omega
  · intro B h1 h2 h3; rw [m11, m12, m13, m21, m22, m23, m31, m32, m33, r1, r2, r3]; omega
theorem rot15 (a b c : Int) : RotOK 15 a b c := by
  have hw : HW 15 = 1 := by decide
  have hx : HX 15 = 1 := by decide
  have hy : HY 15 = 1 := by decide
  have hz : HZ 15 = (-1) := by decide
  have m11 : M11 15 = 0 := by decide
  have m12 : M12 15 = 1 := by decide
  have m13 : M13 15 = 0 := by decide
  have m21 : M21 15 = 0 := by decide
  have m22 : M22 15 = 0 := by decide
  have m23 : M23 15 = (-1) := by decide
  have m31 : M31 15 = (-1) := by decide
  have m32 : M32 15 = 0 := by decide
  have m33 : M33 15 = 0 := by decide
  have r1 : (0) * a + (1) * b + (0) * c = b := by omega
  have r2 : (0) * a + (0) * b + (-1) * c = (-c) := by omega
  have r3 : (-1) * a + (0) * b + (0) * c = (-a) := by omega
  refine ⟨?_, ?_, ?_, ?_, ?_⟩
  · rw [hw, hx, hy, hz, m11, m12, m13]; omega
  · rw [hw, hx, hy, hz, m21, m22, m23]; omega
  · rw [hw, hx, hy, hz, m31, m32, m33]; omega
  · rw [m11, m12, m13, m21, m22, m23, m31, m32, m33, r1, r2, r3]
    try simp only [Int.neg_mul_neg]
    try omega
  · intro B h1 h2 h3; rw [m11, m12, m13, m21, m22, m23, m31, m32, m33, r1, r2, r3]; omega
theorem rot16 (a b c : Int) : RotOK 16 a b c := by
  have hw : HW 16 = (-1) := by decide
  have hx : HX 16 = (-1) := by decide
  have hy : HY 16 = (-1) := by decide
  have hz : HZ 16 = 1 := by decide
  have m11 : M11 16 = 0 := by decide
  have m12 : M12 16 = 1 := by decide
  have m13 : M13 16 = 0 := by decide
  have m21 : M21 16 = 0 := by decide
  have m22 : M22 16 = 0 := by decide
  have m23 : M23 16 = (-1) := by decide
  have m31 : M31 16 = (-1) := by decide
  have m32 : M32 16 = 0 := by decide
  have m33 : M33 16 = 0 := by decide
  have r1 : (0) * a + (1) * b + (0) * c = b := by omega
  have r2 : (0) * a + (0) * b + (-1) * c = (-c) := by omega
  have r3 : (-1) * a + (0) * b + (0) * c = (-a) := by omega
  refine ⟨?_, ?_, ?_, ?_, ?_⟩
  · rw [hw, hx, hy, hz, m11, m12, m13]; omega
  · rw [hw, hx, hy, hz, m21, m22, m23]; omega
  · rw [hw, hx, hy, hz, m31, m32, m33]; omega
  · rw [m11, m12, m13, m21, m22, m23, m31, m32, m33, r1, r2, r3]
    try simp only [Int.neg_mul_neg]
    try omega
  · intro B h1 h2 h3; rw [m11, m12, m13, m21, m22, m23, m31, m32, m33, r1, r2, r3]; omega
theorem rot17 (a b c : Int) : RotOK 17 a b c := by
  have hw : HW 17 = 1 := by decide
  have hx : HX 17 = (-1) := by decide
  have hy : HY 17 = (-1) := by decide
  have hz : HZ 17 = 1 := by decide
  have m11 : M11 17 = 0 := by decide
  have m12 : M12 17 = 0 := by decide
  have m13 : M13 17 = (-1) := by decide
  have m21 : M21 17 = 1 := by decide
  have m22 : M22 17 = 0 := by decide
  have m23 : M23 17 = 0 := by decide
  have m31 : M31 17 = 0 := by decide
  have m32 : M32 17 = (-1) := by decide
  have m33 : M33 17 = 0 := by decide
  have r1 : (0) * a + (0) * b + (-1) * c = (-c) := by omega
  have r2 : (1) * a + (0) * b + (0) * c = a := by omega
  have r3 : (0) * a + (-1) * b + (0) * c = (-b) := by omega
  refine ⟨?_, ?_, ?_, ?_, ?_⟩
  · rw [hw, hx, hy, hz, m11, m12, m13]; omega
  · rw [hw, hx, hy, hz, m21, m22, m23]; omega
  · rw [hw, hx, hy, hz, m31, m32, m33]; omega
  · rw [m11, m12, m13, m21, m22, m23, m31, m32, m33, r1, r2, r3]
    try simp only [Int.neg_mul_neg]
    try omega
  · intro B h1 h2 h3; rw [m11, m12, m13, m21, m22, m23, m31, m32, m33, r1, r2, r3]; omega
theorem rot18 (a b c : Int) : RotOK 18 a b c := by
  have hw : HW 18 = (-1) := by decide
  have hx : HX 18 = 1 := by decide
  have hy : HY 18 = (-1) := by decide
  have hz : HZ 18 = 1 := by decide
  have m11 : M11 18 = 0 := by decide
  have m12 : M12 18 = 0 := by decide
  have m13 : M13 18 = 1 := by decide
  have m21 : M21 18 = (-1) := by decide
  have m22 : M22 18 = 0 := by decide
  have m23 : M23 18 = 0 := by decide
  have m31 : M31 18 = 0 := by decide
  have m32 : M32 18 = (-1) := by decide
  have m33 : M33 18 = 0 := by decide
  have r1 : (0) * a + (0) * b + (1) * c = c := by omega
  have r2 : (-1) * a + (0) * b + (0) * c = (-a) := by omega
  have r3 : (0) * a + (-1) * b + (0) * c = (-b) := by omega
  refine ⟨?_, ?_, ?_, ?_, ?_⟩
  · rw [hw, hx, hy, hz, m11, m12, m13]; omega
  · rw [hw, hx, hy, hz, m21, m22, m23]; omega
  · rw [hw, hx, hy, hz, m31, m32, m33]; omega
  · rw [m11, m12, m13, m21, m22, m23, m31, m32, m33, r1, r2, r3]
    try simp only [Int.neg_mul_neg]
    try omega
  · intro B h1 h2 h3; rw [m11, m12, m13, m21, m22, m23, m31, m32, m33, r1, r2, r3]; omega
theorem rot19 (a b c : Int) : RotOK 19 a b c := by
  have hw : HW 19 = 1 := by decide
  have hx : HX 19 = 1 := by decide
  have hy : HY 19 = (-1) := by decide
  have hz : HZ 19 = 1 := by decide
  have m11 : M11 19 = 0 := by decide
  have m12 : M12 19 = (-1) := by decide
  have m13 : M13 19 = 0 := by decide
  have m21 : M21 19 = 0 := by decide
  have m22 : M22 19 = 0 := by decide
  have m23 : M23 19 = (-1) := by decide
  have m31 : M31 19 = 1 := by decide
  have m32 : M32 19 = 0 := by decide
  have m33 : M33 19 = 0 := by decide
  have r1 : (0) * a + (-1) * b + (0) * c = (-b) := by omega
  have r2 : (0) * a + (0) * b + (-1) * c = (-c) := by omega
  have r3 : (1) * a + (0) * b + (0) * c = a := by omega
  refine ⟨?_, ?_, ?_, ?_, ?_⟩
  · rw [hw, hx, hy, hz, m11, m12, m13]; omega
  · rw [hw, hx, hy, hz, m21, m22, m23]; omega
  · rw [hw, hx, hy, hz, m31, m32, m33]; omega
  · rw [m11, m12, m13, m21, m22, m23, m31, m32, m33, r1, r2, r3]
    try simp only [Int.neg_mul_neg]
    try omega
  · intro B h1 h2 h3; rw [m11, m12, m13, m21, m22, m23, m31, m32, m33, r1, r2, r3]; omega
theorem rot20 (a b c : Int) : RotOK 20 a b c := by
  have hw : HW 20 = (-1) := by decide
  have hx : HX 20 = (-1) := by decide
  have hy : HY 20 = 1 := by decide
  have hz : HZ 20 = 1 := by decide
  have m11 : M11 20 = 0 := by decide
  have m12 : M12 20 = 0 := by decide
  have m13 : M13 20 = (-1) := by decide
  have m21 : M21 20 = (-1) := by decide
  have m22 : M22 20 = 0 := by decide
  have m23 : M23 20 = 0 := by decide
  have m31 : M31 20 = 0 := by decide
  have m32 : M32 20 = 1 := by decide
  have m33 : M33 20 = 0 := by decide
  have r1 : (0) * a + (0) * b + (-1) * c = (-c) := by omega
  have r2 : (-1) * a + (0) * b + (0) * c = (-a) := by omega
  have r3 : (0) * a + (1) * b + (0) * c = b := by omega
  refine ⟨?_, ?_, ?_, ?_, ?_⟩
  · rw [hw, hx, hy, hz, m11, m12, m13]; omega
  · rw [hw, hx, hy, hz, m21, m22, m23]; omega
  · rw [hw, hx, hy, hz, m31, m32, m33]; omega
  · rw [m11, m12, m13, m21, m22, m23, m31, m32, m33, r1, r2, r3]
    try simp only [Int.neg_mul_neg]
    try omega
  · intro B h1 h2 h3; rw [m11, m12, m13, m21, m22, m23, m31, m32, m33, r1, r2, r3]; omega
theorem rot21 (a b c : Int) : RotOK 21 a b c := by
  have hw : HW 21 = 1 := by decide
  have hx : HX 21 = (-1) := by decide
  have hy : HY 21 = 1 := by decide
  have hz : HZ 21 = 1 := by decide
  have m11 : M11 21 = 0 := by decide
  have m12 : M12 21 = (-1) := by decide
  have m13 : M13 21 = 0 := by decide
  have m21 : M21 21 = 0 := by decide
  have m22 : M22 21 = 0 := by decide
  have m23 : M23 21 = 1 := by decide
  have m31 : M31 21 = (-1) := by decide
  have m32 : M32 21 = 0 := by decide
  have m33 : M33 21 = 0 := by decide
  have r1 : (0) * a + (-1) * b + (0) * c = (-b) := by omega
  have r2 : (0) * a + (0) * b + (1) * c = c := by omega
  have r3 : (-1) * a + (0) * b + (0) * c = (-a) := by omega
  refine ⟨?_, ?_, ?_, ?_, ?_⟩
  · rw [hw, hx, hy, hz, m11, m12, m13]; omega
  · rw [hw, hx, hy, hz, m21, m22, m23]; omega
  · rw [hw, hx, hy, hz, m31, m32, m33]; omega
  · rw [m11, m12, m13, m21, m22, m23, m31, m32, m33, r1, r2, r3]
    try simp only [Int.neg_mul_neg]
    try omega
  · intro B h1 h2 h3; rw [m11, m12, m13, m21, m22, m23, m31, m32, m33, r1, r2, r3]; omega
theorem rot22 (a b c : Int) : RotOK 22 a b c := by
  have hw : HW 22 = (-1) := by decide
  have hx : HX 22 = 1 := by decide
  have hy : HY 22 = 1 := by decide
  have hz : HZ 22 = 1 := by decide
  have m11 : M11 22 = 0 := by decide
  have m12 : M12 22 = 1 := by decide
  have m13 : M13 22 = 0 := by decide
  have m21 : M21 22 = 0 := by decide
  have m22 : M22 22 = 0 := by decide
  have m23 : M23 22 = 1 := by decide
  have m31 : M31 22 = 1 := by decide
  have m32 : M32 22 = 0 := by decide
  have m33 : M33 22 = 0 := by decide
  have r1 : (0) * a + (1) * b + (0) * c = b := by omega
  have r2 : (0) * a + (0) * b + (1) * c = c := by omega
  have r3 : (1) * a + (0) * b + (0) * c = a := by omega
  refine ⟨?_, ?_, ?_, ?_, ?_⟩
  · rw [hw, hx, hy, hz, m11, m12, m13]; omega
  · rw [hw, hx, hy, hz, m21, m22, m23]; omega
  · rw [hw, hx, hy, hz, m31, m32, m33]; omega
  · rw [m11, m12, m13, m21, m22, m23, m31, m32, m33, r1, r2, r3]
    try simp only [Int.neg_mul_neg]
    try omega
  · intro B h1 h2 h3; rw [m11, m12, m13, m21, m22, m23, m31, m32, m33, r1, r2, r3]; omega
theorem rot23 (a b c : Int) : RotOK 23 a b c := by
  have hw : HW 23 = 1 := by decide
  have hx : HX 23 = 1 := by decide
  have hy : HY 23 = 1 := by decide
  have hz : HZ 23 = 1 := by decide
  have m11 : M11 23 = 0 := by decide
  have m12 : M12 23 = 0 := by decide
  have m13 : M13 23 = 1 := by decide
  have m21 : M21 23 = 1 := by decide
  have m22 : M22 23 = 0 := by decide
  have m23 : M23 23 = 0 := by decide
  have m31 : M31 23 = 0 := by decide
  have m32 : M32 23 = 1 := by decide
  have m33 : M33 23 = 0 := by decide
  have r1 : (0) * a + (0) * b + (1) * c = c := by omega
  have r2 : (1) * a + (0) * b + (0) * c = a := by omega
  have r3 : (0) * a + (1) * b + (0) * c = b := by omega
  refine ⟨?_, ?_, ?_, ?_, ?_⟩
  · rw [hw, hx, hy, hz, m11, m12, m13]; omega
  · rw [hw, hx, hy, hz, m21, m22, m23]; omega
  · rw [hw, hx, hy, hz, m31, m32, m33]; omega
  · rw [m11, m12, m13, m21, m22, m23, m31, m32, m33, r1, r2, r3]
    try simp only [Int.neg_mul_neg]
    try omega
  · intro B h1 h2 h3; rw [m11, m12, m13, m21, m22, m23, m31, m32, m33, r1, r2, r3]; omega
theorem rot_ok {k : Nat} (hk : k < 24) (a b c : Int) : RotOK k a b c := by
  match k, hk with
  | 0, _ => exact rot0 a b c
  | 1, _ => exact rot1 a b c
  | 2, _ => exact rot2 a b c
  | 3, _ => exact rot3 a b c
  | 4, _ => exact rot4 a b c
  | 5, _ => exact rot5 a b c
  | 6, _ => exact rot6 a b c
  | 7, _ => exact rot7 a b c
  | 8, _ => exact rot8 a b c
  | 9, _ => exact rot9 a b c
  | 10, _ => exact rot10 a b c
  | 11, _ => exact rot11 a b c
  | 12, _ => exact rot12 a b c
  | 13, _ => exact rot13 a b c
  | 14, _ => exact rot14 a b c
  | 15, _ => exact rot15 a b c
  | 16, _ => exact rot16 a b c
  | 17, _ => exact rot17 a b c
  | 18, _ => exact rot18 a b c
  | 19, _ => exact rot19 a b c
  | 20, _ => exact rot20 a b c
  | 21, _ => exact rot21 a b c
  | 22, _ => exact rot22 a b c
  | 23, _ => exact rot23 a b c
  | q + 24, h => exact absurd h (by omega)

/-! Vectors. -/
/-- A vector of integers, none above B. -/
structure Vb (B : Nat) (q : V3) (v : Vector) : Prop where
  x : Db 0 B q.1 v.X
  y : Db 0 B q.2.1 v.Y
  z : Db 0 B q.2.2 v.Z
def addV (a b : V3) : V3 := (a.1 + b.1, a.2.1 + b.2.1, a.2.2 + b.2.2)
def subV (a b : V3) : V3 := (a.1 - b.1, a.2.1 - b.2.1, a.2.2 - b.2.2)
def mirV (a : V3) : V3 := (-a.1, a.2.1, a.2.2)
def sqV (a : V3) : Int := a.1 * a.1 + a.2.1 * a.2.1 + a.2.2 * a.2.2
theorem Vb.mono {B C : Nat} {q : V3} {v : Vector} (h : Vb B q v) (hb : B ≤ C) : Vb C q v := ⟨h.x.mono hb, h.y.mono hb, h.z.mono hb⟩
def rotF (t : Turn) (v : Vector) : Vector :=
  let cx := ((t.Y.mul v.Z).sub (t.Z.mul v.Y)).mul (Fl.mk (k := .f32) 1073741824 (by decide))
  let cy := ((t.Z.mul v.X).sub (t.X.mul v.Z)).mul (Fl.mk (k := .f32) 1073741824 (by decide))
  let cz := ((t.X.mul v.Y).sub (t.Y.mul v.X)).mul (Fl.mk (k := .f32) 1073741824 (by decide))
  Vector.mk ((v.X.add (cx.mul t.W)).add ((t.Y.mul cz).sub (t.Z.mul cy))) ((v.Y.add (cy.mul t.W)).add ((t.Z.mul cx).sub (t.X.mul cz))) ((v.Z.add (cz.mul t.W)).add ((t.X.mul cy).sub (t.Y.mul cx)))
theorem rot_eq (K : Nat) (t : Turn) (v : Vector) : impl_RotateBy K t v = some (rotF t v) := rfl
theorem two_db : Db 0 2 2 (Fl.mk (k := .f32) 1073741824 (by decide)) := by
  have e : Ieee.single.read (Fl.mk (k := .f32) 1073741824 (by decide)).bits = .number false 8388608 (-22) := by decide
  exact ⟨⟨false, 8388608, -22, e, 0, 22, by omega, by decide⟩, by decide⟩
theorem Un.rot {k B : Nat} {t : Turn} {v : Vector} {q : V3} (hk : k < 24) (ht : Un k t) (hv : Vb B q v) (hB : B ≤ 1000) : Vb B (rotI k q) (rotF t v) := by
  have r := rot_ok hk q.1 q.2.1 q.2.2
  have bd := r.bd B hv.x.2 hv.y.2 hv.z.2
  have cx := ((ht.y.mul hv.z (by omega) (by decide)).sub (ht.z.mul hv.y (by omega) (by decide)) (by omega) (by decide)).mul two_db (by omega) (by decide)
  have cy := ((ht.z.mul hv.x (by omega) (by decide)).sub (ht.x.mul hv.z (by omega) (by decide)) (by omega) (by decide)).mul two_db (by omega) (by decide)
  have cz := ((ht.x.mul hv.y (by omega) (by decide)).sub (ht.y.mul hv.x (by omega) (by decide)) (by omega) (by decide)).mul two_db (by omega) (by decide)
  have dx := (((hv.x.up 2).add (cx.mul ht.w (by omega) (by decide)) (by omega) (by decide)).add ((ht.y.mul cz (by omega) (by decide)).sub (ht.z.mul cy (by omega) (by decide)) (by omega) (by decide)) (by omega) (by decide)).1
  have dy := (((hv.y.up 2).add (cy.mul ht.w (by omega) (by decide)) (by omega) (by decide)).add ((ht.z.mul cx (by omega) (by decide)).sub (ht.x.mul cz (by omega) (by decide)) (by omega) (by decide)) (by omega) (by decide)).1
  have dz := (((hv.z.up 2).add (cz.mul ht.w (by omega) (by decide)) (by omega) (by decide)).add ((ht.x.mul cy (by omega) (by decide)).sub (ht.y.mul cx (by omega) (by decide)) (by omega) (by decide)) (by omega) (by decide)).1
  have four : ∀ n : Int, n * 2 ^ 2 = n * 4 := fun n => by rw [show (2 : Int) ^ 2 = 4 from rfl]
  rw [four, r.x] at dx
  rw [four, r.y] at dy
  rw [four, r.z] at dz
  exact ⟨⟨dx.down.down, bd.1⟩, ⟨dy.down.down, bd.2.1⟩, ⟨dz.down.down, bd.2.2⟩⟩
theorem rot_sq {k : Nat} (hk : k < 24) (q : V3) : sqV (rotI k q) = sqV q := (rot_ok hk q.1 q.2.1 q.2.2).sq
theorem Vb.add {B C : Nat} {p q : V3} {u v : Vector} (hu : Vb B p u) (hv : Vb C q v) (h : B + C < 16777216) : Vb (B + C) (addV p q) (Vector.mk (u.X.add v.X) (u.Y.add v.Y) (u.Z.add v.Z)) :=
  ⟨hu.x.add hv.x h (by decide), hu.y.add hv.y h (by decide), hu.z.add hv.z h (by decide)⟩
theorem Vb.sub {B C : Nat} {p q : V3} {u v : Vector} (hu : Vb B p u) (hv : Vb C q v) (h : B + C < 16777216) : Vb (B + C) (subV p q) (Vector.mk (u.X.sub v.X) (u.Y.sub v.Y) (u.Z.sub v.Z)) :=
  ⟨hu.x.sub hv.x h (by decide), hu.y.sub hv.y h (by decide), hu.z.sub hv.z h (by decide)⟩
theorem Vb.mir {B : Nat} {p : V3} {u : Vector} (hu : Vb B p u) : Vb B (mirV p) (Vector.mk u.X.neg u.Y u.Z) := ⟨hu.x.neg, hu.y, hu.z⟩
theorem Vb.eq {B C : Nat} {q : V3} {u v : Vector} (hu : Vb B q u) (hv : Vb C q v) : u.X.eq v.X = true ∧ u.Y.eq v.Y = true ∧ u.Z.eq v.Z = true := by
  refine ⟨?_, ?_, ?_⟩
  · rw [hu.x.1.eq hv.x.1, decide_eq_true rfl]
  · rw [hu.y.1.eq hv.y.1, decide_eq_true rfl]
  · rw [hu.z.1.eq hv.z.1, decide_eq_true rfl]
def sqrF (v : Vector) : F32 := ((v.X.mul v.X).add (v.Y.mul v.Y)).add (v.Z.mul v.Z)
theorem Vb.sq {B : Nat} {q : V3} {v : Vector} (hv : Vb B q v) (hB : B ≤ 1000) : Dy 0 (sqV q) (sqrF v) := by
  have h2 : B * B ≤ 1000 * 1000 := Nat.mul_le_mul hB hB
  exact (((hv.x.mul hv.x (by omega) (by decide)).add (hv.y.mul hv.y (by omega) (by decide)) (by omega) (by decide)).add (hv.z.mul hv.z (by omega) (by decide)) (by omega) (by decide)).1
theorem iv_root {x y : Int} (hx : -4 ≤ x ∧ x ≤ 4) (hy : -4 ≤ y ∧ y ≤ 4) : Vb 4 (x, y, 0) (Vector.mk (Fl.ofInt .f32 x) (Fl.ofInt .f32 y) default) :=
  ⟨(⟨Dy.ofInt (by omega), by omega⟩ : Db 0 4 x (Fl.ofInt .f32 x)), (⟨Dy.ofInt (by omega), by omega⟩ : Db 0 4 y (Fl.ofInt .f32 y)), (⟨(Dz.of_zero (x := (default : F32)) rfl 0).1, by decide⟩ : Db 0 4 0 (default : F32))⟩
theorem veq_of {K : Nat} {u v : Vector} (h : u.X.eq v.X = true ∧ u.Y.eq v.Y = true ∧ u.Z.eq v.Z = true) : laws_b10VEqual K u v = some true := by
  unfold laws_b10VEqual
  rw [h.1, h.2.1, h.2.2]; rfl

end Go.Fw
