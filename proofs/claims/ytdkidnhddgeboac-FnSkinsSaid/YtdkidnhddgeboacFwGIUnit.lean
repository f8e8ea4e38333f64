/- Turns whose numbers are halves: they are 24, and their products are among them. (A template.) -/
import Derived.Test.YtdkidnhddgeboacFwGISrcLaw
import Derived.Test.YtdkidnhddgeboacFwFD
import Derived.KernelRfl
namespace Go.Fw
open Go

/-! Exact numbers with bounds. -/
theorem Dy.down {k : Nat} {n : Int} {x : F32} (h : Dy (k + 1) (2 * n) x) : Dy k n x := by
  obtain ⟨s, m, i, e, a, b, h1, h2⟩ := h
  refine ⟨s, m, i, e, a, b + 1, by omega, ?_⟩
  rw [h2, Int.pow_succ]; ac_rfl
/-- Exact, and not above B. -/
def Db (k B : Nat) (n : Int) (x : F32) : Prop := Dy k n x ∧ n.natAbs ≤ B
theorem Db.mul {k l B C : Nat} {a b : Int} {x y : F32} (hx : Db k B a x) (hy : Db l C b y) (hn : B * C < 16777216) (hk : k + l ≤ 149) : Db (k + l) (B * C) (a * b) (x.mul y) := by
  have h : (a * b).natAbs ≤ B * C := by rw [Int.natAbs_mul]; exact Nat.mul_le_mul hx.2 hy.2
  exact ⟨hx.1.mul hy.1 (by omega) hk, h⟩
theorem Db.add {k B C : Nat} {a b : Int} {x y : F32} (hx : Db k B a x) (hy : Db k C b y) (hn : B + C < 16777216) (hk : k ≤ 149) : Db k (B + C) (a + b) (x.add y) := by
  have h1 := hx.2; have h2 := hy.2
  exact ⟨hx.1.add hy.1 (by omega) hk, by omega⟩
theorem Db.sub {k B C : Nat} {a b : Int} {x y : F32} (hx : Db k B a x) (hy : Db k C b y) (hn : B + C < 16777216) (hk : k ≤ 149) : Db k (B + C) (a - b) (x.sub y) := by
  have h1 := hx.2; have h2 := hy.2
  exact ⟨hx.1.sub hy.1 (by omega) hk, by omega⟩
theorem Db.neg {k B : Nat} {a : Int} {x : F32} (hx : Db k B a x) : Db k B (-a) x.neg := ⟨hx.1.neg, by have := hx.2; omega⟩
theorem Db.mono {k B C : Nat} {a : Int} {x : F32} (hx : Db k B a x) (h : B ≤ C) : Db k C a x := ⟨hx.1, Nat.le_trans hx.2 h⟩

/-! The 24 turns. -/
def HW (i : Nat) : Int := if i < 8 then (if i = 0 then 2 else if i = 4 then -2 else 0) else if (i - 8) % 2 = 1 then 1 else -1
def HX (i : Nat) : Int := if i < 8 then (if i = 1 then 2 else if i = 5 then -2 else 0) else if (i - 8) / 2 % 2 = 1 then 1 else -1
def HY (i : Nat) : Int := if i < 8 then (if i = 2 then 2 else if i = 6 then -2 else 0) else if (i - 8) / 4 % 2 = 1 then 1 else -1
def HZ (i : Nat) : Int := if i < 8 then (if i = 3 then 2 else if i = 7 then -2 else 0) else if (i - 8) / 8 % 2 = 1 then 1 else -1
theorem H_le (i : Nat) : (HW i).natAbs ≤ 2 ∧ (HX i).natAbs ≤ 2 ∧ (HY i).natAbs ≤ 2 ∧ (HZ i).natAbs ≤ 2 := by
  unfold HW HX HY HZ
  refine ⟨?_, ?_, ?_, ?_⟩ <;> split <;> (try split) <;> (try split) <;> decide
/-- A number in halves. -/
def hf (n : Int) : F32 := if n = 2 then Fl.mk (k := .f32) 1065353216 (by decide) else if n = 1 then Fl.mk (k := .f32) 1056964608 (by decide) else if n = -1 then Fl.mk (k := .f32) 3204448256 (by decide) else if n = -2 then Fl.mk (k := .f32) 3212836864 (by decide) else Fl.mk (k := .f32) 0 (by decide)
theorem hf_dz {n : Int} (h : n.natAbs ≤ 2) : Dz 1 n (hf n) := by
  have hn : n = 2 ∨ n = 1 ∨ n = 0 ∨ n = -1 ∨ n = -2 := by omega
  rcases hn with rfl | rfl | rfl | rfl | rfl
  · have e : Ieee.single.read (hf 2).bits = .number false 8388608 (-23) := by decide +kernel
    exact Dy.nz ⟨false, 8388608, -23, e, 0, 22, by omega, by decide⟩ (by decide)
  · have e : Ieee.single.read (hf 1).bits = .number false 8388608 (-24) := by decide +kernel
    exact Dy.nz ⟨false, 8388608, -24, e, 0, 23, by omega, by decide⟩ (by decide)
  · exact Dz.of_zero rfl 1
  · have e : Ieee.single.read (hf (-1)).bits = .number true 8388608 (-24) := by decide +kernel
    exact Dy.nz ⟨true, 8388608, -24, e, 0, 23, by omega, by decide⟩ (by decide)
  · have e : Ieee.single.read (hf (-2)).bits = .number true 8388608 (-23) := by decide +kernel
    exact Dy.nz ⟨true, 8388608, -23, e, 0, 22, by omega, by decide⟩ (by decide)
/-- One of the turns. -/
def uT (i : Nat) : Turn := Turn.mk (hf (HW i)) (hf (HX i)) (hf (HY i)) (hf (HZ i))
/-- The numbers of the turn i, whatever signs the zeros have. -/
structure Un (i : Nat) (t : Turn) : Prop where
  w : Db 1 2 (HW i) t.W
  x : Db 1 2 (HX i) t.X
  y : Db 1 2 (HY i) t.Y
  z : Db 1 2 (HZ i) t.Z
theorem uT_un (i : Nat) : Un i (uT i) := by
  obtain ⟨h1, h2, h3, h4⟩ := H_le i
  exact ⟨⟨(hf_dz h1).1, h1⟩, ⟨(hf_dz h2).1, h2⟩, ⟨(hf_dz h3).1, h3⟩, ⟨(hf_dz h4).1, h4⟩⟩
/-- What is made of the number that is drawn. -/
def drawX (v1 : Int × Int × Int) : Option (Turn × Int × Int) := ite2 ((decide (v1.1 < (8 : Int)))) (ite2 ((decide (v1.1 ≥ (4 : Int)))) (chk ((4 : Int) ≠ 0) (ite2 (((v1.1.tmod (4 : Int)) == (0 : Int))) (some ((Turn.mk (Fl.mk (k := .f32) 3212836864 (by decide)) (default : F32) (default : F32) (default : F32)), v1.2.1, v1.2.2)) (ite2 (((v1.1.tmod (4 : Int)) == (1 : Int))) (some ((Turn.mk (default : F32) (Fl.mk (k := .f32) 3212836864 (by decide)) (default : F32) (default : F32)), v1.2.1, v1.2.2)) (ite2 (((v1.1.tmod (4 : Int)) == (2 : Int))) (some ((Turn.mk (default : F32) (default : F32) (Fl.mk (k := .f32) 3212836864 (by decide)) (default : F32)), v1.2.1, v1.2.2)) (some ((Turn.mk (default : F32) (default : F32) (default : F32) (Fl.mk (k := .f32) 3212836864 (by decide))), v1.2.1, v1.2.2)))))) (chk ((4 : Int) ≠ 0) (ite2 (((v1.1.tmod (4 : Int)) == (0 : Int))) (some ((Turn.mk (Fl.mk (k := .f32) 1065353216 (by decide)) (default : F32) (default : F32) (default : F32)), v1.2.1, v1.2.2)) (ite2 (((v1.1.tmod (4 : Int)) == (1 : Int))) (some ((Turn.mk (default : F32) (Fl.mk (k := .f32) 1065353216 (by decide)) (default : F32) (default : F32)), v1.2.1, v1.2.2)) (ite2 (((v1.1.tmod (4 : Int)) == (2 : Int))) (some ((Turn.mk (default : F32) (default : F32) (Fl.mk (k := .f32) 1065353216 (by decide)) (default : F32)), v1.2.1, v1.2.2)) (some ((Turn.mk (default : F32) (default : F32) (default : F32) (Fl.mk (k := .f32) 1065353216 (by decide))), v1.2.1, v1.2.2))))))) (chk (0 ≤ (1 : Int)) (chk (0 ≤ (2 : Int)) (chk (0 ≤ (3 : Int)) (some ((Turn.mk ((Fl.ofInt .f32 (bits .and .i64 (IntKind.i64.wrap (v1.1 - (8 : Int))) (1 : Int))).sub (Fl.mk (k := .f32) 1056964608 (by decide))) ((Fl.ofInt .f32 (bits .and .i64 ((IntKind.i64.wrap (v1.1 - (8 : Int))).fdiv (2 ^ (min (1 : Int).toNat (IntKind.bits .i64)))) (1 : Int))).sub (Fl.mk (k := .f32) 1056964608 (by decide))) ((Fl.ofInt .f32 (bits .and .i64 ((IntKind.i64.wrap (v1.1 - (8 : Int))).fdiv (2 ^ (min (2 : Int).toNat (IntKind.bits .i64)))) (1 : Int))).sub (Fl.mk (k := .f32) 1056964608 (by decide))) ((Fl.ofInt .f32 (bits .and .i64 ((IntKind.i64.wrap (v1.1 - (8 : Int))).fdiv (2 ^ (min (3 : Int).toNat (IntKind.bits .i64)))) (1 : Int))).sub (Fl.mk (k := .f32) 1056964608 (by decide)))), v1.2.1, v1.2.2)))))
theorem fl0 : (Fl.ofInt .f32 0).sub (Fl.mk (k := .f32) 1056964608 (by decide)) = hf (-1) := by decide +kernel
theorem fl1 : (Fl.ofInt .f32 1).sub (Fl.mk (k := .f32) 1056964608 (by decide)) = hf 1 := by decide +kernel
theorem dx0 (a s : Int) : drawX ((0 : Int), a, s) = some (uT 0, a, s) := by kernel_rfl
theorem dx1 (a s : Int) : drawX ((1 : Int), a, s) = some (uT 1, a, s) := by kernel_rfl
theorem dx2 (a s : Int) : drawX ((2 : Int), a, s) = some (uT 2, a, s) := by kernel_rfl
theorem dx3 (a s : Int) : drawX ((3 : Int), a, s) = some (uT 3, a, s) := by kernel_rfl
theorem dx4 (a s : Int) : drawX ((4 : Int), a, s) = some (uT 4, a, s) := by kernel_rfl
theorem dx5 (a s : Int) : drawX ((5 : Int), a, s) = some (uT 5, a, s) := by kernel_rfl
theorem dx6 (a s : Int) : drawX ((6 : Int), a, s) = some (uT 6, a, s) := by kernel_rfl
theorem dx7 (a s : Int) : drawX ((7 : Int), a, s) = some (uT 7, a, s) := by kernel_rfl
theorem dx8 (a s : Int) : drawX ((8 : Int), a, s) = some (uT 8, a, s) := by
  have e : drawX ((8 : Int), a, s) = some (Turn.mk ((Fl.ofInt .f32 0).sub (Fl.mk (k := .f32) 1056964608 (by decide))) ((Fl.ofInt .f32 0).sub (Fl.mk (k := .f32) 1056964608 (by decide))) ((Fl.ofInt .f32 0).sub (Fl.mk (k := .f32) 1056964608 (by decide))) ((Fl.ofInt .f32 0).sub (Fl.mk (k := .f32) 1056964608 (by decide))), a, s) := by kernel_rfl
  have e2 : some (Turn.mk (hf (-1)) (hf (-1)) (hf (-1)) (hf (-1)), a, s) = some (uT 8, a, s) := by kernel_rfl
  rw [e]
  simp only [fl0]
  exact e2
theorem dx9 (a s : Int) : drawX ((9 : Int), a, s) = some (uT 9, a, s) := by
  have e : drawX ((9 : Int), a, s) = some (Turn.mk ((Fl.ofInt .f32 1).sub (Fl.mk (k := .f32) 1056964608 (by decide))) ((Fl.ofInt .f32 0).sub (Fl.mk (k := .f32) 1056964608 (by decide))) ((Fl.ofInt .f32 0).sub (Fl.mk (k := .f32) 1056964608 (by decide))) ((Fl.ofInt .f32 0).sub (Fl.mk (k := .f32) 1056964608 (by decide))), a, s) := by kernel_rfl
  have e2 : some (Turn.mk (hf (1)) (hf (-1)) (hf (-1)) (hf (-1)), a, s) = some (uT 9, a, s) := by kernel_rfl
  rw [e]
  simp only [fl0, fl1]
  exact e2
theorem dx10 (a s : Int) : drawX ((10 : Int), a, s) = some (uT 10, a, s) := by
  have e : drawX ((10 : Int), a, s) = some (Turn.mk ((Fl.ofInt .f32 0).sub (Fl.mk (k := .f32) 1056964608 (by decide))) ((Fl.ofInt .f32 1).sub (Fl.mk (k := .f32) 1056964608 (by decide))) ((Fl.ofInt .f32 0).sub (Fl.mk (k := .f32) 1056964608 (by decide))) ((Fl.ofInt .f32 0).sub (Fl.mk (k := .f32) 1056964608 (by decide))), a, s) := by kernel_rfl
  have e2 : some (Turn.mk (hf (-1)) (hf (1)) (hf (-1)) (hf (-1)), a, s) = some (uT 10, a, s) := by kernel_rfl
  rw [e]
  simp only [fl0, fl1]
  exact e2
theorem dx11 (a s : Int) : drawX ((11 : Int), a, s) = some (uT 11, a, s) := by
  have e : drawX ((11 : Int), a, s) = some (Turn.mk ((Fl.ofInt .f32 1).sub (Fl.mk (k := .f32) 1056964608 (by decide))) ((Fl.ofInt .f32 1).sub (Fl.mk (k := .f32) 1056964608 (by decide))) ((Fl.ofInt .f32 0).sub (Fl.mk (k := .f32) 1056964608 (by decide))) ((Fl.ofInt .f32 0).sub (Fl.mk (k := .f32) 1056964608 (by decide))), a, s) := by kernel_rfl
  have e2 : some (Turn.mk (hf (1)) (hf (1)) (hf (-1)) (hf (-1)), a, s) = some (uT 11, a, s) := by kernel_rfl
  rw [e]
  simp only [fl0, fl1]
  exact e2
theorem dx12 (a s : Int) : drawX ((12 : Int), a, s) = some (uT 12, a, s) := by
  have e : drawX ((12 : Int), a, s) = some (Turn.mk ((Fl.ofInt .f32 0).sub (Fl.mk (k := .f32) 1056964608 (by decide))) ((Fl.ofInt .f32 0).sub (Fl.mk (k := .f32) 1056964608 (by decide))) ((Fl.ofInt .f32 1).sub (Fl.mk (k := .f32) 1056964608 (by decide))) ((Fl.ofInt .f32 0).sub (Fl.mk (k := .f32) 1056964608 (by decide))), a, s) := by kernel_rfl
  have e2 : some (Turn.mk (hf (-1)) (hf (-1)) (hf (1)) (hf (-1)), a, s) = some (uT 12, a, s) := by kernel_rfl
  rw [e]
  simp only [fl0, fl1]
  exact e2
theorem dx13 (a s : Int) : drawX ((13 : Int), a, s) = some (uT 13, a, s) := by
  have e : drawX ((13 : Int), a, s) = some (Turn.mk ((Fl.ofInt .f32 1).sub (Fl.mk (k := .f32) 1056964608 (by decide))) ((Fl.ofInt .f32 0).sub (Fl.mk (k := .f32) 1056964608 (by decide))) ((Fl.ofInt .f32 1).sub (Fl.mk (k := .f32) 1056964608 (by decide))) ((Fl.ofInt .f32 0).sub (Fl.mk (k := .f32) 1056964608 (by decide))), a, s) := by kernel_rfl
  have e2 : some (Turn.mk (hf (1)) (hf (-1)) (hf (1)) (hf (-1)), a, s) = some (uT 13, a, s) := by kernel_rfl
  rw [e]
  simp only [fl0, fl1]
  exact e2
theorem dx14 (a s : Int) : drawX ((14 : Int), a, s) = some (uT 14, a, s) := by
  have e : drawX ((14 : Int), a, s) = some (Turn.mk ((Fl.ofInt .f32 0).sub (Fl.mk (k := .f32) 1056964608 (by decide))) ((Fl.ofInt .f32 1).sub (Fl.mk (k := .f32) 1056964608 (by decide))) ((Fl.ofInt .f32 1).sub (Fl.mk (k := .f32) 1056964608 (by decide))) ((Fl.ofInt .f32 0).sub (Fl.mk (k := .f32) 1056964608 (by decide))), a, s) := by kernel_rfl
  have e2 : some (Turn.mk (hf (-1)) (hf (1)) (hf (1)) (hf (-1)), a, s) = some (uT 14, a, s) := by kernel_rfl
  rw [e]
  simp only [fl0, fl1]
  exact e2
theorem dx15 (a s : Int) : drawX ((15 : Int), a, s) = some (uT 15, a, s) := by
  have e : drawX ((15 : Int), a, s) = some (Turn.mk ((Fl.ofInt .f32 1).sub (Fl.mk (k := .f32) 1056964608 (by decide))) ((Fl.ofInt .f32 1).sub (Fl.mk (k := .f32) 1056964608 (by decide))) ((Fl.ofInt .f32 1).sub (Fl.mk (k := .f32) 1056964608 (by decide))) ((Fl.ofInt .f32 0).sub (Fl.mk (k := .f32) 1056964608 (by decide))), a, s) := by kernel_rfl
  have e2 : some (Turn.mk (hf (1)) (hf (1)) (hf (1)) (hf (-1)), a, s) = some (uT 15, a, s) := by kernel_rfl
  rw [e]
  simp only [fl0, fl1]
  exact e2
theorem dx16 (a s : Int) : drawX ((16 : Int), a, s) = some (uT 16, a, s) := by
  have e : drawX ((16 : Int), a, s) = some (Turn.mk ((Fl.ofInt .f32 0).sub (Fl.mk (k := .f32) 1056964608 (by decide))) ((Fl.ofInt .f32 0).sub (Fl.mk (k := .f32) 1056964608 (by decide))) ((Fl.ofInt .f32 0).sub (Fl.mk (k := .f32) 1056964608 (by decide))) ((Fl.ofInt .f32 1).sub (Fl.mk (k := .f32) 1056964608 (by decide))), a, s) := by kernel_rfl
  have e2 : some (Turn.mk (hf (-1)) (hf (-1)) (hf (-1)) (hf (1)), a, s) = some (uT 16, a, s) := by kernel_rfl
  rw [e]
  simp only [fl0, fl1]
  exact e2
theorem dx17 (a s : Int) : drawX ((17 : Int), a, s) = some (uT 17, a, s) := by
  have e : drawX ((17 : Int), a, s) = some (Turn.mk ((Fl.ofInt .f32 1).sub (Fl.mk (k := .f32) 1056964608 (by decide))) ((Fl.ofInt .f32 0).sub (Fl.mk (k := .f32) 1056964608 (by decide))) ((Fl.ofInt .f32 0).sub (Fl.mk (k := .f32) 1056964608 (by decide))) ((Fl.ofInt .f32 1).sub (Fl.mk (k := .f32) 1056964608 (by decide))), a, s) := by kernel_rfl
  have e2 : some (Turn.mk (hf (1)) (hf (-1)) (hf (-1)) (hf (1)), a, s) = some (uT 17, a, s) := by kernel_rfl
  rw [e]
  simp only [fl0, fl1]
  exact e2
theorem dx18 (a s : Int) : drawX ((18 : Int), a, s) = some (uT 18, a, s) := by
  have e : drawX ((18 : Int), a, s) = some (Turn.mk ((Fl.ofInt .f32 0).sub (Fl.mk (k := .f32) 1056964608 (by decide))) ((Fl.ofInt .f32 1).sub (Fl.mk (k := .f32) 1056964608 (by decide))) ((Fl.ofInt .f32 0).sub (Fl.mk (k := .f32) 1056964608 (by decide))) ((Fl.ofInt .f32 1).sub (Fl.mk (k := .f32) 1056964608 (by decide))), a, s) := by kernel_rfl
  have e2 : some (Turn.mk (hf (-1)) (hf (1)) (hf (-1)) (hf (1)), a, s) = some (uT 18, a, s) := by kernel_rfl
  rw [e]
  simp only [fl0, fl1]
  exact e2
theorem dx19 (a s : Int) : drawX ((19 : Int), a, s) = some (uT 19, a, s) := by
  have e : drawX ((19 : Int), a, s) = some (Turn.mk ((Fl.ofInt .f32 1).sub (Fl.mk (k := .f32) 1056964608 (by decide))) ((Fl.ofInt .f32 1).sub (Fl.mk (k := .f32) 1056964608 (by decide))) ((Fl.ofInt .f32 0).sub (Fl.mk (k := .f32) 1056964608 (by decide))) ((Fl.ofInt .f32 1).sub (Fl.mk (k := .f32) 1056964608 (by decide))), a, s) := by kernel_rfl
  have e2 : some (Turn.mk (hf (1)) (hf (1)) (hf (-1)) (hf (1)), a, s) = some (uT 19, a, s) := by kernel_rfl
  rw [e]
  simp only [fl0, fl1]
  exact e2
theorem dx20 (a s : Int) : drawX ((20 : Int), a, s) = some (uT 20, a, s) := by
  have e : drawX ((20 : Int), a, s) = some (Turn.mk ((Fl.ofInt .f32 0).sub (Fl.mk (k := .f32) 1056964608 (by decide))) ((Fl.ofInt .f32 0).sub (Fl.mk (k := .f32) 1056964608 (by decide))) ((Fl.ofInt .f32 1).sub (Fl.mk (k := .f32) 1056964608 (by decide))) ((Fl.ofInt .f32 1).sub (Fl.mk (k := .f32) 1056964608 (by decide))), a, s) := by kernel_rfl
  have e2 : some (Turn.mk (hf (-1)) (hf (-1)) (hf (1)) (hf (1)), a, s) = some (uT 20, a, s) := by kernel_rfl
  rw [e]
  simp only [fl0, fl1]
  exact e2
theorem dx21 (a s : Int) : drawX ((21 : Int), a, s) = some (uT 21, a, s) := by
  have e : drawX ((21 : Int), a, s) = some (Turn.mk ((Fl.ofInt .f32 1).sub (Fl.mk (k := .f32) 1056964608 (by decide))) ((Fl.ofInt .f32 0).sub (Fl.mk (k := .f32) 1056964608 (by decide))) ((Fl.ofInt .f32 1).sub (Fl.mk (k := .f32) 1056964608 (by decide))) ((Fl.ofInt .f32 1).sub (Fl.mk (k := .f32) 1056964608 (by decide))), a, s) := by kernel_rfl
  have e2 : some (Turn.mk (hf (1)) (hf (-1)) (hf (1)) (hf (1)), a, s) = some (uT 21, a, s) := by kernel_rfl
  rw [e]
  simp only [fl0, fl1]
  exact e2
theorem dx22 (a s : Int) : drawX ((22 : Int), a, s) = some (uT 22, a, s) := by
  have e : drawX ((22 : Int), a, s) = some (Turn.mk ((Fl.ofInt .f32 0).sub (Fl.mk (k := .f32) 1056964608 (by decide))) ((Fl.ofInt .f32 1).sub (Fl.mk (k := .f32) 1056964608 (by decide))) ((Fl.ofInt .f32 1).sub (Fl.mk (k := .f32) 1056964608 (by decide))) ((Fl.ofInt .f32 1).sub (Fl.mk (k := .f32) 1056964608 (by decide))), a, s) := by kernel_rfl
  have e2 : some (Turn.mk (hf (-1)) (hf (1)) (hf (1)) (hf (1)), a, s) = some (uT 22, a, s) := by kernel_rfl
  rw [e]
  simp only [fl0, fl1]
  exact e2
theorem dx23 (a s : Int) : drawX ((23 : Int), a, s) = some (uT 23, a, s) := by
  have e : drawX ((23 : Int), a, s) = some (Turn.mk ((Fl.ofInt .f32 1).sub (Fl.mk (k := .f32) 1056964608 (by decide))) ((Fl.ofInt .f32 1).sub (Fl.mk (k := .f32) 1056964608 (by decide))) ((Fl.ofInt .f32 1).sub (Fl.mk (k := .f32) 1056964608 (by decide))) ((Fl.ofInt .f32 1).sub (Fl.mk (k := .f32) 1056964608 (by decide))), a, s) := by kernel_rfl
  have e2 : some (Turn.mk (hf (1)) (hf (1)) (hf (1)) (hf (1)), a, s) = some (uT 23, a, s) := by kernel_rfl
  rw [e]
  simp only [fl1]
  exact e2
theorem drawX_all (q : Nat) (hq : q < 24) (a s : Int) : drawX ((q : Int), a, s) = some (uT q, a, s) := by
  match q, hq with
  | 0, _ => exact dx0 a s
  | 1, _ => exact dx1 a s
  | 2, _ => exact dx2 a s
  | 3, _ => exact dx3 a s
  | 4, _ => exact dx4 a s
  | 5, _ => exact dx5 a s
  | 6, _ => exact dx6 a s
  | 7, _ => exact dx7 a s
  | 8, _ => exact dx8 a s
  | 9, _ => exact dx9 a s
  | 10, _ => exact dx10 a s
  | 11, _ => exact dx11 a s
  | 12, _ => exact dx12 a s
  | 13, _ => exact dx13 a s
  | 14, _ => exact dx14 a s
  | 15, _ => exact dx15 a s
  | 16, _ => exact dx16 a s
  | 17, _ => exact dx17 a s
  | 18, _ => exact dx18 a s
  | 19, _ => exact dx19 a s
  | 20, _ => exact dx20 a s
  | 21, _ => exact dx21 a s
  | 22, _ => exact dx22 a s
  | 23, _ => exact dx23 a s
  | q + 24, h => exact absurd h (by omega)
theorem draw_is (K : Nat) (a0 : l00Src) : spec_l02DrawExact K a0 = (spec_l00Src_pick K a0 (24 : Int)).bind drawX := rfl
theorem exact_u {K : Nat} {c : List Int} (hc : Byt c) (at_ sd : Int) : Dr at_ 2 (spec_l02DrawExact K (l00Src.mk c at_ sd)) (fun t => ∃ i, i < 24 ∧ t = uT i) := by
  rw [draw_is]
  refine Dr.bind (c2 := 0) (pick_dr hc at_ sd 24) (by decide) fun r a1 s1 hr => ?_
  intro h0 _
  obtain ⟨q, rfl⟩ : ∃ q : Nat, r = (q : Int) := ⟨r.toNat, by omega⟩
  have hq : q < 24 := by omega
  exact ⟨uT q, a1, s1, drawX_all q hq a1 s1, ⟨q, hq, rfl⟩, h0, by omega⟩

/-! Products. -/
def isH (k : Nat) (w x y z : Int) : Bool := HW k == w && HX k == x && HY k == y && HZ k == z
def mulI (i j : Nat) : Nat := ((List.range 24).find? fun k => isH k
  ((HW i * HW j - HX i * HX j - HY i * HY j - HZ i * HZ j) / 2) ((HW i * HX j + HX i * HW j + HY i * HZ j - HZ i * HY j) / 2)
  ((HW i * HY j - HX i * HZ j + HY i * HW j + HZ i * HX j) / 2) ((HW i * HZ j + HX i * HY j - HY i * HX j + HZ i * HW j) / 2)).getD 0
def invI (i : Nat) : Nat := ((List.range 24).find? fun k => isH k (HW i) (-HX i) (-HY i) (-HZ i)).getD 0
def mulOK (i j : Nat) : Bool :=
  (2 * HW (mulI i j) == HW i * HW j - HX i * HX j - HY i * HY j - HZ i * HZ j) && (2 * HX (mulI i j) == HW i * HX j + HX i * HW j + HY i * HZ j - HZ i * HY j)
  && (2 * HY (mulI i j) == HW i * HY j - HX i * HZ j + HY i * HW j + HZ i * HX j) && (2 * HZ (mulI i j) == HW i * HZ j + HX i * HY j - HY i * HX j + HZ i * HW j)
  && decide (mulI i j < 24) && mulI i (mulI (invI i) j) == j && mulI (invI i) (mulI i j) == j
theorem mul_all : ∀ i : Fin 24, ∀ j : Fin 24, mulOK i.val j.val = true := by decide +kernel
theorem inv_all : ∀ i : Fin 24, (isH (invI i.val) (HW i.val) (-HX i.val) (-HY i.val) (-HZ i.val) && decide (invI i.val < 24)) = true := by decide +kernel
theorem mulI_is {i j : Nat} (hi : i < 24) (hj : j < 24) : 2 * HW (mulI i j) = HW i * HW j - HX i * HX j - HY i * HY j - HZ i * HZ j ∧ 2 * HX (mulI i j) = HW i * HX j + HX i * HW j + HY i * HZ j - HZ i * HY j
    ∧ 2 * HY (mulI i j) = HW i * HY j - HX i * HZ j + HY i * HW j + HZ i * HX j ∧ 2 * HZ (mulI i j) = HW i * HZ j + HX i * HY j - HY i * HX j + HZ i * HW j ∧ mulI i j < 24 ∧ mulI i (mulI (invI i) j) = j ∧ mulI (invI i) (mulI i j) = j := by
  have := mul_all ⟨i, hi⟩ ⟨j, hj⟩
  unfold mulOK at this
  simp only [Bool.and_eq_true, beq_iff_eq, decide_eq_true_eq] at this
  exact ⟨this.1.1.1.1.1.1, this.1.1.1.1.1.2, this.1.1.1.1.2, this.1.1.1.2, this.1.1.2, this.1.2, this.2⟩
theorem invI_is {i : Nat} (hi : i < 24) : HW (invI i) = HW i ∧ HX (invI i) = -HX i ∧ HY (invI i) = -HY i ∧ HZ (invI i) = -HZ i ∧ invI i < 24 := by
  have := inv_all ⟨i, hi⟩
  unfold isH at this
  simp only [Bool.and_eq_true, beq_iff_eq, decide_eq_true_eq] at this
  exact ⟨this.1.1.1.1, this.1.1.1.2, this.1.1.2, this.1.2, this.2⟩
def mulF (a0 a1 : Turn) : Turn := Turn.mk ((((a0.W.mul a1.W).sub (a0.X.mul a1.X)).sub (a0.Y.mul a1.Y)).sub (a0.Z.mul a1.Z)) ((((a0.W.mul a1.X).add (a0.X.mul a1.W)).add (a0.Y.mul a1.Z)).sub (a0.Z.mul a1.Y)) ((((a0.W.mul a1.Y).sub (a0.X.mul a1.Z)).add (a0.Y.mul a1.W)).add (a0.Z.mul a1.X)) ((((a0.W.mul a1.Z).add (a0.X.mul a1.Y)).sub (a0.Y.mul a1.X)).add (a0.Z.mul a1.W))
def invF (a0 : Turn) : Turn := Turn.mk a0.W a0.X.neg a0.Y.neg a0.Z.neg
theorem half_of {n m : Int} {x : F32} {B : Nat} (h : Db (1 + 1) B n x) (e : 2 * m = n) (hm : m.natAbs ≤ 2) : Db 1 2 m x := ⟨by rw [← e] at h; exact h.1.down, hm⟩
theorem Un.mul {i j : Nat} {t u : Turn} (hi : i < 24) (hj : j < 24) (ht : Un i t) (hu : Un j u) : Un (mulI i j) (mulF t u) := by
  obtain ⟨e1, e2, e3, e4, _⟩ := mulI_is hi hj
  obtain ⟨h1, h2, h3, h4⟩ := H_le (mulI i j)
  refine ⟨?_, ?_, ?_, ?_⟩
  · exact half_of ((((ht.w.mul hu.w (by decide) (by decide)).sub (ht.x.mul hu.x (by decide) (by decide)) (by decide) (by decide)).sub (ht.y.mul hu.y (by decide) (by decide)) (by decide) (by decide)).sub (ht.z.mul hu.z (by decide) (by decide)) (by decide) (by decide)) e1 h1
  · exact half_of ((((ht.w.mul hu.x (by decide) (by decide)).add (ht.x.mul hu.w (by decide) (by decide)) (by decide) (by decide)).add (ht.y.mul hu.z (by decide) (by decide)) (by decide) (by decide)).sub (ht.z.mul hu.y (by decide) (by decide)) (by decide) (by decide)) e2 h2
  · exact half_of ((((ht.w.mul hu.y (by decide) (by decide)).sub (ht.x.mul hu.z (by decide) (by decide)) (by decide) (by decide)).add (ht.y.mul hu.w (by decide) (by decide)) (by decide) (by decide)).add (ht.z.mul hu.x (by decide) (by decide)) (by decide) (by decide)) e3 h3
  · exact half_of ((((ht.w.mul hu.z (by decide) (by decide)).add (ht.x.mul hu.y (by decide) (by decide)) (by decide) (by decide)).sub (ht.y.mul hu.x (by decide) (by decide)) (by decide) (by decide)).add (ht.z.mul hu.w (by decide) (by decide)) (by decide) (by decide)) e4 h4
theorem Un.inv {i : Nat} {t : Turn} (hi : i < 24) (ht : Un i t) : Un (invI i) (invF t) := by
  obtain ⟨e1, e2, e3, e4, _⟩ := invI_is hi
  refine ⟨?_, ?_, ?_, ?_⟩
  · rw [e1]; exact ht.w
  · rw [e2]; exact ht.x.neg
  · rw [e3]; exact ht.y.neg
  · rw [e4]; exact ht.z.neg
theorem Un.eq {i : Nat} {t u : Turn} (ht : Un i t) (hu : Un i u) : t.W.eq u.W = true ∧ t.X.eq u.X = true ∧ t.Y.eq u.Y = true ∧ t.Z.eq u.Z = true := by
  refine ⟨?_, ?_, ?_, ?_⟩
  · rw [ht.w.1.eq hu.w.1, decide_eq_true rfl]
  · rw [ht.x.1.eq hu.x.1, decide_eq_true rfl]
  · rw [ht.y.1.eq hu.y.1, decide_eq_true rfl]
  · rw [ht.z.1.eq hu.z.1, decide_eq_true rfl]

/-! Poses of such turns. -/
/-- A pose whose turns are among them, with a root of integers. -/
structure ExP (n : Nat) (p : Pose) : Prop where
  len : p.Turns.length = n
  turns : ∀ i, i < n → ∃ u, u < 24 ∧ p.Turns.getD i default = uT u
  root : ∃ x y : Int, (-4 ≤ x ∧ x ≤ 4) ∧ (-4 ≤ y ∧ y ≤ 4) ∧ p.Root = Vector.mk (Fl.ofInt .f32 x) (Fl.ofInt .f32 y) default
theorem exact_loop {K n : Nat} {c : List Int} (hc : Byt c) (v1 v3 : Int × Int × Int) (h1 : 0 ≤ v1.1 ∧ v1.1 < 9) (h3 : 0 ≤ v3.1 ∧ v3.1 < 9) (hn : n ≤ 12) : ∀ (k m : Nat) (a s : Int) (ts : List Turn), ts.length + m = n → m < k → 0 ≤ a → a + 2 * (m : Int) ≤ 4611686018427387904 → (∀ i, i < ts.length → ∃ u, u < 24 ∧ ts.getD i default = uT u) →
    ∃ p, spec_B10Exact_l1 K c v1 v3 k (m : Int) a s ts = some p ∧ ExP n p := by
  intro k
  induction k with
  | zero => intro m a s ts _ h; omega
  | succ k ih =>
    intro m a s ts h2 h4 h0 hm hu
    rw [spec_B10Exact_l1, ite2_dec]
    by_cases hpos : 0 < m
    · obtain ⟨t, a1, s1, e1, ⟨u, u1, u2⟩, q1, q2⟩ := exact_u (K := K) hc a s h0 (by omega)
      rw [if_pos (by omega), e1, bind_of, chk_pos (by simp; omega), wrap_in (n := (m : Int) - 1) (by omega) (by omega), show (m : Int) - 1 = ((m - 1 : Nat) : Int) by omega]
      refine ih (m - 1) a1 s1 _ (by simp; omega) (by omega) q1 (by omega) (fun i hi => ?_)
      simp at hi
      by_cases g : i < ts.length
      · obtain ⟨w, w1, w2⟩ := hu i g
        refine ⟨w, w1, ?_⟩
        rw [List.getD_eq_getElem?_getD, List.getElem?_append_left g, ← List.getD_eq_getElem?_getD]; exact w2
      · refine ⟨u, u1, ?_⟩
        rw [List.getD_eq_getElem?_getD, List.getElem?_append_right (by omega), show i - ts.length = 0 by omega]; exact u2
    · rw [if_neg (by omega), wrap_in (by omega) (by omega), wrap_in (by omega) (by omega)]
      exact ⟨_, rfl, by show ts.length = n; omega, fun i hi => hu i (by omega), v1.1 - 4, v3.1 - 4, by omega, by omega, rfl⟩
theorem exact_drawn {K n : Nat} (hK : 20 < K) {c : List Int} (hc : Byt c) (hn : n ≤ 12) : ∃ p, spec_B10Exact K c (n : Int) = some p ∧ ExP n p := by
  obtain ⟨r1, a1, s1, e1, p1, q1, q2⟩ := pick_dr (K := K) hc 0 0 9 (by omega) (by omega)
  obtain ⟨r2, a2, s2, e2, p2, q3, q4⟩ := pick_dr (K := K) hc a1 s1 9 q1 (by omega)
  obtain ⟨p, e3, hp⟩ := exact_loop (K := K) (n := n) hc (r1, a1, s1) (r2, a2, s2) (by show 0 ≤ r1 ∧ r1 < 9; omega) (by show 0 ≤ r2 ∧ r2 < 9; omega) hn K n a2 s2 [] (by simp) (by omega) q3 (by omega) (fun i hi => by simp at hi)
  refine ⟨p, ?_, hp⟩
  unfold spec_B10Exact
  rw [e1, bind_of, e2, bind_of]
  exact e3

end Go.Fw
