/- Turns that are drawn, and what the program makes of turns, in numbers. -/
import Derived.Test.YtblpjlaihgcilaaFwGNSrcLaw
import Derived.Test.YtblpjlaihgcilaaFwGNAngNum2
import Derived.Test.YtblpjlaihgcilaaFwFT3
import Derived.KernelRfl
namespace Go.Fw
open Go

def HW (i : Nat) : Int := if i < 8 then (if i = 0 then 2 else if i = 4 then -2 else 0) else if (i - 8) % 2 = 1 then 1 else -1
def HX (i : Nat) : Int := if i < 8 then (if i = 1 then 2 else if i = 5 then -2 else 0) else if (i - 8) / 2 % 2 = 1 then 1 else -1
def HY (i : Nat) : Int := if i < 8 then (if i = 2 then 2 else if i = 6 then -2 else 0) else if (i - 8) / 4 % 2 = 1 then 1 else -1
def HZ (i : Nat) : Int := if i < 8 then (if i = 3 then 2 else if i = 7 then -2 else 0) else if (i - 8) / 8 % 2 = 1 then 1 else -1
/-- A number in halves. -/
def hf (n : Int) : F32 := if n = 2 then Fl.mk (k := .f32) 1065353216 (by decide) else if n = 1 then Fl.mk (k := .f32) 1056964608 (by decide) else if n = -1 then Fl.mk (k := .f32) 3204448256 (by decide) else if n = -2 then Fl.mk (k := .f32) 3212836864 (by decide) else Fl.mk (k := .f32) 0 (by decide)
/-- One of the turns. -/
def uT (i : Nat) : Turn := Turn.mk (hf (HW i)) (hf (HX i)) (hf (HY i)) (hf (HZ i))
/-- What is made of the number that is drawn. -/
def drawX (v1 : Int × Int × Int) : Option (Turn × Int × Int) := ite2 ((decide (v1.1 < (8 : Int)))) (ite2 ((decide (v1.1 ≥ (4 : Int)))) (chk ((4 : Int) ≠ 0) (ite2 (((v1.1.tmod (4 : Int)) == (0 : Int))) (some ((Turn.mk (Fl.mk (k := .f32) 3212836864 (by decide)) (default : F32) (default : F32) (default : F32)), v1.2.1, v1.2.2)) (ite2 (((v1.1.tmod (4 : Int)) == (1 : Int))) (some ((Turn.mk (default : F32) (Fl.mk (k := .f32) 3212836864 (by decide)) (default : F32) (default : F32)), v1.2.1, v1.2.2)) (ite2 (((v1.1.tmod (4 : Int)) == (2 : Int))) (some ((Turn.mk (default : F32) (default : F32) (Fl.mk (k := .f32) 3212836864 (by decide)) (default : F32)), v1.2.1, v1.2.2)) (some ((Turn.mk (default : F32) (default : F32) (default : F32) (Fl.mk (k := .f32) 3212836864 (by decide))), v1.2.1, v1.2.2)))))) (chk ((4 : Int) ≠ 0) (ite2 (((v1.1.tmod (4 : Int)) == (0 : Int))) (some ((Turn.mk (Fl.mk (k := .f32) 1065353216 (by decide)) (default : F32) (default : F32) (default : F32)), v1.2.1, v1.2.2)) (ite2 (((v1.1.tmod (4 : Int)) == (1 : Int))) (some ((Turn.mk (default : F32) (Fl.mk (k := .f32) 1065353216 (by decide)) (default : F32) (default : F32)), v1.2.1, v1.2.2)) (ite2 (((v1.1.tmod (4 : Int)) == (2 : Int))) (some ((Turn.mk (default : F32) (default : F32) (Fl.mk (k := .f32) 1065353216 (by decide)) (default : F32)), v1.2.1, v1.2.2)) (some ((Turn.mk (default : F32) (default : F32) (default : F32) (Fl.mk (k := .f32) 1065353216 (by decide))), v1.2.1, v1.2.2))))))) (chk (0 ≤ (1 : Int)) (chk (0 ≤ (2 : Int)) (chk (0 ≤ (3 : Int)) (some ((Turn.mk ((Fl.ofInt .f32 (bits .and .i64 (IntKind.i64.wrap (v1.1 - (8 : Int))) (1 : Int))).sub (Fl.mk (k := .f32) 1056964608 (by decide))) ((Fl.ofInt .f32 (bits .and .i64 ((IntKind.i64.wrap (v1.1 - (8 : Int))).fdiv (2 ^ (min (1 : Int).toNat (IntKind.bits .i64)))) (1 : Int))).sub (Fl.mk (k := .f32) 1056964608 (by decide))) ((Fl.ofInt .f32 (bits .and .i64 ((IntKind.i64.wrap (v1.1 - (8 : Int))).fdiv (2 ^ (min (2 : Int).toNat (IntKind.bits .i64)))) (1 : Int))).sub (Fl.mk (k := .f32) 1056964608 (by decide))) ((Fl.ofInt .f32 (bits .and .i64 ((IntKind.i64.wrap (v1.1 - (8 : Int))).fdiv (2 ^ (min (3 : Int).toNat (IntKind.bits .i64)))) (1 : Int))).sub (Fl.mk (k := .f32) 1056964608 (by decide)))), v1.2.1, v1.2.2)))))
theorem fl0 : (Fl.ofInt .f32 0).sub (Fl.mk (k := .f32) 1056964608 (by decide)) = hf (-1) := by decide +kernel
theorem fl1 : (Fl.ofInt .f32 1).sub (Fl.mk (k := .f32) 1056964608 (by decide)) = hf 1 := by decide +kernel
theorem dx0 (a s : Int) : drawX ((0 : Int), a, s) = some (uT 0, a, s) := by kernel_rfl
theorem dx1 (a s : Int) : drawX ((1 : Int), a, s) = some (uT 1, a, s) := by kernel_rfl
theorem dx2 (a s : Int) : drawX ((2 : Int), a, s) = some (uT 2, a, s) := by kernel_rfl
theorem dx3 (a s : Int) : drawX ((3 : Int), a, s) = some (uT 3, a, s) := by kernel_rfl
theorem dx4 (a s : Int) : drawX ((4 : Int), a, s) = some (uT 4, a, s) := by kernel_rfl
theorem dx5 (a s : Int) : drawX ((5 : Int), a, s) = some (uT 5, a, s) := by kernel_rfl
theorem dx6 (a s : Int) : drawX ((6 : Int), a, s) = some (uT 6, a, s) := by kernel_rfl
theorem dx7 (a s : Int) : drawX ((7 : Int), a, s) = some (uT 7, a, s) := by kernel_rfl
theorem dx8 (a s : Int) : drawX ((8 : Int), a, s) = some (uT 8, a, s) := by
  have e : drawX ((8 : Int), a, s) = some (Turn.mk ((Fl.ofInt .f32 0).sub (Fl.mk (k := .f32) 1056964608 (by decide))) ((Fl.ofInt .f32 0).sub (Fl.mk (k := .f32) 1056964608 (by decide))) ((Fl.ofInt .f32 0).sub (Fl.mk (k := .f32) 1056964608 (by decide))) ((Fl.ofInt .f32 0).sub (Fl.mk (k := .f32) 1056964608 (by decide))), a, s) := by kernel_rfl
  have e2 : some (Turn.mk (hf (-1)) (hf (-1)) (hf (-1)) (hf (-1)), a, s) = some (uT 8, a, s) := by kernel_rfl
  rw [e]
  simp only [fl0]
  exact e2
theorem dx9 (a s : Int) : drawX ((9 : Int), a, s) = some (uT 9, a, s) := by
  have e : drawX ((9 : Int), a, s) = some (Turn.mk ((Fl.ofInt .f32 1).sub (Fl.mk (k := .f32) 1056964608 (by decide))) ((Fl.ofInt .f32 0).sub (Fl.mk (k := .f32) 1056964608 (by decide))) ((Fl.ofInt .f32 0).sub (Fl.mk (k := .f32) 1056964608 (by decide))) ((Fl.ofInt .f32 0).sub (Fl.mk (k := .f32) 1056964608 (by decide))), a, s) := by kernel_rfl
  have e2 : some (Turn.mk (hf (1)) (hf (-1)) (hf (-1)) (hf (-1)), a, s) = some (uT 9, a, s) := by kernel_rfl
  rw [e]
  simp only [fl0, fl1]
  exact e2
theorem dx10 (a s : Int) : drawX ((10 : Int), a, s) = some (uT 10, a, s) := by
  have e : drawX ((10 : Int), a, s) = some (Turn.mk ((Fl.ofInt .f32 0).sub (Fl.mk (k := .f32) 1056964608 (by decide))) ((Fl.ofInt .f32 1).sub (Fl.mk (k := .f32) 1056964608 (by decide))) ((Fl.ofInt .f32 0).sub (Fl.mk (k := .f32) 1056964608 (by decide))) ((Fl.ofInt .f32 0).sub (Fl.mk (k := .f32) 1056964608 (by decide))), a, s) := by kernel_rfl
  have e2 : some (Turn.mk (hf (-1)) (hf (1)) (hf (-1)) (hf (-1)), a, s) = some (uT 10, a, s) := by kernel_rfl
  rw [e]
  simp only [fl0, fl1]
  exact e2
theorem dx11 (a s : Int) : drawX ((11 : Int), a, s) = some (uT 11, a, s) := by
  have e : drawX ((11 : Int), a, s) = some (Turn.mk ((Fl.ofInt .f32 1).sub (Fl.mk (k := .f32) 1056964608 (by decide))) ((Fl.ofInt .f32 1).sub (Fl.mk (k := .f32) 1056964608 (by decide))) ((Fl.ofInt .f32 0).sub (Fl.mk (k := .f32) 1056964608 (by decide))) ((Fl.ofInt .f32 0).sub (Fl.mk (k := .f32) 1056964608 (by decide))), a, s) := by kernel_rfl
  have e2 : some (Turn.mk (hf (1)) (hf (1)) (hf (-1)) (hf (-1)), a, s) = some (uT 11, a, s) := by kernel_rfl
  rw [e]
  simp only [fl0, fl1]
  exact e2
theorem dx12 (a s : Int) : drawX ((12 : Int), a, s) = some (uT 12, a, s) := by
  have e : drawX ((12 : Int), a, s) = some (Turn.mk ((Fl.ofInt .f32 0).sub (Fl.mk (k := .f32) 1056964608 (by decide))) ((Fl.ofInt .f32 0).sub (Fl.mk (k := .f32) 1056964608 (by decide))) ((Fl.ofInt .f32 1).sub (Fl.mk (k := .f32) 1056964608 (by decide))) ((Fl.ofInt .f32 0).sub (Fl.mk (k := .f32) 1056964608 (by decide))), a, s) := by kernel_rfl
  have e2 : some (Turn.mk (hf (-1)) (hf (-1)) (hf (1)) (hf (-1)), a, s) = some (uT 12, a, s) := by kernel_rfl
  rw [e]
  simp only [fl0, fl1]
  exact e2
theorem dx13 (a s : Int) : drawX ((13 : Int), a, s) = some (uT 13, a, s) := by
  have e : drawX ((13 : Int), a, s) = some (Turn.mk ((Fl.ofInt .f32 1).sub (Fl.mk (k := .f32) 1056964608 (by decide))) ((Fl.ofInt .f32 0).sub (Fl.mk (k := .f32) 1056964608 (by decide))) ((Fl.ofInt .f32 1).sub (Fl.mk (k := .f32) 1056964608 (by decide))) ((Fl.ofInt .f32 0).sub (Fl.mk (k := .f32) 1056964608 (by decide))), a, s) := by kernel_rfl
  have e2 : some (Turn.mk (hf (1)) (hf (-1)) (hf (1)) (hf (-1)), a, s) = some (uT 13, a, s) := by kernel_rfl
  rw [e]
  simp only [fl0, fl1]
  exact e2
theorem dx14 (a s : Int) : drawX ((14 : Int), a, s) = some (uT 14, a, s) := by
  have e : drawX ((14 : Int), a, s) = some (Turn.mk ((Fl.ofInt .f32 0).sub (Fl.mk (k := .f32) 1056964608 (by decide))) ((Fl.ofInt .f32 1).sub (Fl.mk (k := .f32) 1056964608 (by decide))) ((Fl.ofInt .f32 1).sub (Fl.mk (k := .f32) 1056964608 (by decide))) ((Fl.ofInt .f32 0).sub (Fl.mk (k := .f32) 1056964608 (by decide))), a, s) := by kernel_rfl
  have e2 : some (Turn.mk (hf (-1)) (hf (1)) (hf (1)) (hf (-1)), a, s) = some (uT 14, a, s) := by kernel_rfl
  rw [e]
  simp only [fl0, fl1]
  exact e2
theorem dx15 (a s : Int) : drawX ((15 : Int), a, s) = some (uT 15, a, s) := by
  have e : drawX ((15 : Int), a, s) = some (Turn.mk ((Fl.ofInt .f32 1).sub (Fl.mk (k := .f32) 1056964608 (by decide))) ((Fl.ofInt .f32 1).sub (Fl.mk (k := .f32) 1056964608 (by decide))) ((Fl.ofInt .f32 1).sub (Fl.mk (k := .f32) 1056964608 (by decide))) ((Fl.ofInt .f32 0).sub (Fl.mk (k := .f32) 1056964608 (by decide))), a, s) := by kernel_rfl
  have e2 : some (Turn.mk (hf (1)) (hf (1)) (hf (1)) (hf (-1)), a, s) = some (uT 15, a, s) := by kernel_rfl
  rw [e]
  simp only [fl0, fl1]
  exact e2
theorem dx16 (a s : Int) : drawX ((16 : Int), a, s) = some (uT 16, a, s) := by
  have e : drawX ((16 : Int), a, s) = some (Turn.mk ((Fl.ofInt .f32 0).sub (Fl.mk (k := .f32) 1056964608 (by decide))) ((Fl.ofInt .f32 0).sub (Fl.mk (k := .f32) 1056964608 (by decide))) ((Fl.ofInt .f32 0).sub (Fl.mk (k := .f32) 1056964608 (by decide))) ((Fl.ofInt .f32 1).sub (Fl.mk (k := .f32) 1056964608 (by decide))), a, s) := by kernel_rfl
  have e2 : some (Turn.mk (hf (-1)) (hf (-1)) (hf (-1)) (hf (1)), a, s) = some (uT 16, a, s) := by kernel_rfl
  rw [e]
  simp only [fl0, fl1]
  exact e2
theorem dx17 (a s : Int) : drawX ((17 : Int), a, s) = some (uT 17, a, s) := by
  have e : drawX ((17 : Int), a, s) = some (Turn.mk ((Fl.ofInt .f32 1).sub (Fl.mk (k := .f32) 1056964608 (by decide))) ((Fl.ofInt .f32 0).sub (Fl.mk (k := .f32) 1056964608 (by decide))) ((Fl.ofInt .f32 0).sub (Fl.mk (k := .f32) 1056964608 (by decide))) ((Fl.ofInt .f32 1).sub (Fl.mk (k := .f32) 1056964608 (by decide))), a, s) := by kernel_rfl
  have e2 : some (Turn.mk (hf (1)) (hf (-1)) (hf (-1)) (hf (1)), a, s) = some (uT 17, a, s) := by kernel_rfl
  rw [e]
  simp only [fl0, fl1]
  exact e2
theorem dx18 (a s : Int) : drawX ((18 : Int), a, s) = some (uT 18, a, s) := by
  have e : drawX ((18 : Int), a, s) = some (Turn.mk ((Fl.ofInt .f32 0).sub (Fl.mk (k := .f32) 1056964608 (by decide))) ((Fl.ofInt .f32 1).sub (Fl.mk (k := .f32) 1056964608 (by decide))) ((Fl.ofInt .f32 0).sub (Fl.mk (k := .f32) 1056964608 (by decide))) ((Fl.ofInt .f32 1).sub (Fl.mk (k := .f32) 1056964608 (by decide))), a, s) := by kernel_rfl
  have e2 : some (Turn.mk (hf (-1)) (hf (1)) (hf (-1)) (hf (1)), a, s) = some (uT 18, a, s) := by kernel_rfl
  rw [e]
  simp only [fl0, fl1]
  exact e2
theorem dx19 (a s : Int) : drawX ((19 : Int), a, s) = some (uT 19, a, s) := by
  have e : drawX ((19 : Int), a, s) = some (Turn.mk ((Fl.ofInt .f32 1).sub (Fl.mk (k := .f32) 1056964608 (by decide))) ((Fl.ofInt .f32 1).sub (Fl.mk (k := .f32) 1056964608 (by decide))) ((Fl.ofInt .f32 0).sub (Fl.mk (k := .f32) 1056964608 (by decide))) ((Fl.ofInt .f32 1).sub (Fl.mk (k := .f32) 1056964608 (by decide))), a, s) := by kernel_rfl
  have e2 : some (Turn.mk (hf (1)) (hf (1)) (hf (-1)) (hf (1)), a, s) = some (uT 19, a, s) := by kernel_rfl
  rw [e]
  simp only [fl0, fl1]
  exact e2
theorem dx20 (a s : Int) : drawX ((20 : Int), a, s) = some (uT 20, a, s) := by
  have e : drawX ((20 : Int), a, s) = some (Turn.mk ((Fl.ofInt .f32 0).sub (Fl.mk (k := .f32) 1056964608 (by decide))) ((Fl.ofInt .f32 0).sub (Fl.mk (k := .f32) 1056964608 (by decide))) ((Fl.ofInt .f32 1).sub (Fl.mk (k := .f32) 1056964608 (by decide))) ((Fl.ofInt .f32 1).sub (Fl.mk (k := .f32) 1056964608 (by decide))), a, s) := by kernel_rfl
  have e2 : some (Turn.mk (hf (-1)) (hf (-1)) (hf (1)) (hf (1)), a, s) = some (uT 20, a, s) := by kernel_rfl
  rw [e]
  simp only [fl0, fl1]
  exact e2
theorem dx21 (a s : Int) : drawX ((21 : Int), a, s) = some (uT 21, a, s) := by
  have e : drawX ((21 : Int), a, s) = some (Turn.mk ((Fl.ofInt .f32 1).sub (Fl.mk (k := .f32) 1056964608 (by decide))) ((Fl.ofInt .f32 0).sub (Fl.mk (k := .f32) 1056964608 (by decide))) ((Fl.ofInt .f32 1).sub (Fl.mk (k := .f32) 1056964608 (by decide))) ((Fl.ofInt .f32 1).sub (Fl.mk (k := .f32) 1056964608 (by decide))), a, s) := by kernel_rfl
  have e2 : some (Turn.mk (hf (1)) (hf (-1)) (hf (1)) (hf (1)), a, s) = some (uT 21, a, s) := by kernel_rfl
  rw [e]
  simp only [fl0, fl1]
  exact e2
theorem dx22 (a s : Int) : drawX ((22 : Int), a, s) = some (uT 22, a, s) := by
  have e : drawX ((22 : Int), a, s) = some (Turn.mk ((Fl.ofInt .f32 0).sub (Fl.mk (k := .f32) 1056964608 (by decide))) ((Fl.ofInt .f32 1).sub (Fl.mk (k := .f32) 1056964608 (by decide))) ((Fl.ofInt .f32 1).sub (Fl.mk (k := .f32) 1056964608 (by decide))) ((Fl.ofInt .f32 1).sub (Fl.mk (k := .f32) 1056964608 (by decide))), a, s) := by kernel_rfl
  have e2 : some (Turn.mk (hf (-1)) (hf (1)) (hf (1)) (hf (1)), a, s) = some (uT 22, a, s) := by kernel_rfl
  rw [e]
  simp only [fl0, fl1]
  exact e2
theorem dx23 (a s : Int) : drawX ((23 : Int), a, s) = some (uT 23, a, s) := by
  have e : drawX ((23 : Int), a, s) = some (Turn.mk ((Fl.ofInt .f32 1).sub (Fl.mk (k := .f32) 1056964608 (by decide))) ((Fl.ofInt .f32 1).sub (Fl.mk (k := .f32) 1056964608 (by decide))) ((Fl.ofInt .f32 1).sub (Fl.mk (k := .f32) 1056964608 (by decide))) ((Fl.ofInt .f32 1).sub (Fl.mk (k := .f32) 1056964608 (by decide))), a, s) := by kernel_rfl
  have e2 : some (Turn.mk (hf (1)) (hf (1)) (hf (1)) (hf (1)), a, s) = some (uT 23, a, s) := by kernel_rfl
  rw [e]
  simp only [fl1]
  exact e2
theorem drawX_all (q : Nat) (hq : q < 24) (a s : Int) : drawX ((q : Int), a, s) = some (uT q, a, s) := by
  match q, hq with
  | 0, _ => exact dx0 a s
  | 1, _ => exact dx1 a s
  | 2, _ => exact dx2 a s
  | 3, _ => exact dx3 a s
  | 4, _ => exact dx4 a s
  | 5, _ => exact dx5 a s
  | 6, _ => exact dx6 a s
  | 7, _ => exact dx7 a s
  | 8, _ => exact dx8 a s
  | 9, _ => exact dx9 a s
  | 10, _ => exact dx10 a s
  | 11, _ => exact dx11 a s
  | 12, _ => exact dx12 a s
  | 13, _ => exact dx13 a s
  | 14, _ => exact dx14 a s
  | 15, _ => exact dx15 a s
  | 16, _ => exact dx16 a s
  | 17, _ => exact dx17 a s
  | 18, _ => exact dx18 a s
  | 19, _ => exact dx19 a s
  | 20, _ => exact dx20 a s
  | 21, _ => exact dx21 a s
  | 22, _ => exact dx22 a s
  | 23, _ => exact dx23 a s
  | q + 24, h => exact absurd h (by omega)
theorem draw_is (K : Nat) (a0 : l00Src) : spec_l02DrawExact K a0 = (spec_l00Src_pick K a0 (24 : Int)).bind drawX := rfl
theorem exact_u {K : Nat} {c : List Int} (hc : Byt c) (at_ sd : Int) : Dr at_ 2 (spec_l02DrawExact K (l00Src.mk c at_ sd)) (fun t => ∃ i, i < 24 ∧ t = uT i) := by
  rw [draw_is]
  refine Dr.bind (c2 := 0) (pick_dr hc at_ sd 24) (by decide) fun r a1 s1 hr => ?_
  intro h0 _
  obtain ⟨q, rfl⟩ : ∃ q : Nat, r = (q : Int) := ⟨r.toNat, by omega⟩
  have hq : q < 24 := by omega
  exact ⟨uT q, a1, s1, drawX_all q hq a1 s1, ⟨q, hq, rfl⟩, h0, by omega⟩

/-! The program's functions on turns. -/
def tq (t : Turn) : Q4 := ⟨t.W, t.X, t.Y, t.Z⟩
def mt (q : Q4) : Turn := Turn.mk q.w q.x q.y q.z
theorem tq_mt (q : Q4) : tq (mt q) = q := rfl
theorem z32 : Num (Fl.mk (k := .f32) 0 (by decide)) ∧ val (Fl.mk (k := .f32) 0 (by decide)) = 0 := const_val (s := false) (m := 0) (p := -149) (by decide) (by decide +kernel)
theorem inn_impl (K : Nat) (a b : Turn) : impl_InnerOfTurns K a b = some (innQ (tq a) (tq b)) := rfl
theorem mul_impl (K : Nat) (a b : Turn) : impl_MulTurns K a b = some (mt (mulQ (tq a) (tq b))) := rfl
theorem inv_impl (K : Nat) (a : Turn) : impl_InverseOf K a = some (mt (conjQ (tq a))) := rfl
theorem isfin_impl (K : Nat) {x : F32} (hx : Num x) : impl_IsFinite K x = some true := by
  unfold impl_IsFinite
  rw [isfin_num hx]
theorem root_impl (K : Nat) (x : F32) : impl_RootNumber K x = some (rootQ x) := by
  unfold impl_RootNumber math_Sqrt math_sqrt
  rw [bind_of, bind_of, chk_pos (narrow_root x)]; rfl
theorem size_impl (K : Nat) (x : F32) : impl_size K x = some x.abs32 := by
  unfold impl_size math_Abs
  rw [bind_of, chk_pos (by rw [narrow_abs]; rfl), cv_abs]
theorem len_impl (K : Nat) (a : Turn) : impl_LengthOfTurn K a = some (lenQ (tq a)) := by
  unfold impl_LengthOfTurn
  rw [inn_impl, bind_of, root_impl, bind_of]; rfl
theorem islen_impl (K : Nat) {n : F32} (hn : Num n) (h0 : val n ≠ 0) : impl_isLength K n = some true := by
  unfold impl_isLength
  rw [isfin_impl K hn, bind_of, ite2_true, bind_of]
  congr 1
  rw [ne_val hn z32.1, z32.2]; exact h0
theorem mend_impl (K : Nat) {a : Turn} (hn : Num (lenQ (tq a))) (h0 : val (lenQ (tq a)) ≠ 0) : impl_MendTurn K a = some (mt (divQ (tq a) (lenQ (tq a)))) := by
  unfold impl_MendTurn
  rw [len_impl, bind_of, islen_impl K hn h0, bind_of, Bool.not_true, ite2_false]; rfl
theorem angle_impl {K : Nat} (hK : 16 < K) {q : Q4} (h : Fair q) : impl_AngleOf K (mt q) = some (angQ q) := by
  obtain ⟨l1, l2, w1, w2, l3, l4, -⟩ := fair_parts h
  obtain ⟨-, -, -, n1, -, -, -⟩ := angQ_near h
  unfold angP at n1
  unfold impl_AngleOf impl_Turn_vector impl_LongOf impl_InnerOf
  rw [bind_of, bind_of, root_impl, bind_of, bind_of, size_impl, bind_of]
  have e : rootQ ((((mt q).X.mul (mt q).X).add ((mt q).Y.mul (mt q).Y)).add ((mt q).Z.mul (mt q).Z)) = lenV q.x q.y q.z := rfl
  have e2 : (mt q).W.abs32 = q.w.abs32 := rfl
  dsimp only at e ⊢
  rw [e, e2]
  unfold impl_AngleTurns
  rw [isfin_impl K w1, bind_of, Bool.not_true, ite2_false, isfin_impl K l1, bind_of, bind_of, Bool.not_true, ite2_false]
  have hj : ite2 (q.w.abs32.eq (Fl.mk (k := .f32) 0 (by decide))) (some ((lenV q.x q.y q.z).eq (Fl.mk (k := .f32) 0 (by decide)))) (some false) = some false := by
    cases h1 : q.w.abs32.eq (Fl.mk (k := .f32) 0 (by decide))
    · rfl
    · cases h0 : (lenV q.x q.y q.z).eq (Fl.mk (k := .f32) 0 (by decide))
      · rfl
      · rw [eq_val w1 z32.1, z32.2, w2] at h1
        rw [eq_val l1 z32.1, z32.2] at h0
        rw [h1, h0] at l4
        grind
  rw [hj, bind_of, ite2_false, wideAngle_eq hK, bind_of, chk_pos n1, bind_of]; rfl
theorem apart_impl {K : Nat} (hK : 16 < K) (a b : Turn) (h : Fair (apartQ (tq a) (tq b))) : impl_ApartTurns K a b = some (angQ (apartQ (tq a) (tq b))) := by
  unfold impl_ApartTurns
  rw [inv_impl, bind_of, mul_impl, bind_of, show mt (mulQ (tq (mt (conjQ (tq a)))) (tq b)) = mt (apartQ (tq a) (tq b)) from rfl, angle_impl hK h, bind_of]
/-! What is drawn. -/
theorem scale_norm (r : R4) (k : Rat) : innR (scaleR r k) (scaleR r k) = k * k * innR r r := by
  unfold innR scaleR
  grind
/-- What is near to a turn of the length 1. -/
theorem U4.of_near {q : Q4} {r : R4} (h : C4 q r (1 / 2000000)) (hb : B4 r (100001 / 100000)) (hn : (innR r r - 1).abs ≤ 1 / 500000) : U4 q := by
  obtain ⟨n, h1, h2, h3, h4⟩ := h
  obtain ⟨b1, b2, b3, b4⟩ := hb
  have sum : ∀ {v x : Rat}, (v - x).abs ≤ 1 / 2000000 → x.abs ≤ 100001 / 100000 → (v * v - x * x).abs ≤ 11 / 10000000 := by
    intro v x h1 h2
    have e : v * v - x * x = (v - x) * (v + x) := by grind
    have h3 : (v + x).abs ≤ 22 / 10 := by
      obtain ⟨a1, a2⟩ := abs_bounds h1
      obtain ⟨a3, a4⟩ := abs_bounds h2
      exact abs_le (by grind) (by grind)
    rw [e, mul_abs]
    refine Rat.le_trans (mul_le_mul' h1 h3 Rat.abs_nonneg (by decide +kernel)) (by decide +kernel)
  obtain ⟨w1, w2⟩ := abs_bounds (sum h1 b1)
  obtain ⟨x1, x2⟩ := abs_bounds (sum h2 b2)
  obtain ⟨y1, y2⟩ := abs_bounds (sum h3 b3)
  obtain ⟨z1, z2⟩ := abs_bounds (sum h4 b4)
  obtain ⟨c1, c2⟩ := abs_bounds hn
  refine ⟨n, ?_⟩
  unfold innR vq at *
  exact abs_le (by grind) (by grind)
def okT (t : Turn) : Bool := numD (Ieee.single.read t.W.bits) && numD (Ieee.single.read t.X.bits) && numD (Ieee.single.read t.Y.bits) && numD (Ieee.single.read t.Z.bits) && decide (innR (vq (tq t)) (vq (tq t)) = 1)
theorem num_of_fin {x : F32} (h : numD (Ieee.single.read x.bits) = true) : Num x := by
  cases e : Ieee.single.read x.bits with
  | number s m i => exact ⟨s, m, i, e⟩
  | infinity s => rw [e] at h; cases h
  | nan s t => rw [e] at h; cases h
theorem okT_u {t : Turn} (h : okT t = true) : U4 (tq t) := by
  unfold okT at h
  simp only [Bool.and_eq_true, decide_eq_true_eq] at h
  obtain ⟨⟨⟨⟨h1, h2⟩, h3⟩, h4⟩, h5⟩ := h
  refine ⟨⟨num_of_fin h1, num_of_fin h2, num_of_fin h3, num_of_fin h4⟩, ?_⟩
  rw [h5, Rat.sub_self, Rat.abs_zero]
  decide +kernel
theorem uT_ok : ∀ i : Fin 24, okT (uT i.val) = true := by decide +kernel
/-- A quarter. -/
def qF (r : Int) : F32 := (Fl.ofInt .f32 (IntKind.i64.wrap (r - (16 : Int)))).div (Fl.mk (k := .f32) 1082130432 (by decide))
theorem qF_ok : ∀ r : Fin 33, (numD (Ieee.single.read (qF (r.val : Int)).bits) && decide (val (qF (r.val : Int)) * 4 = (r.val : Rat) - 16)) = true := by decide +kernel
theorem qF_val {r : Nat} (h : r < 33) : Num (qF (r : Int)) ∧ val (qF (r : Int)) * 4 = (r : Rat) - 16 := by
  have := qF_ok ⟨r, h⟩
  simp only [Bool.and_eq_true, decide_eq_true_eq] at this
  exact ⟨num_of_fin this.1, this.2⟩
theorem small_q {K : Nat} {c : List Int} (hc : Byt c) (at_ sd : Int) : Dr at_ 2 (spec_l01DrawSmall K (l00Src.mk c at_ sd)) (fun f => ∃ r : Nat, r < 33 ∧ f = qF (r : Int)) := by
  unfold spec_l01DrawSmall
  refine Dr.bind (c2 := 0) (pick_dr hc at_ sd 33) (by decide) fun r a1 s1 hr => .of ⟨r.toNat, by omega, ?_⟩ (by omega) rfl
  have : ((r.toNat : Nat) : Int) = r := by omega
  rw [this]; rfl
theorem noT_u : U4 (tq (Turn.mk (Fl.mk (k := .f32) 1065353216 (by decide)) (default : F32) (default : F32) (default : F32))) := okT_u (by decide +kernel)
theorem sqrt_spec' (K : Nat) (x : F32) : spec_l01Sqrt K x = some (rootQ x) := by
  unfold spec_l01Sqrt math_Sqrt math_sqrt spec_l01Narrow
  simp only [bind_of, chk_pos (narrow_root x)]; rfl
theorem mend_drawn (K : Nat) {a b c d : Nat} (ha : a < 33) (hb : b < 33) (hc : c < 33) (hd : d < 33) : ∃ t, spec_l02Mend K (Turn.mk (qF a) (qF b) (qF c) (qF d)) = some t ∧ U4 (tq t) := by
  unfold spec_l02Mend spec_l02Inner spec_l01Finite spec_l02No
  simp only [bind_of, sqrt_spec']
  obtain ⟨a1, a2⟩ := qF_val ha
  obtain ⟨b1, b2⟩ := qF_val hb
  obtain ⟨c1, c2⟩ := qF_val hc
  obtain ⟨d1, d2⟩ := qF_val hd
  by_cases hz : a = 16 ∧ b = 16 ∧ c = 16 ∧ d = 16
  · obtain ⟨rfl, rfl, rfl, rfl⟩ := hz
    refine ⟨Turn.mk (Fl.mk (k := .f32) 1065353216 (by decide)) (default : F32) (default : F32) (default : F32), ?_, noT_u⟩
    have e : (rootQ (((((qF (16 : Nat)).mul (qF (16 : Nat))).add ((qF (16 : Nat)).mul (qF (16 : Nat)))).add ((qF (16 : Nat)).mul (qF (16 : Nat)))).add ((qF (16 : Nat)).mul (qF (16 : Nat))))).eq (Fl.mk (k := .f32) 0 (by decide)) = true := by decide +kernel
    rw [e]; rfl
  · have hq : N4 (tq (Turn.mk (qF a) (qF b) (qF c) (qF d))) := ⟨a1, b1, c1, d1⟩
    have lim : ∀ {r : Nat} {x : Rat}, r < 33 → x * 4 = (r : Rat) - 16 → x.abs ≤ 500 ∧ 0 ≤ x * x ∧ (r ≠ 16 → 1 / 16 ≤ x * x) := by
      intro r x hr hx
      have h1 : (r : Rat) ≤ ((32 : Nat) : Rat) := Rat.natCast_le_natCast.2 (by omega)
      have h2 : ((0 : Nat) : Rat) ≤ (r : Rat) := Rat.natCast_le_natCast.2 (by omega)
      have e1 : ((32 : Nat) : Rat) = 32 := rfl
      have e2 : ((0 : Nat) : Rat) = 0 := rfl
      rw [e1] at h1
      rw [e2] at h2
      refine ⟨abs_le (by grind) (by grind), sq_nonneg x, fun hne => ?_⟩
      rcases Nat.lt_or_gt_of_ne hne with h | h
      · have h3 : (r : Rat) ≤ ((15 : Nat) : Rat) := Rat.natCast_le_natCast.2 (by omega)
        have e3 : ((15 : Nat) : Rat) = 15 := rfl
        rw [e3] at h3
        have h4 : 1 / 4 ≤ -x := by grind
        have := mul_le_mul' h4 h4 (by decide +kernel) (by grind)
        grind
      · have h3 : ((17 : Nat) : Rat) ≤ (r : Rat) := Rat.natCast_le_natCast.2 (by omega)
        have e3 : ((17 : Nat) : Rat) = 17 := rfl
        rw [e3] at h3
        have h4 : 1 / 4 ≤ x := by grind
        have := mul_le_mul' h4 h4 (by decide +kernel) (by grind)
        grind
    obtain ⟨la1, la2, la3⟩ := lim ha a2
    obtain ⟨lb1, lb2, lb3⟩ := lim hb b2
    obtain ⟨lc1, lc2, lc3⟩ := lim hc c2
    obtain ⟨ld1, ld2, ld3⟩ := lim hd d2
    have hbd : B4 (vq (tq (Turn.mk (qF a) (qF b) (qF c) (qF d)))) 500 := ⟨la1, lb1, lc1, ld1⟩
    have hin : 1 / 100 ≤ innR (vq (tq (Turn.mk (qF a) (qF b) (qF c) (qF d)))) (vq (tq (Turn.mk (qF a) (qF b) (qF c) (qF d)))) := by
      show 1 / 100 ≤ val (qF a) * val (qF a) + val (qF b) * val (qF b) + val (qF c) * val (qF c) + val (qF d) * val (qF d)
      by_cases h1 : a = 16
      · by_cases h2 : b = 16
        · by_cases h3 : c = 16
          · have := ld3 (fun h4 => hz ⟨h1, h2, h3, h4⟩); grind
          · have := lc3 h3; grind
        · have := lb3 h2; grind
      · have := la3 h1; grind
    obtain ⟨k, k0, k1, k2, k3, k4⟩ := mend_near hq hbd hin
    obtain ⟨-, n1, n2, -, -⟩ := lenQ_near hq hbd
    have hn0 : val (lenQ (tq (Turn.mk (qF a) (qF b) (qF c) (qF d)))) ≠ 0 := fun h => by rw [h, Rat.mul_zero] at k1; exact absurd k1 (by decide)
    have e1 : (lenQ (tq (Turn.mk (qF a) (qF b) (qF c) (qF d)))).eq (Fl.mk (k := .f32) 0 (by decide)) = false := by
      rw [← Bool.not_eq_true, eq_val n1 z32.1, z32.2]; exact hn0
    refine ⟨mt (divQ (tq (Turn.mk (qF a) (qF b) (qF c) (qF d))) (lenQ (tq (Turn.mk (qF a) (qF b) (qF c) (qF d))))), ?_, ?_⟩
    · have e2 := isfin_num n1
      unfold lenQ innQ tq at e1 e2 ⊢
      dsimp only at e1 e2 ⊢
      rw [e1, ite2_false, e2, bind_of, Bool.not_true, ite2_false]; rfl
    · exact U4.of_near k3 k4 (by rw [scale_norm]; exact Rat.le_trans k2 (by decide +kernel))
theorem turn_u {K : Nat} {c : List Int} (hc : Byt c) (at_ sd : Int) : Dr at_ 10 (spec_l02DrawTurn K (l00Src.mk c at_ sd)) (fun t => U4 (tq t)) := by
  unfold spec_l02DrawTurn
  refine Dr.bind (c1 := 2) (c2 := 8) (one_dr hc at_ sd 2) (by decide) fun r a1 s1 _ => .ite (fun _ => ?_) fun _ => ?_
  · refine Dr.weak (c := 2 + 0) (P := fun t => U4 (tq t)) (Dr.bind (exact_u hc a1 s1) (by decide) fun r2 a2 s2 h => .of ?_ (by decide) rfl) (by decide) (fun _ h => h)
    obtain ⟨i, hi, rfl⟩ := h
    exact okT_u (uT_ok ⟨i, hi⟩)
  · refine Dr.bind (c1 := 2) (c2 := 6) (small_q hc a1 s1) (by decide) fun r2 a2 s2 h2 => Dr.bind (c1 := 2) (c2 := 4) (small_q hc a2 s2) (by decide) fun r3 a3 s3 h3 => Dr.bind (c1 := 2) (c2 := 2) (small_q hc a3 s3) (by decide) fun r4 a4 s4 h4 => Dr.bind (c1 := 2) (c2 := 0) (small_q hc a4 s4) (by decide) fun r5 a5 s5 h5 => ?_
    obtain ⟨i2, j2, rfl⟩ := h2
    obtain ⟨i3, j3, rfl⟩ := h3
    obtain ⟨i4, j4, rfl⟩ := h4
    obtain ⟨i5, j5, rfl⟩ := h5
    obtain ⟨t, ht, hu⟩ := mend_drawn K j2 j3 j4 j5
    simp only [ht, bind_of]
    exact .of hu (by decide) rfl

end Go.Fw
