
import Derived.Test.YtblpjlaihgcilafFwFT
namespace Go.Fw
open Go
noncomputable section
theorem sq32 {x : F32} (hx : Num x) (h : (val x).abs ≤ 500) : Num (x.mul x) ∧ 0 ≤ val (x.mul x) ∧ (val (x.mul x) - val x * val x).abs ≤ val x * val x * (1 / 8388608) + 1 / 1000000000000000000000000000000 ∧ 0 ≤ val x * val x ∧ val x * val x ≤ 250000 := by
  have h0 : 0 ≤ val x * val x := by
    rcases abs_cases (val x) with ⟨h1, _⟩ | ⟨h1, _⟩
    · exact Rat.mul_nonneg h1 h1
    · have := Rat.mul_nonneg (show 0 ≤ -val x by grind) (show 0 ≤ -val x by grind); grind
  have h2 : val x * val x ≤ 250000 := by
    have h3 := mul_le_mul' h h Rat.abs_nonneg (by decide)
    rw [← mul_abs, Rat.abs_of_nonneg h0] at h3
    grind
  obtain ⟨n1, n2, n3, -⟩ := mul32 hx hx (by rw [Rat.abs_of_nonneg h0]; grind)
  unfold o32 at n2
  rw [Rat.abs_of_nonneg h0] at n2
  exact ⟨n1, n3 h0, n2, h0, h2⟩
theorem acc32 {x y : F32} {X Y : Rat} {e : Rat} (hx : Num x) (hy : Num y) (x0 : 0 ≤ val x) (y0 : 0 ≤ val y) (X0 : 0 ≤ X) (Y0 : 0 ≤ Y) (X1 : X ≤ 1000000) (Y1 : Y ≤ 1000000) (he : e ≤ 1 / 1000000) (he0 : 0 ≤ e)
    (h1 : (val x - X).abs ≤ X * e + 1 / 100000000000000000000000000000) (h2 : (val y - Y).abs ≤ Y * e + 1 / 100000000000000000000000000000) :
    Num (x.add y) ∧ 0 ≤ val (x.add y) ∧ (val (x.add y) - (X + Y)).abs ≤ (X + Y) * (e + 1 / 8300000) + 4 / 100000000000000000000000000000 := by
  obtain ⟨a1, a2⟩ := abs_bounds h1
  obtain ⟨a3, a4⟩ := abs_bounds h2
  have e1 := Rat.mul_le_mul_of_nonneg_left he X0
  have e2 := Rat.mul_le_mul_of_nonneg_left he Y0
  have e3 := Rat.mul_nonneg X0 he0
  have e4 := Rat.mul_nonneg Y0 he0
  obtain ⟨n1, n2, n3, -⟩ := add32 hx hy (by rw [Rat.abs_of_nonneg (by grind)]; grind)
  unfold o32 at n2
  rw [Rat.abs_of_nonneg (show 0 ≤ val x + val y by grind)] at n2
  obtain ⟨c1, c2⟩ := abs_bounds n2
  exact ⟨n1, n3 (by grind), abs_le (by grind) (by grind)⟩
theorem inn3_near {x y z : F32} (hx : Num x) (hy : Num y) (hz : Num z) (bx : (val x).abs ≤ 500) (by_ : (val y).abs ≤ 500) (bz : (val z).abs ≤ 500) :
    Num (inn3Q x y z) ∧ 0 ≤ val (inn3Q x y z) ∧ 0 ≤ val x * val x + val y * val y + val z * val z ∧ val x * val x + val y * val y + val z * val z ≤ 750000 ∧
    (val (inn3Q x y z) - (val x * val x + val y * val y + val z * val z)).abs ≤ (val x * val x + val y * val y + val z * val z) * (1 / 2500000) + 1 / 1000000000000000000000000000 := by
  obtain ⟨x1, x2, x3, x4, x5⟩ := sq32 hx bx
  obtain ⟨y1, y2, y3, y4, y5⟩ := sq32 hy by_
  obtain ⟨z1, z2, z3, z4, z5⟩ := sq32 hz bz
  unfold inn3Q
  generalize val x * val x = X at *
  generalize val y * val y = Y at *
  generalize val z * val z = Z at *
  obtain ⟨a1, a2, a3⟩ := acc32 (e := 1 / 8388608) x1 y1 x2 y2 x4 y4 (by grind) (by grind) (by decide +kernel) (by decide +kernel) (by grind) (by grind)
  obtain ⟨c1, c2⟩ := abs_bounds a3
  obtain ⟨c3, c4⟩ := abs_bounds z3
  obtain ⟨n1, n2, n3, -⟩ := add32 a1 z1 (by rw [Rat.abs_of_nonneg (by grind)]; grind)
  unfold o32 at n2
  rw [Rat.abs_of_nonneg (show 0 ≤ val ((x.mul x).add (y.mul y)) + val (z.mul z) by grind)] at n2
  obtain ⟨c5, c6⟩ := abs_bounds n2
  exact ⟨n1, n3 (by grind), by grind, by grind, abs_le (by grind) (by grind)⟩
theorem inn4_near {q : Q4} (hq : N4 q) (hb : B4 (vq q) 500) :
    Num (innQ q q) ∧ 0 ≤ val (innQ q q) ∧ 0 ≤ innR (vq q) (vq q) ∧ innR (vq q) (vq q) ≤ 1000000 ∧ (val (innQ q q) - innR (vq q) (vq q)).abs ≤ innR (vq q) (vq q) * (1 / 1900000) + 1 / 100000000000000000000000000 := by
  obtain ⟨q1, q2, q3, q4⟩ := hq
  obtain ⟨b1, b2, b3, b4⟩ := hb
  obtain ⟨a1, a2, a3, a4, a5⟩ := inn3_near q1 q2 q3 b1 b2 b3
  obtain ⟨z1, z2, z3, z4, z5⟩ := sq32 q4 b4
  unfold innQ innR vq
  unfold inn3Q at *
  dsimp only
  generalize val q.w * val q.w + val q.x * val q.x + val q.y * val q.y = X at *
  generalize val q.z * val q.z = Z at *
  obtain ⟨c1, c2⟩ := abs_bounds a5
  obtain ⟨c3, c4⟩ := abs_bounds z3
  obtain ⟨n1, n2, n3, -⟩ := add32 a1 z1 (by rw [Rat.abs_of_nonneg (by grind)]; grind)
  unfold o32 at n2
  rw [Rat.abs_of_nonneg (show 0 ≤ val (((q.w.mul q.w).add (q.x.mul q.x)).add (q.y.mul q.y)) + val (q.z.mul q.z) by grind)] at n2
  obtain ⟨c5, c6⟩ := abs_bounds n2
  exact ⟨n1, n3 (by grind), by grind, by grind, abs_le (by grind) (by grind)⟩
def lenV (x y z : F32) : F32 := rootQ (inn3Q x y z)
theorem lenV_near {x y z : F32} (hx : Num x) (hy : Num y) (hz : Num z) (bx : (val x).abs ≤ 500) (by_ : (val y).abs ≤ 500) (bz : (val z).abs ≤ 500) :
    (convBits .f64 (Fl.cv .f32 .f64 (inn3Q x y z)).sqrt.bits .f32).isSome = true ∧ Num (lenV x y z) ∧ 0 ≤ val (lenV x y z) ∧
    (val (lenV x y z) * val (lenV x y z) - (val x * val x + val y * val y + val z * val z)).abs ≤ (val x * val x + val y * val y + val z * val z) * (1 / 1000000) + 1 / 10000000000000000000000000 := by
  obtain ⟨a1, a2, a3, a4, a5⟩ := inn3_near hx hy hz bx by_ bz
  obtain ⟨c1, c2⟩ := abs_bounds a5
  obtain ⟨r1, r2, r3, r4⟩ := root32 a1 a2 (by grind)
  obtain ⟨c3, c4⟩ := abs_bounds r4
  exact ⟨r1, r2, r3, abs_le (by unfold lenV; grind) (by unfold lenV; grind)⟩
def lenQ (q : Q4) : F32 := rootQ (innQ q q)
theorem lenQ_near {q : Q4} (hq : N4 q) (hb : B4 (vq q) 500) :
    (convBits .f64 (Fl.cv .f32 .f64 (innQ q q)).sqrt.bits .f32).isSome = true ∧ Num (lenQ q) ∧ 0 ≤ val (lenQ q) ∧ 0 ≤ innR (vq q) (vq q) ∧ (val (lenQ q) * val (lenQ q) - innR (vq q) (vq q)).abs ≤ innR (vq q) (vq q) * (1 / 1000000) + 1 / 10000000000000000000000000 := by
  obtain ⟨a1, a2, a3, a4, a5⟩ := inn4_near hq hb
  obtain ⟨c1, c2⟩ := abs_bounds a5
  obtain ⟨r1, r2, r3, r4⟩ := root32 a1 a2 (by grind)
  obtain ⟨c3, c4⟩ := abs_bounds r4
  exact ⟨r1, r2, r3, a3, abs_le (by unfold lenQ; grind) (by unfold lenQ; grind)⟩
theorem isfin_num {x : F32} (hx : Num x) : (x.sub x).eq (Fl.mk (k := .f32) 0 (by decide)) = true := by
  obtain ⟨n1, n2, n3, n4⟩ := sub_val hx hx (by rw [Rat.sub_self, Rat.abs_zero]; exact p2_pos _)
  have hz : Num (Fl.mk (k := .f32) 0 (by decide)) ∧ val (Fl.mk (k := .f32) 0 (by decide)) = 0 := const_val (s := false) (m := 0) (p := -149) (by decide) (by decide +kernel)
  rw [eq_val n1 hz.1, hz.2]
  exact Rat.le_antisymm (n4 (by rw [Rat.sub_self]; exact Rat.le_refl)) (n3 (by rw [Rat.sub_self]; exact Rat.le_refl))
/-! Mended. -/
def divQ (q : Q4) (n : F32) : Q4 := ⟨q.w.div n, q.x.div n, q.y.div n, q.z.div n⟩
def scaleR (r : R4) (k : Rat) : R4 := ⟨r.w * k, r.x * k, r.y * k, r.z * k⟩
theorem div_near {x n : F32} {k : Rat} (hx : Num x) (hn : Num n) (hk : k * val n = 1) (h : (val x * k).abs ≤ 2) : Num (x.div n) ∧ (val (x.div n) - val x * k).abs ≤ 1 / 2000000 := by
  have hn0 : val n ≠ 0 := fun h => by rw [h, Rat.mul_zero] at hk; exact absurd hk (by decide)
  obtain ⟨a, b, -⟩ := div32 hx hn hn0 (q := val x * k) (by rw [Rat.mul_assoc, hk, Rat.mul_one]) (by grind)
  exact ⟨a, by grind⟩
theorem sq_le {a b : Rat} (h : a * a ≤ b * b) (hb : 0 ≤ b) : a.abs ≤ b := by
  refine le_of_sq hb ?_
  rw [← mul_abs]
  rcases abs_cases (a * a) with ⟨_, e⟩ | ⟨h1, e⟩ <;> rw [e]
  · exact h
  · have : 0 ≤ a * a := by
      rcases abs_cases a with ⟨h2, _⟩ | ⟨h2, _⟩
      · exact Rat.mul_nonneg h2 h2
      · have := Rat.mul_nonneg (show 0 ≤ -a by grind) (show 0 ≤ -a by grind); grind
    grind
theorem sq_nonneg (a : Rat) : 0 ≤ a * a := by
  rcases abs_cases a with ⟨h2, _⟩ | ⟨h2, _⟩
  · exact Rat.mul_nonneg h2 h2
  · have := Rat.mul_nonneg (show 0 ≤ -a by grind) (show 0 ≤ -a by grind); grind
theorem mend_near {q : Q4} (hq : N4 q) (hb : B4 (vq q) 500) (h1 : 1 / 100 ≤ innR (vq q) (vq q)) :
    ∃ k, 0 < k ∧ k * val (lenQ q) = 1 ∧ (k * k * innR (vq q) (vq q) - 1).abs ≤ 1 / 900000 ∧ C4 (divQ q (lenQ q)) (scaleR (vq q) k) (1 / 2000000) ∧ B4 (scaleR (vq q) k) (100001 / 100000) := by
  obtain ⟨a1, a2, a3, a4, a5⟩ := lenQ_near hq hb
  obtain ⟨c1, c2⟩ := abs_bounds a5
  have hpos : 0 < val (lenQ q) := by
    refine Rat.lt_of_le_of_ne a3 fun h => ?_
    rw [← h] at c2; grind
  obtain ⟨k, hk⟩ := quot_ex (a := 1) (Rat.ne_of_gt hpos)
  have hk0 : 0 < k := by
    refine Rat.not_le.1 fun h => ?_
    have := Rat.mul_nonneg (show 0 ≤ -k by grind) (Rat.le_of_lt hpos)
    grind
  have hkk : 0 < k * k := Rat.mul_pos hk0 hk0
  have hone : k * k * (val (lenQ q) * val (lenQ q)) = 1 := by
    have : k * k * (val (lenQ q) * val (lenQ q)) = (k * val (lenQ q)) * (k * val (lenQ q)) := by grind
    rw [this, hk]; exact Rat.mul_one 1
  have d1 := Rat.mul_le_mul_of_nonneg_left c1 (Rat.le_of_lt hkk)
  have d2 := Rat.mul_le_mul_of_nonneg_left c2 (Rat.le_of_lt hkk)
  have hkI : 0 ≤ k * k * innR (vq q) (vq q) := Rat.mul_nonneg (Rat.le_of_lt hkk) a4
  have hkI2 : k * k * (1 / 100) ≤ k * k * innR (vq q) (vq q) := Rat.mul_le_mul_of_nonneg_left h1 (Rat.le_of_lt hkk)
  have hun : (k * k * innR (vq q) (vq q) - 1).abs ≤ 1 / 900000 := by
    generalize innR (vq q) (vq q) = I at *
    refine abs_le ?_ ?_ <;> grind
  have hbd : B4 (scaleR (vq q) k) (100001 / 100000) := by
    obtain ⟨u1, u2⟩ := abs_bounds hun
    have key : ∀ {x : Rat}, x * x ≤ innR (vq q) (vq q) → (x * k).abs ≤ 100001 / 100000 := by
      intro x hx
      refine sq_le ?_ (by decide +kernel)
      have e : x * k * (x * k) = k * k * (x * x) := by grind
      rw [e]
      have := Rat.mul_le_mul_of_nonneg_left hx (Rat.le_of_lt hkk)
      have h2 : (1 : Rat) + 1 / 900000 ≤ 100001 / 100000 * (100001 / 100000) := by decide +kernel
      grind
    have s1 := sq_nonneg (vq q).w
    have s2 := sq_nonneg (vq q).x
    have s3 := sq_nonneg (vq q).y
    have s4 := sq_nonneg (vq q).z
    unfold innR at key
    exact ⟨key (by grind), key (by grind), key (by grind), key (by grind)⟩
  obtain ⟨e1, e2, e3, e4⟩ := hbd
  obtain ⟨q1, q2, q3, q4⟩ := hq
  obtain ⟨w1, w2⟩ := div_near q1 a2 hk (Rat.le_trans e1 (by decide +kernel))
  obtain ⟨x1, x2⟩ := div_near q2 a2 hk (Rat.le_trans e2 (by decide +kernel))
  obtain ⟨y1, y2⟩ := div_near q3 a2 hk (Rat.le_trans e3 (by decide +kernel))
  obtain ⟨z1, z2⟩ := div_near q4 a2 hk (Rat.le_trans e4 (by decide +kernel))
  exact ⟨k, hk0, hk, hun, ⟨⟨w1, x1, y1, z1⟩, w2, x2, y2, z2⟩, e1, e2, e3, e4⟩
end
end Go.Fw
