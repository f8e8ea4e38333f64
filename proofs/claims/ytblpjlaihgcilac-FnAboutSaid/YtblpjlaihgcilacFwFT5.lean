/- A turn between two others is not farther from the first one than the second one is, but for a little. -/
import Derived.Test.YtblpjlaihgcilacFwFT4
namespace Go.Fw
open Go
noncomputable section

theorem cmul_lerp (a b : R4) (c s k : Rat) : cmulR a (scaleR (lerpR a (scaleR b c) s) k) = ⟨k * ((1 - s) * innR a a + s * (c * (cmulR a b).w)), c * (k * s) * (cmulR a b).x, c * (k * s) * (cmulR a b).y, c * (k * s) * (cmulR a b).z⟩ := by
  unfold cmulR mulR conjR scaleR lerpR innR
  congr 1 <;> grind
theorem inn_cmul (a b : R4) (c : Rat) : innR a (scaleR b c) = c * (cmulR a b).w := by
  unfold cmulR mulR conjR scaleR innR
  grind
theorem lerp_norm (a b : R4) (s : Rat) : innR (lerpR a b s) (lerpR a b s) = (1 - s) * (1 - s) * innR a a + s * s * innR b b + 2 * ((1 - s) * s) * innR a b := by
  unfold lerpR innR
  grind
theorem unit_abs {c : Rat} (hc : c * c = 1) : c.abs = 1 := by
  have h6 := sq_le (a := c) (b := 1) (by rw [hc]; decide +kernel) (by decide)
  have h7 : 1 ≤ c.abs := le_of_sq Rat.abs_nonneg (by rw [← mul_abs, hc]; decide +kernel)
  exact Rat.le_antisymm h6 h7
theorem apart_mono {a b z : Q4} {c s k : Rat} (ha : U4 a) (hb : U4 b) (hz : U4 z) (hc : c * c = 1) (s0 : 0 ≤ s) (s1 : s ≤ 1) (k0 : 0 < k) (k1 : k ≤ 3 / 2) (hi : -(1 / 100000) ≤ innR (vq a) (scaleR (vq b) c))
    (h : C4 z (scaleR (lerpR (vq a) (scaleR (vq b) c) s) k) (1 / 400000)) : Fair (apartQ a z) ∧ Fair (apartQ a b) ∧ val (angQ (apartQ a z)) ≤ val (angQ (apartQ a b)) + 9 / 10000 := by
  obtain ⟨c1, c2, c3, c4, c5⟩ := unit_apart ha hz
  obtain ⟨d1, d2, d3, d4, d5⟩ := unit_apart ha hb
  refine ⟨c5, d5, ?_⟩
  obtain ⟨-, h1, h2, h3, h4⟩ := h
  obtain ⟨e1, e2, e3, e4⟩ := cmul_near (b := vq z) (r := scaleR (lerpR (vq a) (scaleR (vq b) c) s) k) ha.bound (by decide +kernel) h1 h2 h3 h4
  rw [cmul_lerp] at e1 e2 e3 e4
  dsimp only at e1 e2 e3 e4
  rw [inn_cmul] at hi
  obtain ⟨l1, l2, -, -, l3, -, -⟩ := fair_parts c5
  obtain ⟨m1, m2, -, -, m3, -, m4⟩ := fair_parts d5
  obtain ⟨-, f1, f2, f3, f4⟩ := c1
  obtain ⟨-, g1, g2, g3, g4⟩ := d1
  obtain ⟨t, ht⟩ : ∃ t, t = k * s := ⟨_, rfl⟩
  have t0 : 0 ≤ t := by rw [ht]; exact Rat.mul_nonneg (Rat.le_of_lt k0) s0
  have t1 : t ≤ 3 / 2 := by rw [ht]; have := mul_le_mul' k1 s1 (Rat.le_of_lt k0) (by decide); grind
  rw [← ht] at e2 e3 e4
  have hca := unit_abs hc
  have dif : ∀ {q p P r v : Rat}, (q - p).abs ≤ 1 / 250000 → (p - c * t * r).abs ≤ 1 / 400000 * (401 / 100) → (v - r).abs ≤ 1 / 250000 → (q - c * t * v).abs ≤ 1 / 45000 := by
    intro q p P r v q1 q2 q3
    have q4 : (c * t * (v - r)).abs ≤ 3 / 2 * (1 / 250000) := by
      rw [mul_abs, mul_abs, hca, Rat.one_mul, Rat.abs_of_nonneg t0]
      exact mul_le_mul' t1 q3 t0 (by decide +kernel)
    obtain ⟨u1, u2⟩ := abs_bounds q1
    obtain ⟨u3, u4⟩ := abs_bounds q2
    obtain ⟨u5, u6⟩ := abs_bounds q4
    exact abs_le (by grind) (by grind)
  have x1 := dif (P := 0) f2 e2 g2
  have y1 := dif (P := 0) f3 e3 g3
  have z1 := dif (P := 0) f4 e4 g4
  have hl := len_le (s := t) (n := 1 / 45000) (c := c) m2 m4 t0 (by grind) (by decide +kernel) hc l3 m3 (ex := val (apartQ a z).x - c * t * val (apartQ a b).x) (ey := val (apartQ a z).y - c * t * val (apartQ a b).y) (ez := val (apartQ a z).z - c * t * val (apartQ a b).z) (by grind) (by grind) (by grind) x1 y1 z1
  -- the second one's parts
  have hl2 : val (lenV (apartQ a b).x (apartQ a b).y (apartQ a b).z) ≤ 101 / 100 := by
    have sum : ∀ {v x : Rat}, (v - x).abs ≤ 1 / 250000 → x.abs ≤ 1001 / 1000 → v * v ≤ x * x + 1 / 100000 := by
      intro v x h1 h2
      have e : v * v - x * x = (v - x) * (v + x) := by grind
      have h3 : (v + x).abs ≤ 201 / 100 := by
        obtain ⟨a1, a2⟩ := abs_bounds h1
        obtain ⟨a3, a4⟩ := abs_bounds h2
        exact abs_le (by grind) (by grind)
      have h4 : ((v - x) * (v + x)).abs ≤ 1 / 100000 := by
        rw [mul_abs]
        exact Rat.le_trans (mul_le_mul' h1 h3 Rat.abs_nonneg (by decide +kernel)) (by decide +kernel)
      have := (abs_bounds h4).1
      grind
    have q1 := sum g2 d2.2.1
    have q2 := sum g3 d2.2.2.1
    have q3 := sum g4 d2.2.2.2
    obtain ⟨q4, q5⟩ := abs_bounds m3
    have q6 := sq_nonneg (cmulR (vq a) (vq b)).w
    unfold innR at d4
    refine le_of_sq (by decide +kernel) ?_
    refine Rat.le_trans (b := 1001 / 1000) ?_ (by decide +kernel)
    grind
  have hw2 : (val (apartQ a b).w).abs ≤ 1002 / 1000 := by
    obtain ⟨q1, q2⟩ := abs_bounds g1
    obtain ⟨q3, q4⟩ := abs_bounds d2.1
    exact abs_le (by grind) (by grind)
  -- the first numbers
  have hw : t * (val (apartQ a b).w).abs ≤ (val (apartQ a z).w).abs + 6 / 100000 := by
    obtain ⟨q1, q2⟩ := abs_bounds g1
    obtain ⟨q3, q4⟩ := abs_bounds f1
    obtain ⟨q5, q6⟩ := abs_bounds e1
    have hr : (val (apartQ a b).w).abs ≤ c * (cmulR (vq a) (vq b)).w + 3 / 100000 := by
      have hcr : (cmulR (vq a) (vq b)).w.abs = (c * (cmulR (vq a) (vq b)).w).abs := by rw [mul_abs, hca, Rat.one_mul]
      have h1 : (val (apartQ a b).w).abs ≤ (cmulR (vq a) (vq b)).w.abs + 1 / 250000 := by
        rcases abs_cases (cmulR (vq a) (vq b)).w with ⟨t1, t2⟩ | ⟨t1, t2⟩ <;> rw [t2] <;> exact abs_le (by grind) (by grind)
      rw [hcr] at h1
      rcases abs_cases (c * (cmulR (vq a) (vq b)).w) with ⟨t1, t2⟩ | ⟨t1, t2⟩ <;> rw [t2] at h1 <;> grind
    have h2 := Rat.mul_le_mul_of_nonneg_left hr t0
    have hA : 0 ≤ k * ((1 - s) * innR (vq a) (vq a)) := by
      refine Rat.mul_nonneg (Rat.le_of_lt k0) (Rat.mul_nonneg (by grind) ?_)
      have := (abs_bounds ha.2).2
      grind
    have hP : t * (c * (cmulR (vq a) (vq b)).w) ≤ k * ((1 - s) * innR (vq a) (vq a) + s * (c * (cmulR (vq a) (vq b)).w)) := by rw [ht]; grind
    have h3 : val (apartQ a z).w ≤ (val (apartQ a z).w).abs := by
      rcases abs_cases (val (apartQ a z).w) with ⟨_, t2⟩ | ⟨_, t2⟩ <;> rw [t2] <;> grind
    grind
  have fin : val (lenV (apartQ a z).x (apartQ a z).y (apartQ a z).z) * (val (apartQ a b).w).abs ≤ val (lenV (apartQ a b).x (apartQ a b).y (apartQ a b).z) * (val (apartQ a z).w).abs + 2 / 10000 := by
    have w0 := Rat.abs_nonneg (x := val (apartQ a b).w)
    have h1 := Rat.mul_le_mul_of_nonneg_right hl w0
    have h2 := Rat.mul_le_mul_of_nonneg_left hw m2
    grind
  have := angQ_mono c5 d5 (by decide +kernel) fin
  grind
end
end Go.Fw
