
import Derived.Test.YtblpjlaihgcilafFwFA2
namespace Go.Fw
open Go
noncomputable section
theorem ratio_near {a b : F64} (ha : Num a) (hb : Num b) (h0 : 0 ≤ val a) (h1 : val a ≤ val b) (h2 : 0 < val b) : ∃ q, q * val b = val a ∧ 0 ≤ q ∧ q ≤ 1 ∧ (val (a.div b) - q).abs ≤ 1 / 1000000000000000 := by
  have hb0 : val b ≠ 0 := fun h => by rw [h] at h2; exact absurd h2 Rat.lt_irrefl
  obtain ⟨q, hq⟩ := quot_ex (a := val a) hb0
  have hq0 : 0 ≤ q := by
    refine Rat.not_lt.1 fun hn => ?_
    have := Rat.mul_lt_mul_of_pos_right hn h2
    rw [hq, Rat.zero_mul] at this
    exact absurd h0 (Rat.not_le.2 this)
  have hq1 : q ≤ 1 := by
    refine Rat.not_lt.1 fun hn => ?_
    have := Rat.mul_lt_mul_of_pos_right hn h2
    rw [hq, Rat.one_mul] at this
    exact absurd h1 (Rat.not_le.2 this)
  obtain ⟨d1, d2, d3⟩ := div64 ha hb hb0 hq (by rw [Rat.abs_of_nonneg hq0]; grind)
  rw [Rat.abs_of_nonneg hq0] at d2
  exact ⟨q, hq, hq0, hq1, by grind⟩
theorem ang_cases {y x : F64} (hy : Num y) (hx : Num x) (h0 : 0 ≤ val y) (h1 : 0 ≤ val x) (hz : 0 < val y ∨ 0 < val x) :
    (val y ≤ val x ∧ 0 < val x ∧ ∃ t, Num t ∧ 0 ≤ val t ∧ val t ≤ 1 + 1 / 1000000000000 ∧ (∃ q, q * val x = val y ∧ 0 ≤ q ∧ q ≤ 1 ∧ (val t - q).abs ≤ 1 / 1000000000000000) ∧ angF y x = coreF t) ∨
    (val x < val y ∧ 0 < val y ∧ ∃ t, Num t ∧ 0 ≤ val t ∧ val t ≤ 1 + 1 / 1000000000000 ∧ (∃ q, q * val y = val x ∧ 0 ≤ q ∧ q ≤ 1 ∧ (val t - q).abs ≤ 1 / 1000000000000000) ∧ Num (angF y x) ∧ (val (angF y x) - (1 / 4 - val (coreF t))).abs ≤ 1 / 1000000000000000) := by
  obtain ⟨y1, y2⟩ := abs_val hy
  obtain ⟨x1, x2⟩ := abs_val hx
  rw [Rat.abs_of_nonneg h0] at y2
  rw [Rat.abs_of_nonneg h1] at x2
  have nx : x.lt' o0 = false := by
    rw [← Bool.not_eq_true, lt_val hx o0_val.1, o0_val.2]; exact Rat.not_lt.2 h1
  have ny : y.lt' o0 = false := by
    rw [← Bool.not_eq_true, lt_val hy o0_val.1, o0_val.2]; exact Rat.not_lt.2 h0
  unfold angF
  rw [nx, ny]
  simp only [Bool.false_eq_true, if_false]
  cases hg : y.abs.gt x.abs
  · left
    simp only [Bool.false_eq_true, if_false]
    have hg' : ¬ y.abs.gt x.abs = true := by rw [hg]; exact Bool.false_ne_true
    rw [gt_val y1 x1, y2, x2] at hg'
    have hp : 0 < val x := by rcases hz with h | h <;> grind
    obtain ⟨a, b, c⟩ := ratio_in y1 x1 (by rw [y2]; exact h0) (by rw [y2, x2]; exact Rat.not_lt.1 hg') (by rw [x2]; exact hp)
    obtain ⟨q, q1, q2, q3, q4⟩ := ratio_near y1 x1 (by rw [y2]; exact h0) (by rw [y2, x2]; exact Rat.not_lt.1 hg') (by rw [x2]; exact hp)
    rw [y2, x2] at q1
    exact ⟨Rat.not_lt.1 hg', hp, _, a, b, c, ⟨q, q1, q2, q3, q4⟩, rfl⟩
  · right
    simp only [if_true]
    rw [gt_val y1 x1, y2, x2] at hg
    have hp : 0 < val y := by grind
    obtain ⟨a, b, c⟩ := ratio_in x1 y1 (by rw [x2]; exact h1) (by rw [y2, x2]; exact Rat.le_of_lt hg) (by rw [y2]; exact hp)
    obtain ⟨q, q1, q2, q3, q4⟩ := ratio_near x1 y1 (by rw [x2]; exact h1) (by rw [y2, x2]; exact Rat.le_of_lt hg) (by rw [y2]; exact hp)
    rw [y2, x2] at q1
    obtain ⟨d, e, f⟩ := core_in a b c
    obtain ⟨g1, g2⟩ := oQ_val
    have hs : 0 ≤ val oQ - val (coreF (x.abs.div y.abs)) := by rw [g2]; grind
    obtain ⟨s1, s2, s3, -⟩ := sub64 g1 d (by rw [Rat.abs_of_nonneg hs, g2]; grind)
    unfold o64 at s2
    rw [Rat.abs_of_nonneg hs, g2] at s2
    refine ⟨hg, hp, _, a, b, c, ⟨q, q1, q2, q3, q4⟩, s1, Rat.le_trans s2 ?_⟩
    grind
theorem ang_mono {y1 x1 y2 x2 : F64} {e : Rat} (ny1 : Num y1) (nx1 : Num x1) (ny2 : Num y2) (nx2 : Num x2) (py1 : 0 ≤ val y1) (px1 : 0 ≤ val x1) (py2 : 0 ≤ val y2) (px2 : 0 ≤ val x2)
    (b1 : 1 / 2 ≤ val y1 ∨ 1 / 2 ≤ val x1) (b2 : 1 / 2 ≤ val y2 ∨ 1 / 2 ≤ val x2) (he : 0 ≤ e) (h : val y1 * val x2 ≤ val y2 * val x1 + e) : val (angF y1 x1) ≤ val (angF y2 x2) + 2 * e + 1 / 100000000 := by
  have one : Num o1 ∧ 0 ≤ val o1 ∧ val o1 ≤ 1 + 1 / 1000000000000 := ⟨o1_val.1, by rw [o1_val.2]; decide, by rw [o1_val.2]; decide +kernel⟩
  have hone := o1_val.2
  obtain ⟨co1, co2⟩ := abs_bounds core_one
  have four : ∀ {a b : Rat}, 1 / 2 ≤ a → 1 / 2 ≤ b → 1 / 4 ≤ a * b := fun {a b} ha hb => by
    have := mul_le_mul' ha hb (by decide +kernel) (by grind)
    grind
  rcases ang_cases ny1 nx1 py1 px1 (by grind) with ⟨c1, c2, t1, n1, p1, l1, ⟨q1, e1, f1, g1, d1⟩, r1⟩ | ⟨c1, c2, t1, n1, p1, l1, ⟨q1, e1, f1, g1, d1⟩, r0, r1⟩ <;>
  rcases ang_cases ny2 nx2 py2 px2 (by grind) with ⟨k1, k2, t2, n2, p2, l2, ⟨q2, e2, f2, g2, d2⟩, s1⟩ | ⟨k1, k2, t2, n2, p2, l2, ⟨q2, e2, f2, g2, d2⟩, s0, s1⟩
  ·
    have hx1 : 1 / 2 ≤ val x1 := by grind
    have hx2 : 1 / 2 ≤ val x2 := by grind
    have hq : q1 ≤ q2 + 4 * e := by
      have hxx := four hx1 hx2
      refine Rat.le_of_mul_le_mul_right (c := val x1 * val x2) ?_ (by grind)
      have z1 : q1 * (val x1 * val x2) = val y1 * val x2 := by rw [← e1]; grind
      have z2 : q2 * (val x1 * val x2) = val y2 * val x1 := by rw [← e2]; grind
      have z3 := Rat.mul_le_mul_of_nonneg_left hxx (show 0 ≤ 4 * e by grind)
      grind
    obtain ⟨u1, u2⟩ := abs_bounds d1
    obtain ⟨u3, u4⟩ := abs_bounds d2
    have := core_mono (k := 4 * e + 2 / 1000000000000000) n1 n2 p1 l1 p2 l2 (by grind) (by grind)
    rw [r1, s1]
    grind
  ·
    have m1 := core_mono (k := 1 / 1000000000000) n1 one.1 p1 l1 one.2.1 one.2.2 (by decide +kernel) (by rw [hone]; exact l1)
    have m2 := core_mono (k := 1 / 1000000000000) n2 one.1 p2 l2 one.2.1 one.2.2 (by decide +kernel) (by rw [hone]; exact l2)
    obtain ⟨v1, v2⟩ := abs_bounds s1
    rw [r1]
    grind
  ·
    have hy1 : 1 / 2 ≤ val y1 := by grind
    have hx2 : 1 / 2 ≤ val x2 := by grind
    have hxx := four hy1 hx2
    have hq : 1 ≤ q1 * q2 + 4 * e := by
      refine Rat.le_of_mul_le_mul_right (c := val y1 * val x2) ?_ (by grind)
      have z1 : q1 * q2 * (val y1 * val x2) = val y2 * val x1 := by rw [← e1, ← e2]; grind
      have z3 := Rat.mul_le_mul_of_nonneg_left hxx (show 0 ≤ 4 * e by grind)
      grind
    have hq1 : q1 * q2 ≤ q1 := by have := Rat.mul_le_mul_of_nonneg_left g2 f1; grind
    have hq2 : q1 * q2 ≤ q2 := by have := Rat.mul_le_mul_of_nonneg_right g1 f2; grind
    obtain ⟨u1, u2⟩ := abs_bounds d1
    obtain ⟨u3, u4⟩ := abs_bounds d2
    have m1 := core_mono (k := 4 * e + 1 / 1000000000000000) one.1 n1 one.2.1 one.2.2 p1 l1 (by grind) (by rw [hone]; grind)
    have m2 := core_mono (k := 4 * e + 1 / 1000000000000000) one.1 n2 one.2.1 one.2.2 p2 l2 (by grind) (by rw [hone]; grind)
    obtain ⟨v1, v2⟩ := abs_bounds r1
    rw [s1]
    grind
  ·
    have hy1 : 1 / 2 ≤ val y1 := by grind
    have hy2 : 1 / 2 ≤ val y2 := by grind
    have hq : q2 ≤ q1 + 4 * e := by
      have hxx := four hy1 hy2
      refine Rat.le_of_mul_le_mul_right (c := val y1 * val y2) ?_ (by grind)
      have z1 : q2 * (val y1 * val y2) = val y1 * val x2 := by rw [← e2]; grind
      have z2 : q1 * (val y1 * val y2) = val y2 * val x1 := by rw [← e1]; grind
      have z3 := Rat.mul_le_mul_of_nonneg_left hxx (show 0 ≤ 4 * e by grind)
      grind
    obtain ⟨u1, u2⟩ := abs_bounds d1
    obtain ⟨u3, u4⟩ := abs_bounds d2
    have m := core_mono (k := 4 * e + 2 / 1000000000000000) n2 n1 p2 l2 p1 l1 (by grind) (by grind)
    obtain ⟨v1, v2⟩ := abs_bounds r1
    obtain ⟨v3, v4⟩ := abs_bounds s1
    grind
theorem ang_small {y x : F64} {e : Rat} (ny : Num y) (nx : Num x) (py : 0 ≤ val y) (px : 1 / 2 ≤ val x) (he : e ≤ 1 / 4) (h : val y ≤ e) : 0 ≤ val (angF y x) ∧ val (angF y x) ≤ e * (1 / 2) + 1 / 1000000000 := by
  have hx0 : 0 < val x := by grind
  refine ⟨(ang_in ny nx py (by grind) (.inr hx0)).2.1, ?_⟩
  rcases ang_cases ny nx py (by grind) (.inr hx0) with ⟨c1, c2, t1, n1, p1, l1, ⟨q1, e1, f1, g1, d1⟩, r1⟩ | ⟨c1, _⟩
  · have := (core_in n1 p1 l1).2.2
    obtain ⟨u1, u2⟩ := abs_bounds d1
    have hq : q1 ≤ 2 * e := by
      have : q1 * (1 / 2) ≤ val y := by rw [← e1]; exact Rat.mul_le_mul_of_nonneg_left px f1
      grind
    rw [r1]
    grind
  · grind
end
end Go.Fw
