
import Derived.Test.YtblpjlaihgcilafFwFN
namespace Go.Fw
open Go
noncomputable section
def o1 : F64 := Fl.mk (k := .f64) 4607182418800017408 (by decide)
def o0 : F64 := Fl.mk (k := .f64) 0 (by decide)
def o8 : F64 := Fl.mk (k := .f64) 4620693217682128896 (by decide)
def oC : F64 := Fl.mk (k := .f64) 4618760256179416344 (by decide)
def oQ : F64 := Fl.mk (k := .f64) 4598175219545276416 (by decide)
def oH : F64 := Fl.mk (k := .f64) 4602678819172646912 (by decide)
theorem o1_val : Num o1 ∧ val o1 = 1 := one64
theorem o0_val : Num o0 ∧ val o0 = 0 := const_val (s := false) (m := 0) (p := -1074) (by decide) (by decide +kernel)
theorem o8_val : Num o8 ∧ val o8 = 8 := const_val (s := false) (m := 4503599627370496) (p := -49) (by decide) (by decide +kernel)
theorem oQ_val : Num oQ ∧ val oQ = 1 / 4 := const_val (s := false) (m := 4503599627370496) (p := -54) (by decide) (by decide +kernel)
theorem oH_val : Num oH ∧ val oH = 1 / 2 := const_val (s := false) (m := 4503599627370496) (p := -53) (by decide) (by decide +kernel)
theorem oC_val : Num oC ∧ val oC = 7074237752028440 / 1125899906842624 := const_val (s := false) (m := 7074237752028440) (p := -50) (by decide) (by decide +kernel)
def halfF (x : F64) : F64 := x.div (o1.add (o1.add (x.mul x)).sqrt)
def serS (x y : F64) (n : Int) : F64 := (o1.div (Fl.ofInt .f64 n)).sub ((x.mul x).mul y)
def serN (x : F64) : Nat → F64
  | 0 => o0
  | j + 1 => serS x (serN x j) (15 - 2 * (j : Int))
def coreF (x : F64) : F64 := (o8.mul ((halfF (halfF (halfF x))).mul (serN (halfF (halfF (halfF x))) 8))).div oC
def angF (y x : F64) : F64 :=
  let b := (if y.abs.gt x.abs = true then oQ.sub (coreF (x.abs.div y.abs)) else coreF (y.abs.div x.abs))
  let c := (if x.lt' o0 = true then oH.sub b else b)
  if y.lt' o0 = true then c.neg else c
/-! The series. -/
theorem odd_val {j : Nat} (hj : j < 8) : Num (Fl.ofInt .f64 (15 - 2 * (j : Int))) ∧ val (Fl.ofInt .f64 (15 - 2 * (j : Int))) = 15 - 2 * (j : Rat) := by
  match j, hj with
  | 0, _ => exact const_val (s := false) (m := 8444249301319680) (p := -49) (by decide) (by decide +kernel)
  | 1, _ => exact const_val (s := false) (m := 7318349394477056) (p := -49) (by decide) (by decide +kernel)
  | 2, _ => exact const_val (s := false) (m := 6192449487634432) (p := -49) (by decide) (by decide +kernel)
  | 3, _ => exact const_val (s := false) (m := 5066549580791808) (p := -49) (by decide) (by decide +kernel)
  | 4, _ => exact const_val (s := false) (m := 7881299347898368) (p := -50) (by decide) (by decide +kernel)
  | 5, _ => exact const_val (s := false) (m := 5629499534213120) (p := -50) (by decide) (by decide +kernel)
  | 6, _ => exact const_val (s := false) (m := 6755399441055744) (p := -51) (by decide) (by decide +kernel)
  | 7, _ => exact const_val (s := false) (m := 4503599627370496) (p := -52) (by decide) (by decide +kernel)
  | n + 8, h => omega
def serR (u : Rat) : Nat → Rat
  | 0 => 0
  | j + 1 => 1 / (15 - 2 * (j : Rat)) - u * serR u j
theorem serR_in {u : Rat} (h0 : 0 ≤ u) (h1 : u ≤ 1 / 16) : ∀ j, j ≤ 8 → 0 ≤ serR u j ∧ serR u j ≤ 1 := by
  intro j
  induction j with
  | zero => intro _; exact ⟨Rat.le_refl, show (0 : Rat) ≤ 1 by decide +kernel⟩
  | succ j ih =>
    intro hj
    obtain ⟨a, b⟩ := ih (by omega)
    have hc : (1 : Rat) / 15 ≤ 1 / (15 - 2 * (j : Rat)) ∧ 1 / (15 - 2 * (j : Rat)) ≤ 1 := by
      match j, hj with
      | 0, _ => decide +kernel
      | 1, _ => decide +kernel
      | 2, _ => decide +kernel
      | 3, _ => decide +kernel
      | 4, _ => decide +kernel
      | 5, _ => decide +kernel
      | 6, _ => decide +kernel
      | 7, _ => decide +kernel
      | n + 8, h => omega
    have h2 : 0 ≤ u * serR u j := Rat.mul_nonneg h0 a
    have h3 : u * serR u j ≤ 1 / 16 := by have := mul_le_mul' h1 b h0 (by decide +kernel); grind
    unfold serR
    grind
theorem ser_step {x y : F64} {Y : Rat} {j : Nat} (hj : j < 8) (hx : Num x) (h0 : 0 ≤ val x) (h1 : val x ≤ 1 / 4) (hy : Num y) (hY : 0 ≤ Y ∧ Y ≤ 1) (hc : (val y - Y).abs ≤ 1 / 281474976710656) :
    Num (serS x y (15 - 2 * (j : Int))) ∧ (val (serS x y (15 - 2 * (j : Int))) - (1 / (15 - 2 * (j : Rat)) - val x * val x * Y)).abs ≤ 1 / 281474976710656 := by
  unfold serS
  obtain ⟨n1, n2⟩ := odd_val hj
  generalize Fl.ofInt .f64 (15 - 2 * (j : Int)) = N at *
  have hc2 : (1 : Rat) ≤ 15 - 2 * (j : Rat) ∧ 15 - 2 * (j : Rat) ≠ 0 ∧ 0 ≤ 1 / (15 - 2 * (j : Rat)) ∧ 1 / (15 - 2 * (j : Rat)) ≤ 1 := by
    match j, hj with
    | 0, _ => decide +kernel
    | 1, _ => decide +kernel
    | 2, _ => decide +kernel
    | 3, _ => decide +kernel
    | 4, _ => decide +kernel
    | 5, _ => decide +kernel
    | 6, _ => decide +kernel
    | 7, _ => decide +kernel
    | n + 8, h => omega
  obtain ⟨g1, g2, g3, g4⟩ := hc2
  obtain ⟨d1, d2, d3⟩ := div64 o1_val.1 n1 (by rw [n2]; exact g2) (q := 1 / (15 - 2 * (j : Rat))) (by rw [n2, o1_val.2]; exact Rat.div_mul_cancel g2) (by rw [Rat.abs_of_nonneg g3]; grind)
  rw [Rat.abs_of_nonneg g3] at d2
  obtain ⟨d4, d5⟩ := abs_bounds d2
  generalize o1.div N = D at *
  generalize 1 / (15 - 2 * (j : Rat)) = c at *
  generalize ht : val x = t at *
  have htt : 0 ≤ t * t := Rat.mul_nonneg h0 h0
  have htt2 : t * t ≤ 1 / 16 := by have := mul_le_mul' h1 h1 h0 (by decide +kernel); grind
  obtain ⟨m1, m2, m3, -⟩ := mul64 hx hx (by rw [ht, Rat.abs_of_nonneg htt]; grind)
  rw [ht] at m2 m3
  unfold o64 at m2
  rw [Rat.abs_of_nonneg htt] at m2
  have m6 := m3 htt
  clear m3
  obtain ⟨m4, m5⟩ := abs_bounds m2
  generalize x.mul x = X at *
  obtain ⟨c1, c2⟩ := abs_bounds hc
  generalize hv : val y = v at *
  have hva : v.abs ≤ 2 := abs_le (by grind) (by grind)
  have hXa : (val X).abs ≤ 1 / 15 := abs_le (by grind) (by grind)
  have hXv : (val X * v).abs ≤ 1 / 7 := by
    rw [mul_abs]
    have := mul_le_mul' hXa hva Rat.abs_nonneg (by decide)
    grind
  have hdiff : (val X * v - t * t * Y).abs ≤ 1 / 1125899906842624 + 1 / 16 * (1 / 281474976710656) := by
    have e : val X * v - t * t * Y = (val X - t * t) * v + t * t * (v - Y) := by grind
    rw [e]
    have p1 : ((val X - t * t) * v).abs ≤ 1 / 1125899906842624 := by
      rw [mul_abs]
      have := mul_le_mul' m2 hva Rat.abs_nonneg (by decide +kernel)
      grind
    have p2 : (t * t * (v - Y)).abs ≤ 1 / 16 * (1 / 281474976710656) := by
      rw [mul_abs, Rat.abs_of_nonneg htt]
      exact mul_le_mul' htt2 hc htt (by decide +kernel)
    obtain ⟨p3, p4⟩ := abs_bounds p1
    obtain ⟨p5, p6⟩ := abs_bounds p2
    refine abs_le ?_ ?_ <;> grind
  obtain ⟨k1, k2, -, -⟩ := mul64 m1 hy (by rw [hv]; grind)
  rw [hv] at k2
  unfold o64 at k2
  have k3 : (val (X.mul y) - val X * v).abs ≤ 1 / 7 * (1 / 4503599627370496) + 1 / 1000000000000000000000000000000 := by grind
  obtain ⟨k4, k5⟩ := abs_bounds k3
  obtain ⟨q1, q2⟩ := abs_bounds hdiff
  generalize X.mul y = W at *
  have hDW : (val D - val W).abs ≤ 2 := by
    obtain ⟨z1, z2⟩ := abs_bounds hXv
    exact abs_le (by grind) (by grind)
  obtain ⟨s1, s2, -, -⟩ := sub64 d1 k1 (by grind)
  unfold o64 at s2
  have s3 : (val (D.sub W) - (val D - val W)).abs ≤ 2 * (1 / 4503599627370496) + 1 / 1000000000000000000000000000000 := by grind
  obtain ⟨s4, s5⟩ := abs_bounds s3
  refine ⟨s1, ?_⟩
  refine abs_le ?_ ?_ <;> grind
theorem ser_val {x : F64} (hx : Num x) (h0 : 0 ≤ val x) (h1 : val x ≤ 1 / 4) : ∀ j, j ≤ 8 → Num (serN x j) ∧ (val (serN x j) - serR (val x * val x) j).abs ≤ 1 / 281474976710656 := by
  have htt : 0 ≤ val x * val x := Rat.mul_nonneg h0 h0
  have htt2 : val x * val x ≤ 1 / 16 := by have := mul_le_mul' h1 h1 h0 (by decide +kernel); grind
  intro j
  induction j with
  | zero =>
    intro _
    refine ⟨o0_val.1, ?_⟩
    show (val o0 - 0).abs ≤ _
    rw [o0_val.2]
    decide +kernel
  | succ j ih =>
    intro hj
    obtain ⟨a, b⟩ := ih (by omega)
    exact ser_step (by omega) hx h0 h1 a (serR_in htt htt2 j (by omega)) b
/-! The angle out of a ratio. -/
theorem half3 {x : F64} (hx : Num x) (h0 : 0 ≤ val x) (h1 : val x ≤ 1 + 1 / 1000000000000) : Num (halfF (halfF (halfF x))) ∧ 0 ≤ val (halfF (halfF (halfF x))) ∧ val (halfF (halfF (halfF x))) ≤ val x * (1 / 8) * (1 + 1 / 10000000000000) + 1 / 10000000000000000000000000000 := by
  obtain ⟨a1, a2, r, r1, r2, r3⟩ := half64 o1_val hx h0 (by grind)
  have a3 := half_le h0 a2 r1 r2 r3
  obtain ⟨b1, b2, s, s1, s2, s3⟩ := half64 o1_val (x := halfF x) a1 a2 (show val (halfF x) ≤ 2 by unfold halfF; grind)
  have b3 := half_le a2 b2 s1 s2 s3
  obtain ⟨c1, c2, q, q1, q2, q3⟩ := half64 o1_val (x := halfF (halfF x)) b1 b2 (show val (halfF (halfF x)) ≤ 2 by unfold halfF at *; grind)
  have c3 := half_le b2 c2 q1 q2 q3
  refine ⟨c1, c2, ?_⟩
  unfold halfF at *
  grind
theorem core_in {x : F64} (hx : Num x) (h0 : 0 ≤ val x) (h1 : val x ≤ 1 + 1 / 1000000000000) : Num (coreF x) ∧ 0 ≤ val (coreF x) ∧ val (coreF x) ≤ val x * (1 / 6) + 1 / 1000000000000 := by
  obtain ⟨a, b, c⟩ := half3 hx h0 h1
  unfold coreF
  generalize halfF (halfF (halfF x)) = z at *
  have hz : val z ≤ 1 / 7 := by grind
  obtain ⟨s1, s2⟩ := ser_val a b (by grind) 8 (Nat.le_refl _)
  have htt : 0 ≤ val z * val z := Rat.mul_nonneg b b
  have htt2 : val z * val z ≤ 1 / 49 := by have := mul_le_mul' hz hz b (by decide +kernel); grind
  obtain ⟨r1, r2⟩ := serR_in htt (by grind) 7 (by omega)
  have r3 : serR (val z * val z) 8 = 1 - val z * val z * serR (val z * val z) 7 := by
    show 1 / (15 - 2 * ((7 : Nat) : Rat)) - _ = _
    rw [show (1 : Rat) / (15 - 2 * ((7 : Nat) : Rat)) = 1 by decide +kernel]
  have r4 : 0 ≤ val z * val z * serR (val z * val z) 7 := Rat.mul_nonneg htt r1
  have r5 : val z * val z * serR (val z * val z) 7 ≤ 1 / 49 := by have := mul_le_mul' htt2 r2 htt (by decide +kernel); grind
  obtain ⟨s3, s4⟩ := abs_bounds s2
  generalize serN z 8 = p at *
  have p0 : 0 ≤ val p := by grind
  have p1 : val p ≤ 1 + 1 / 281474976710656 := by grind
  clear s2 s3 s4 r1 r2 r3 r4 r5
  have e0 := Rat.mul_nonneg b p0
  have e1 : val z * val p ≤ val z + val z * (1 / 281474976710656) := by have := Rat.mul_le_mul_of_nonneg_left p1 b; grind
  obtain ⟨m1, m2, m3, -⟩ := mul64 a s1 (by rw [Rat.abs_of_nonneg e0]; grind)
  unfold o64 at m2
  rw [Rat.abs_of_nonneg e0] at m2
  obtain ⟨m4, m5⟩ := abs_bounds m2
  have m6 := m3 e0
  clear m3
  generalize z.mul p = w at *
  obtain ⟨g1, g2⟩ := o8_val
  obtain ⟨n1, n2, n3, -⟩ := mul64 g1 m1 (by rw [g2, Rat.abs_of_nonneg (by grind)]; grind)
  rw [g2] at n2 n3
  unfold o64 at n2
  rw [Rat.abs_of_nonneg (show 0 ≤ 8 * val w by grind)] at n2
  obtain ⟨n4, n5⟩ := abs_bounds n2
  have n6 := n3 (by grind)
  clear n3
  generalize o8.mul w = v at *
  obtain ⟨k1, k2⟩ := oC_val
  have hC : val oC ≠ 0 := by rw [k2]; decide +kernel
  have hC1 : (6 : Rat) ≤ val oC := by rw [k2]; decide +kernel
  obtain ⟨q, hq⟩ := quot_ex (a := val v) hC
  have hq0 : 0 ≤ q := by
    refine Rat.not_lt.1 fun hn => ?_
    have := Rat.mul_lt_mul_of_pos_right hn (show 0 < val oC by grind)
    rw [hq, Rat.zero_mul] at this
    exact absurd n6 (Rat.not_le.2 this)
  have hq1 : q * 6 ≤ val v := by rw [← hq]; exact Rat.mul_le_mul_of_nonneg_left hC1 hq0
  obtain ⟨d1, d2, d3⟩ := div64 n1 k1 hC hq (by rw [Rat.abs_of_nonneg hq0]; grind)
  rw [Rat.abs_of_nonneg hq0] at d2
  obtain ⟨d4, d5⟩ := abs_bounds d2
  refine ⟨d1, d3 n6 (by grind), ?_⟩
  grind
theorem ratio_in {a b : F64} (ha : Num a) (hb : Num b) (h0 : 0 ≤ val a) (h1 : val a ≤ val b) (h2 : 0 < val b) : Num (a.div b) ∧ 0 ≤ val (a.div b) ∧ val (a.div b) ≤ 1 + 1 / 1000000000000 := by
  have hb0 : val b ≠ 0 := fun h => by rw [h] at h2; exact absurd h2 Rat.lt_irrefl
  obtain ⟨q, hq⟩ := quot_ex (a := val a) hb0
  have hq0 : 0 ≤ q := by
    refine Rat.not_lt.1 fun hn => ?_
    have := Rat.mul_lt_mul_of_pos_right hn h2
    rw [hq, Rat.zero_mul] at this
    exact absurd h0 (Rat.not_le.2 this)
  have hq1 : q ≤ 1 := by
    refine Rat.not_lt.1 fun hn => ?_
    have := Rat.mul_lt_mul_of_pos_right hn h2
    rw [hq, Rat.one_mul] at this
    exact absurd h1 (Rat.not_le.2 this)
  obtain ⟨d1, d2, d3⟩ := div64 ha hb hb0 hq (by rw [Rat.abs_of_nonneg hq0]; grind)
  rw [Rat.abs_of_nonneg hq0] at d2
  obtain ⟨d4, d5⟩ := abs_bounds d2
  exact ⟨d1, d3 h0 h2, by grind⟩
theorem ang_in {y x : F64} (hy : Num y) (hx : Num x) (h0 : 0 ≤ val y) (h1 : 0 ≤ val x) (hz : 0 < val y ∨ 0 < val x) : Num (angF y x) ∧ 0 ≤ val (angF y x) ∧ val (angF y x) ≤ 26 / 100 := by
  obtain ⟨y1, y2⟩ := abs_val hy
  obtain ⟨x1, x2⟩ := abs_val hx
  rw [Rat.abs_of_nonneg h0] at y2
  rw [Rat.abs_of_nonneg h1] at x2
  have nx : x.lt' o0 = false := by
    rw [← Bool.not_eq_true, lt_val hx o0_val.1, o0_val.2]; exact Rat.not_lt.2 h1
  have ny : y.lt' o0 = false := by
    rw [← Bool.not_eq_true, lt_val hy o0_val.1, o0_val.2]; exact Rat.not_lt.2 h0
  unfold angF
  rw [nx, ny]
  simp only [Bool.false_eq_true, if_false]
  cases hg : y.abs.gt x.abs
  · simp only [Bool.false_eq_true, if_false]
    have hg' : ¬ y.abs.gt x.abs = true := by rw [hg]; exact Bool.false_ne_true
    rw [gt_val y1 x1, y2, x2] at hg'
    obtain ⟨a, b, c⟩ := ratio_in y1 x1 (by rw [y2]; exact h0) (by rw [y2, x2]; exact Rat.not_lt.1 hg') (by rw [x2]; rcases hz with h | h <;> grind)
    obtain ⟨d, e, f⟩ := core_in a b c
    exact ⟨d, e, by grind⟩
  · simp only [if_true]
    rw [gt_val y1 x1, y2, x2] at hg
    obtain ⟨a, b, c⟩ := ratio_in x1 y1 (by rw [x2]; exact h1) (by rw [y2, x2]; exact Rat.le_of_lt hg) (by rw [y2]; grind)
    obtain ⟨d, e, f⟩ := core_in a b c
    obtain ⟨q1, q2⟩ := oQ_val
    have hs : 0 ≤ val oQ - val (coreF (x.abs.div y.abs)) := by rw [q2]; grind
    obtain ⟨s1, s2, s3, -⟩ := sub64 q1 d (by rw [Rat.abs_of_nonneg hs, q2]; grind)
    unfold o64 at s2
    rw [Rat.abs_of_nonneg hs, q2] at s2
    obtain ⟨s4, s5⟩ := abs_bounds s2
    exact ⟨s1, s3 hs, by grind⟩
end
end Go.Fw
