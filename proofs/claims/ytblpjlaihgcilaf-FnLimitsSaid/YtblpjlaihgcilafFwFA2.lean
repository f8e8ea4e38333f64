
import Derived.Test.YtblpjlaihgcilafFwFA
namespace Go.Fw
open Go
noncomputable section
theorem half_rel {t y r : Rat} (h0 : 0 ≤ t) (ht : t ≤ 1 + 1 / 1000000000000) (hy : 0 ≤ y) (hr : 0 ≤ r) (h1 : (r * r - (1 + t * t)).abs ≤ (1 + t * t) * (1 / 281474976710656)) (h2 : (y * (1 + r) - t).abs ≤ t * (1 / 281474976710656) + 1 / 100000000000000000000000000000) :
    (t * (1 - y * y) - 2 * y).abs ≤ 1 / 1000000000000 := by
  have hyt := half_le h0 hy hr h1 h2
  obtain ⟨a1, a2⟩ := abs_bounds h1
  obtain ⟨b1, b2⟩ := abs_bounds h2
  have htt : 0 ≤ t * t := Rat.mul_nonneg h0 h0
  have htt2 : t * t ≤ t * (1 + 1 / 1000000000000) := Rat.mul_le_mul_of_nonneg_left ht h0
  have hyy : 0 ≤ y * y := Rat.mul_nonneg hy hy
  by_cases hs : t ≤ 1 / 100000000000000
  · have hy1 : y ≤ 1 / 100000000000000 := by grind
    have hyy2 : y * y ≤ 1 := by have := mul_le_mul' hy1 hy1 hy (by decide +kernel); grind
    have hty := Rat.mul_nonneg h0 hyy
    have hty2 : t * (y * y) ≤ t := by have := Rat.mul_le_mul_of_nonneg_left hyy2 h0; grind
    refine abs_le ?_ ?_ <;> grind
  · have hs : 1 / 100000000000000 < t := Rat.not_le.1 hs
    have hy2 : y ≤ t * (51 / 100) := by grind
    have hyy2 : y * y ≤ t * (3 / 10) := by
      have := mul_le_mul' hy2 hy2 hy (by grind)
      grind
    have he1 : y * (1 + r) - t ≤ t * (1 / 140737488355328) ∧ -(t * (1 / 140737488355328)) ≤ y * (1 + r) - t := by constructor <;> grind
    have he2 : r * r - (1 + t * t) ≤ 1 / 70368744177664 ∧ -(1 / 70368744177664) ≤ r * r - (1 + t * t) := by constructor <;> grind
    generalize hE1 : y * (1 + r) - t = e1 at *
    generalize hE2 : r * r - (1 + t * t) = e2 at *
    have hZ : t * (t * (1 - y * y) - 2 * y) = y * y * e2 - e1 * e1 - 2 * t * e1 + 2 * y * e1 := by
      have q1 : y * r = t + e1 - y := by grind
      have q2 : y * y * (r * r) = (t + e1 - y) * (t + e1 - y) := by rw [← q1]; grind
      have q3 : r * r = 1 + t * t + e2 := by grind
      rw [q3] at q2
      grind
    generalize hX : t * (1 - y * y) - 2 * y = X at *
    have ha1 : e1.abs ≤ t * (1 / 140737488355328) := abs_le he1.1 he1.2
    have ha2 : e2.abs ≤ 1 / 70368744177664 := abs_le he2.1 he2.2
    have ht0 : 0 < t := by grind
    have z1 : (y * y * e2).abs ≤ t * (1 / 200000000000000) := by
      rw [mul_abs, Rat.abs_of_nonneg hyy]
      have := mul_le_mul' hyy2 ha2 hyy (by decide +kernel)
      grind
    have z2 : (e1 * e1).abs ≤ t * (1 / 1000000000000000000) := by
      rw [mul_abs]
      have := mul_le_mul' ha1 ha1 Rat.abs_nonneg (by grind)
      grind
    have z3 : (t * e1).abs ≤ t * (1 / 140000000000000) := by
      rw [mul_abs, Rat.abs_of_nonneg h0]
      have := Rat.mul_le_mul_of_nonneg_left ha1 h0
      grind
    have z4 : (y * e1).abs ≤ t * (1 / 140000000000000) := by
      rw [mul_abs, Rat.abs_of_nonneg hy]
      have := mul_le_mul' hy2 ha1 hy (by grind)
      grind
    obtain ⟨c1, c2⟩ := abs_bounds z1
    obtain ⟨c3, c4⟩ := abs_bounds z2
    obtain ⟨c5, c6⟩ := abs_bounds z3
    obtain ⟨c7, c8⟩ := abs_bounds z4
    refine abs_le ?_ ?_
    · refine Rat.le_of_mul_le_mul_left (c := t) ?_ ht0
      rw [hZ]; grind
    · refine Rat.le_of_mul_le_mul_left (c := t) ?_ ht0
      rw [hZ]; grind
theorem half_mono {t s y z k d : Rat} (hs : 0 ≤ s) (hy : 0 ≤ y) (hz : 0 ≤ z) (hk : 0 ≤ k) (hd : 0 ≤ d) (hy1 : y ≤ 1) (h1 : (t * (1 - y * y) - 2 * y).abs ≤ d) (h2 : (s * (1 - z * z) - 2 * z).abs ≤ d) (h : t ≤ s + k) : y ≤ z + k * (1 / 2) + d := by
  rcases Rat.le_total (a := y) (b := z) with hc | hc
  · grind
  · obtain ⟨a1, a2⟩ := abs_bounds h1
    obtain ⟨b1, b2⟩ := abs_bounds h2
    have hyy : y * y ≤ 1 := by have := mul_le_mul' hy1 hy1 hy (by decide); grind
    have hyy0 : 0 ≤ y * y := Rat.mul_nonneg hy hy
    have e1 := Rat.mul_le_mul_of_nonneg_right h (show 0 ≤ 1 - y * y by grind)
    have e2 : k * (1 - y * y) ≤ k := by have := Rat.mul_nonneg hk hyy0; grind
    have e3 : 0 ≤ s * (y * y - z * z) := by
      have : z * z ≤ y * y := mul_le_mul' hc hc hz hy
      exact Rat.mul_nonneg hs (by grind)
    grind
theorem half3_rel {x : F64} (hx : Num x) (h0 : 0 ≤ val x) (h1 : val x ≤ 1 + 1 / 1000000000000) : ∃ a b, 0 ≤ a ∧ a ≤ 1 ∧ 0 ≤ b ∧ b ≤ 1 ∧ Num (halfF (halfF (halfF x))) ∧ 0 ≤ val (halfF (halfF (halfF x))) ∧ val (halfF (halfF (halfF x))) ≤ 1 / 7 ∧
    (val x * (1 - a * a) - 2 * a).abs ≤ 1 / 1000000000000 ∧ (a * (1 - b * b) - 2 * b).abs ≤ 1 / 1000000000000 ∧ (b * (1 - val (halfF (halfF (halfF x))) * val (halfF (halfF (halfF x)))) - 2 * val (halfF (halfF (halfF x)))).abs ≤ 1 / 1000000000000 := by
  obtain ⟨a1, a2, r, r1, r2, r3⟩ := half64 o1_val hx h0 (by grind)
  have a3 := half_le h0 a2 r1 r2 r3
  have a4 := half_rel h0 h1 a2 r1 r2 r3
  obtain ⟨b1, b2, s, s1, s2, s3⟩ := half64 o1_val (x := halfF x) a1 a2 (show val (halfF x) ≤ 2 by unfold halfF; grind)
  have b3 := half_le a2 b2 s1 s2 s3
  have b4 := half_rel (t := val (halfF x)) a2 (by unfold halfF; grind) b2 s1 s2 s3
  obtain ⟨c1, c2, q, q1, q2, q3⟩ := half64 o1_val (x := halfF (halfF x)) b1 b2 (show val (halfF (halfF x)) ≤ 2 by unfold halfF at *; grind)
  have c3 := half_le b2 c2 q1 q2 q3
  have c4 := half_rel (t := val (halfF (halfF x))) b2 (by unfold halfF at *; grind) c2 q1 q2 q3
  refine ⟨val (halfF x), val (halfF (halfF x)), a2, ?_, b2, ?_, c1, c2, ?_, a4, b4, c4⟩ <;> unfold halfF at * <;> grind
/-! The series is steady. -/
theorem serR_lip {u v : Rat} (hu : 0 ≤ u) (hv : 0 ≤ v) (hu1 : u ≤ 1 / 16) (hv1 : v ≤ 1 / 16) : ∀ j, j ≤ 8 → (serR u j - serR v j).abs ≤ (u - v).abs * (11 / 10) := by
  intro j
  induction j with
  | zero =>
    intro _
    show ((0 : Rat) - 0).abs ≤ _
    have h := Rat.abs_nonneg (x := u - v)
    rw [Rat.sub_self, Rat.abs_zero]
    grind
  | succ j ih =>
    intro hj
    have h := ih (by omega)
    obtain ⟨a1, a2⟩ := serR_in hu hu1 j (by omega)
    have e : serR u (j + 1) - serR v (j + 1) = -((u - v) * serR u j + v * (serR u j - serR v j)) := by
      show (1 / (15 - 2 * (j : Rat)) - u * serR u j) - (1 / (15 - 2 * (j : Rat)) - v * serR v j) = _
      generalize 1 / (15 - 2 * (j : Rat)) = c
      grind
    rw [e, Rat.abs_neg]
    have h1 : ((u - v) * serR u j).abs ≤ (u - v).abs := by
      rw [mul_abs, Rat.abs_of_nonneg a1]
      have := Rat.mul_le_mul_of_nonneg_left a2 (Rat.abs_nonneg (x := u - v))
      grind
    have h2 : (v * (serR u j - serR v j)).abs ≤ (u - v).abs * (11 / 160) := by
      rw [mul_abs, Rat.abs_of_nonneg hv]
      have := mul_le_mul' hv1 h hv (by have := Rat.abs_nonneg (x := u - v); grind)
      grind
    obtain ⟨c1, c2⟩ := abs_bounds h1
    obtain ⟨c3, c4⟩ := abs_bounds h2
    have := Rat.abs_nonneg (x := u - v)
    refine abs_le ?_ ?_ <;> grind
theorem serR_high {u : Rat} (hu : 0 ≤ u) (hu1 : u ≤ 1 / 16) : 15 / 16 ≤ serR u 8 ∧ serR u 8 ≤ 1 := by
  refine ⟨?_, (serR_in hu hu1 8 (by omega)).2⟩
  obtain ⟨a1, a2⟩ := serR_in hu hu1 7 (by omega)
  have e : serR u 8 = 1 - u * serR u 7 := by
    show 1 / (15 - 2 * ((7 : Nat) : Rat)) - _ = _
    rw [show (1 : Rat) / (15 - 2 * ((7 : Nat) : Rat)) = 1 by decide +kernel]
  have := mul_le_mul' hu1 a2 hu (by decide)
  grind
def serT (t : Rat) : Rat := t * serR (t * t) 8
theorem serT_mono {t s k : Rat} (ht : 0 ≤ t) (hs : 0 ≤ s) (ht1 : t ≤ 1 / 7) (hs1 : s ≤ 1 / 7) (hk : 0 ≤ k) (h : t ≤ s + k) : serT t ≤ serT s + k * (21 / 20) := by
  have htt : 0 ≤ t * t := Rat.mul_nonneg ht ht
  have hss : 0 ≤ s * s := Rat.mul_nonneg hs hs
  have htt1 : t * t ≤ 1 / 16 := by have := mul_le_mul' ht1 ht1 ht (by decide +kernel); grind
  have hss1 : s * s ≤ 1 / 16 := by have := mul_le_mul' hs1 hs1 hs (by decide +kernel); grind
  have hl := serR_lip htt hss htt1 hss1 8 (by omega)
  obtain ⟨p1, p2⟩ := serR_high htt htt1
  obtain ⟨q1, q2⟩ := serR_high hss hss1
  obtain ⟨l1, l2⟩ := abs_bounds hl
  unfold serT
  generalize serR (t * t) 8 = A at *
  generalize serR (s * s) 8 = B at *
  rcases Rat.le_total (a := t) (b := s) with hc | hc
  · have hd : t * t ≤ s * s := mul_le_mul' hc hc ht hs
    rw [Rat.abs_of_nonpos (show t * t - s * s ≤ 0 by grind)] at l1 l2
    have e1 := Rat.mul_le_mul_of_nonneg_left q1 (show 0 ≤ s - t by grind)
    have e2 := Rat.mul_le_mul_of_nonneg_left l1 ht
    have e3 : t * (s * s - t * t) ≤ (s - t) * (1 / 7 * (2 / 7)) := by
      have : t * (s * s - t * t) = (s - t) * (t * (s + t)) := by grind
      rw [this]
      exact Rat.mul_le_mul_of_nonneg_left (mul_le_mul' ht1 (by grind) ht (by decide +kernel)) (by grind)
    grind
  · have hd : s * s ≤ t * t := mul_le_mul' hc hc hs ht
    rw [Rat.abs_of_nonneg (show 0 ≤ t * t - s * s by grind)] at l1 l2
    have e1 := Rat.mul_le_mul_of_nonneg_left p2 (show 0 ≤ t - s by grind)
    have e2 := Rat.mul_le_mul_of_nonneg_left l1 hs
    have e3 : s * (t * t - s * s) ≤ (t - s) * (1 / 7 * (2 / 7)) := by
      have : s * (t * t - s * s) = (t - s) * (s * (t + s)) := by grind
      rw [this]
      exact Rat.mul_le_mul_of_nonneg_left (mul_le_mul' hs1 (by grind) hs (by decide +kernel)) (by grind)
    grind
theorem core_near {x : F64} (hx : Num x) (h0 : 0 ≤ val x) (h1 : val x ≤ 1 + 1 / 1000000000000) :
    Num (coreF x) ∧ (val (coreF x) * (7074237752028440 / 1125899906842624) - 8 * serT (val (halfF (halfF (halfF x))))).abs ≤ 1 / 1000000000000 := by
  obtain ⟨a, b, c⟩ := half3 hx h0 h1
  unfold coreF serT
  generalize halfF (halfF (halfF x)) = z at *
  have hz : val z ≤ 1 / 7 := by grind
  obtain ⟨s1, s2⟩ := ser_val a b (by grind) 8 (Nat.le_refl _)
  have htt : 0 ≤ val z * val z := Rat.mul_nonneg b b
  have htt2 : val z * val z ≤ 1 / 16 := by have := mul_le_mul' hz hz b (by decide +kernel); grind
  obtain ⟨q1, q2⟩ := serR_high htt htt2
  generalize serR (val z * val z) 8 = S at *
  obtain ⟨s3, s4⟩ := abs_bounds s2
  generalize serN z 8 = p at *
  have p0 : 0 ≤ val p := by grind
  have p1 : val p ≤ 1 + 1 / 281474976710656 := by grind
  have e0 := Rat.mul_nonneg b p0
  have e1 : val z * val p ≤ 1 / 6 := by have := mul_le_mul' hz p1 b (by decide +kernel); grind
  have e2 : (val z * val p - val z * S).abs ≤ 1 / 7 * (1 / 281474976710656) := by
    have : val z * val p - val z * S = val z * (val p - S) := by grind
    rw [this, mul_abs, Rat.abs_of_nonneg b]
    exact mul_le_mul' hz s2 b (by decide +kernel)
  obtain ⟨e3, e4⟩ := abs_bounds e2
  obtain ⟨m1, m2, m3, -⟩ := mul64 a s1 (by rw [Rat.abs_of_nonneg e0]; grind)
  unfold o64 at m2
  rw [Rat.abs_of_nonneg e0] at m2
  obtain ⟨m4, m5⟩ := abs_bounds m2
  have m6 := m3 e0
  clear m3
  generalize z.mul p = w at *
  obtain ⟨g1, g2⟩ := o8_val
  obtain ⟨n1, n2, n3, -⟩ := mul64 g1 m1 (by rw [g2, Rat.abs_of_nonneg (by grind)]; grind)
  rw [g2] at n2 n3
  unfold o64 at n2
  rw [Rat.abs_of_nonneg (show 0 ≤ 8 * val w by grind)] at n2
  obtain ⟨n4, n5⟩ := abs_bounds n2
  have n6 := n3 (by grind)
  clear n3
  generalize o8.mul w = v at *
  obtain ⟨k1, k2⟩ := oC_val
  have hC : val oC ≠ 0 := by rw [k2]; decide +kernel
  obtain ⟨q, hq⟩ := quot_ex (a := val v) hC
  have hq0 : 0 ≤ q := by
    refine Rat.not_lt.1 fun hn => ?_
    have := Rat.mul_lt_mul_of_pos_right hn (show 0 < val oC by rw [k2]; decide +kernel)
    rw [hq, Rat.zero_mul] at this
    exact absurd n6 (Rat.not_le.2 this)
  rw [k2] at hq
  have hq1 : q ≤ 1 := by grind
  obtain ⟨d1, d2, d3⟩ := div64 n1 k1 hC (by rw [k2]; exact hq) (by rw [Rat.abs_of_nonneg hq0]; grind)
  rw [Rat.abs_of_nonneg hq0] at d2
  obtain ⟨d4, d5⟩ := abs_bounds d2
  refine ⟨d1, ?_⟩
  refine abs_le ?_ ?_ <;> grind
theorem core_mono {x y : F64} {k : Rat} (hx : Num x) (hy : Num y) (x0 : 0 ≤ val x) (x1 : val x ≤ 1 + 1 / 1000000000000) (y0 : 0 ≤ val y) (y1 : val y ≤ 1 + 1 / 1000000000000) (hk : 0 ≤ k) (h : val x ≤ val y + k) :
    val (coreF x) ≤ val (coreF y) + k * (1 / 5) + 1 / 100000000000 := by
  obtain ⟨a, b, a0, a1, b0, b1, c1, c2, c3, r1, r2, r3⟩ := half3_rel hx x0 x1
  obtain ⟨a', b', a0', a1', b0', b1', c1', c2', c3', r1', r2', r3'⟩ := half3_rel hy y0 y1
  have m1 := half_mono y0 a0 a0' hk (by decide +kernel) a1 r1 r1' h
  have m2 := half_mono a0' b0 b0' (k := k * (1 / 2) + 1 / 1000000000000) (by grind) (by decide +kernel) b1 r2 r2' (by grind)
  have m3 := half_mono b0' c2 c2' (k := k * (1 / 4) + 2 / 1000000000000) (by grind) (by decide +kernel) (by grind) r3 r3' (by grind)
  have m4 := serT_mono c2 c2' c3 c3' (k := k * (1 / 8) + 2 / 1000000000000) (by grind) (by grind)
  obtain ⟨-, n1⟩ := core_near hx x0 x1
  obtain ⟨-, n2⟩ := core_near hy y0 y1
  obtain ⟨p1, p2⟩ := abs_bounds n1
  obtain ⟨p3, p4⟩ := abs_bounds n2
  grind
theorem core_one : (val (coreF o1) - 1 / 8).abs ≤ 1 / 1000000000 := by decide +kernel
end
end Go.Fw
