
import Derived.Test.YtblpjlaihgcilafFwFT6
namespace Go.Fw
open Go
noncomputable section
theorem m32 {a b : F32} {c : Rat} (ha : Num a) (hb : Num b) (h : (val a * val b).abs ≤ c) (hc : c ≤ 1000) : Num (a.mul b) ∧ (val (a.mul b) - val a * val b).abs ≤ c * (1 / 8000000) + 1 / 100000000000000000000 := by
  obtain ⟨h1, h2, -, -⟩ := mul32 ha hb (Rat.le_trans h (Rat.le_trans hc (by decide +kernel)))
  refine ⟨h1, Rat.le_trans h2 ?_⟩
  have := Rat.abs_nonneg (x := val a * val b)
  unfold o32; grind
theorem a32 {a b : F32} {c : Rat} (ha : Num a) (hb : Num b) (h : (val a + val b).abs ≤ c) (hc : c ≤ 1000) : Num (a.add b) ∧ (val (a.add b) - (val a + val b)).abs ≤ c * (1 / 8000000) + 1 / 100000000000000000000 := by
  obtain ⟨h1, h2, -, -⟩ := add32 ha hb (Rat.le_trans h (Rat.le_trans hc (by decide +kernel)))
  refine ⟨h1, Rat.le_trans h2 ?_⟩
  have := Rat.abs_nonneg (x := val a + val b)
  unfold o32; grind
theorem s32 {a b : F32} {c : Rat} (ha : Num a) (hb : Num b) (h : (val a - val b).abs ≤ c) (hc : c ≤ 1000) : Num (a.sub b) ∧ (val (a.sub b) - (val a - val b)).abs ≤ c * (1 / 8000000) + 1 / 100000000000000000000 := by
  obtain ⟨h1, h2, -, -⟩ := sub32 ha hb (Rat.le_trans h (Rat.le_trans hc (by decide +kernel)))
  refine ⟨h1, Rat.le_trans h2 ?_⟩
  have := Rat.abs_nonneg (x := val a - val b)
  unfold o32; grind
theorem max_one {k : FloatKind} {x y : Fl k} (hx : Num x) (hy : Num y) : x.maxF y = x ∨ x.maxF y = y := by
  have hbits : (x.maxF y).bits = x.bits ∨ (x.maxF y).bits = y.bits := by
    show extBits true k x.bits y.bits = _ ∨ extBits true k x.bits y.bits = _
    unfold extBits
    obtain ⟨o, e, -⟩ := order_val hx hy
    rw [e]
    cases o
    · exact .inr rfl
    · simp only []; split
      · exact .inr rfl
      · exact .inl rfl
    · exact .inl rfl
  rcases hbits with h | h
  · exact .inl (by generalize x.maxF y = z at *; cases z; cases x; cases h; rfl)
  · exact .inr (by generalize x.maxF y = z at *; cases z; cases y; cases h; rfl)
theorem gap_le {x y : F64} {B : Rat} (hx : Num x) (hy : Num y) (h : (val x - val y).abs ≤ B) (hB : B ≤ 10) : Num ((x.sub y).maxF (y.sub x)) ∧ val ((x.sub y).maxF (y.sub x)) ≤ B + 1 / 100000000 := by
  have hr : (val y - val x).abs ≤ B := by rw [Rat.abs_sub_comm]; exact h
  obtain ⟨a1, a2, -, -⟩ := sub64 hx hy (Rat.le_trans h (Rat.le_trans hB (by decide +kernel)))
  obtain ⟨b1, b2, -, -⟩ := sub64 hy hx (Rat.le_trans hr (Rat.le_trans hB (by decide +kernel)))
  have o1 : o64 (val x - val y) ≤ 1 / 100000000 := by unfold o64; grind
  have o2 : o64 (val y - val x) ≤ 1 / 100000000 := by unfold o64; grind
  obtain ⟨c1, c2⟩ := abs_bounds (Rat.le_trans a2 o1)
  obtain ⟨c3, c4⟩ := abs_bounds (Rat.le_trans b2 o2)
  obtain ⟨d1, d2⟩ := abs_bounds h
  rcases max_one a1 b1 with e | e <;> rw [e]
  · exact ⟨a1, by grind⟩
  · exact ⟨b1, by grind⟩
theorem dir_of {n σ : Rat} (hn : 0 ≤ n) (h16 : 1 / 16 ≤ σ) (h48 : σ ≤ 48) (h : (n * n - σ).abs ≤ σ * (1 / 1000000) + 1 / 10000000000000000000000000) : 0 < n ∧ n ≤ 8 ∧ ∃ k, 0 < k ∧ k * n = 1 ∧ (k * k * σ - 1).abs ≤ 12 / 10000000 := by
  obtain ⟨c1, c2⟩ := abs_bounds h
  have hpos : 0 < n := by
    refine Rat.lt_of_le_of_ne hn fun e => ?_
    rw [← e] at c2; grind
  have h8 : n ≤ 8 := le_of_sq (by decide +kernel) (by grind)
  refine ⟨hpos, h8, ?_⟩
  obtain ⟨k, hk⟩ := quot_ex (a := 1) (Rat.ne_of_gt hpos)
  have hk0 : 0 < k := by
    refine Rat.not_le.1 fun h => ?_
    have := Rat.mul_nonneg (show 0 ≤ -k by grind) (Rat.le_of_lt hpos)
    grind
  have hkk : 0 < k * k := Rat.mul_pos hk0 hk0
  have hone : k * k * (n * n) = 1 := by
    have : k * k * (n * n) = (k * n) * (k * n) := by grind
    rw [this, hk]; exact Rat.mul_one 1
  have d1 := Rat.mul_le_mul_of_nonneg_left c1 (Rat.le_of_lt hkk)
  have d2 := Rat.mul_le_mul_of_nonneg_left c2 (Rat.le_of_lt hkk)
  have d3 := Rat.mul_le_mul_of_nonneg_left h16 (Rat.le_of_lt hkk)
  refine ⟨k, hk0, hk, ?_⟩
  refine abs_le ?_ ?_ <;> grind
theorem len_close {p1 p2 p3 : F32} {u1 u2 u3 s η : Rat} (n1 : Num p1) (n2 : Num p2) (n3 : Num p3) (hs : 1 / 25 ≤ s) (hs1 : s ≤ 10001 / 10000) (hu : (u1 * u1 + u2 * u2 + u3 * u3 - 1).abs ≤ 12 / 10000000)
    (hη : 0 ≤ η) (hη1 : η ≤ 1 / 1000) (h1 : (val p1 - u1 * s).abs ≤ η) (h2 : (val p2 - u2 * s).abs ≤ η) (h3 : (val p3 - u3 * s).abs ≤ η) :
    Num (lenV p1 p2 p3) ∧ 0 ≤ val (lenV p1 p2 p3) ∧ (val (lenV p1 p2 p3) - s).abs ≤ 7 * η + s * (3 / 1000000) ∧ (val p1 * val p1 + val p2 * val p2 + val p3 * val p3 - s * s).abs ≤ η * s * (63 / 10) + 13 / 10000000 * (s * s) := by
  obtain ⟨c1, c2⟩ := abs_bounds hu
  have q1 := sq_nonneg u1
  have q2 := sq_nonneg u2
  have q3 := sq_nonneg u3
  have b1 : u1.abs ≤ 101 / 100 := sq_le (by grind) (by decide +kernel)
  have b2 : u2.abs ≤ 101 / 100 := sq_le (by grind) (by decide +kernel)
  have b3 : u3.abs ≤ 101 / 100 := sq_le (by grind) (by decide +kernel)
  have s0 : 0 ≤ s := by grind
  have comp : ∀ {p u : Rat}, u.abs ≤ 101 / 100 → (p - u * s).abs ≤ η → p.abs ≤ 500 ∧ (p * p - u * u * (s * s)).abs ≤ η * s * (21 / 10) := by
    intro p u hb h
    obtain ⟨g1, g2⟩ := abs_bounds hb
    have us : (u * s).abs ≤ 101 / 100 * s := by rw [mul_abs, Rat.abs_of_nonneg s0]; exact Rat.mul_le_mul_of_nonneg_right hb s0
    obtain ⟨g3, g4⟩ := abs_bounds us
    obtain ⟨g5, g6⟩ := abs_bounds h
    refine ⟨abs_le (by grind) (by grind), ?_⟩
    have e : p * p - u * u * (s * s) = (p - u * s) * (p + u * s) := by grind
    have g7 : (p + u * s).abs ≤ s * (21 / 10) := abs_le (by grind) (by grind)
    rw [e, mul_abs, Rat.mul_assoc]
    exact mul_le_mul' h g7 Rat.abs_nonneg (by grind)
  obtain ⟨r1, t1⟩ := comp b1 h1
  obtain ⟨r2, t2⟩ := comp b2 h2
  obtain ⟨r3, t3⟩ := comp b3 h3
  obtain ⟨-, l1, l2, l3⟩ := lenV_near n1 n2 n3 r1 r2 r3
  refine ⟨l1, l2, ?_⟩
  obtain ⟨v1, w1⟩ := abs_bounds t1
  obtain ⟨v2, w2⟩ := abs_bounds t2
  obtain ⟨v3, w3⟩ := abs_bounds t3
  obtain ⟨x1, x2⟩ := abs_bounds l3
  have hss : 0 ≤ s * s := Rat.mul_nonneg s0 s0
  have y1 := Rat.mul_le_mul_of_nonneg_right c1 hss
  have y2 := Rat.mul_le_mul_of_nonneg_right c2 hss
  have hss1 : s * s ≤ s * (10001 / 10000) := Rat.mul_le_mul_of_nonneg_left hs1 s0
  have hηs : η * s ≤ 1 / 1000 * s := Rat.mul_le_mul_of_nonneg_right hη1 s0
  have hηs0 : 0 ≤ η * s := Rat.mul_nonneg hη s0
  have hs25 : s * (1 / 25) ≤ s * s := Rat.mul_le_mul_of_nonneg_left hs s0
  have hsum : (val p1 * val p1 + val p2 * val p2 + val p3 * val p3 - s * s).abs ≤ η * s * (63 / 10) + 13 / 10000000 * (s * s) := abs_le (by grind) (by grind)
  refine ⟨?_, hsum⟩
  generalize val (lenV p1 p2 p3) = L at *
  have key : (L * L - s * s).abs ≤ s * (7 * η + s * (3 / 1000000)) := by
    generalize hA : val p1 * val p1 + val p2 * val p2 + val p3 * val p3 = A at *
    have z1 : A - s * s ≤ η * s * (63 / 10) + 13 / 10000000 * (s * s) := by grind
    have z2 : -(η * s * (63 / 10) + 13 / 10000000 * (s * s)) ≤ A - s * s := by grind
    refine abs_le ?_ ?_ <;> grind
  obtain ⟨k1, k2⟩ := abs_bounds key
  generalize hE : 7 * η + s * (3 / 1000000) = E at *
  have hE0 : 0 ≤ E := by grind
  refine abs_le ?_ ?_
  · refine Rat.not_lt.1 fun hc => ?_
    have g1 : E * (2 * s) ≤ (L - s) * (L + s) := mul_le_mul' (Rat.le_of_lt hc) (by grind) hE0 (by grind)
    have g2 : (L - s) * (L + s) = L * L - s * s := by grind
    by_cases he : E = 0
    · rw [he] at k1 hc
      have := Rat.mul_pos (show 0 < L - s by grind) (show 0 < L + s by grind)
      grind
    · have := Rat.mul_pos (show 0 < E by grind) (show 0 < s by grind)
      grind
  · refine Rat.not_lt.1 fun hc => ?_
    have g1 : E * s ≤ (s - L) * (s + L) := mul_le_mul' (by grind) (by grind) hE0 (by grind)
    have g2 : (s - L) * (s + L) = s * s - L * L := by grind
    have g3 : E * s < (s - L) * (s + L) := by
      have h1 : E * s < (s - L) * s := Rat.mul_lt_mul_of_pos_right (by grind) (by grind)
      have h2 : (s - L) * s ≤ (s - L) * (s + L) := Rat.mul_le_mul_of_nonneg_left (by grind) (by grind)
      grind
    grind
end
end Go.Fw
