
import Derived.Test.YtblpjlaihgcilafFwFR
namespace Go.Fw
open Go
theorem fb64 : p2 (-((FloatKind.f64.format.fractionBits : Nat) : Int)) = 1 / 4503599627370496 := p2v52
theorem fb32 : p2 (-((FloatKind.f32.format.fractionBits : Nat) : Int)) = 1 / 8388608 := by decide +kernel
theorem lp64 : p2 FloatKind.f64.format.leastPlace ≤ 1 / 1000000000000000000000000000000 := by
  have h := p2_mono (show FloatKind.f64.format.leastPlace ≤ -100 by decide)
  refine Rat.le_trans h ?_
  decide +kernel
theorem lp32 : p2 FloatKind.f32.format.leastPlace ≤ 1 / 1000000000000000000000000000000 := by
  have h := p2_mono (show FloatKind.f32.format.leastPlace ≤ -100 by decide)
  refine Rat.le_trans h ?_
  decide +kernel
theorem big99 {v : Rat} (h : v.abs ≤ 1000000000000) : v.abs < p2 99 := by
  refine Rat.not_le.1 fun hc => ?_
  have : (1000000000000 : Rat) < p2 99 := by decide +kernel
  exact absurd this (Rat.not_lt.2 (Rat.le_trans hc h))
theorem big100 {v : Rat} (h : v.abs ≤ 1000000000000) : v.abs < p2 100 := by
  refine Rat.not_le.1 fun hc => ?_
  have : (1000000000000 : Rat) < p2 100 := by decide +kernel
  exact absurd this (Rat.not_lt.2 (Rat.le_trans hc h))
def o64 (v : Rat) : Rat := v.abs * (1 / 4503599627370496) + 1 / 1000000000000000000000000000000
def o32 (v : Rat) : Rat := v.abs * (1 / 8388608) + 1 / 1000000000000000000000000000000
theorem er64 (v : Rat) : er FloatKind.f64.format v ≤ o64 v := by
  unfold er o64
  rw [fb64]
  have := lp64
  grind
theorem er32 (v : Rat) : er FloatKind.f32.format v ≤ o32 v := by
  unfold er o32
  rw [fb32]
  have := lp32
  grind
def Near {k : FloatKind} (x : Fl k) (v o : Rat) : Prop := Num x ∧ (val x - v).abs ≤ o ∧ (0 ≤ v → 0 ≤ val x) ∧ (v ≤ 0 → val x ≤ 0)
theorem add64 {x y : F64} (hx : Num x) (hy : Num y) (hb : (val x + val y).abs ≤ 1000000000000) : Near (x.add y) (val x + val y) (o64 (val x + val y)) := by
  obtain ⟨a, b, c⟩ := add_val hx hy (big100 hb)
  exact ⟨a, Rat.le_trans b (er64 _), c⟩
theorem sub64 {x y : F64} (hx : Num x) (hy : Num y) (hb : (val x - val y).abs ≤ 1000000000000) : Near (x.sub y) (val x - val y) (o64 (val x - val y)) := by
  obtain ⟨a, b, c⟩ := sub_val hx hy (big100 hb)
  exact ⟨a, Rat.le_trans b (er64 _), c⟩
theorem mul64 {x y : F64} (hx : Num x) (hy : Num y) (hb : (val x * val y).abs ≤ 1000000000000) : Near (x.mul y) (val x * val y) (o64 (val x * val y)) := by
  obtain ⟨a, b, c⟩ := mul_val hx hy (big100 hb)
  exact ⟨a, Rat.le_trans b (er64 _), c⟩
theorem add32 {x y : F32} (hx : Num x) (hy : Num y) (hb : (val x + val y).abs ≤ 1000000000000) : Near (x.add y) (val x + val y) (o32 (val x + val y)) := by
  obtain ⟨a, b, c⟩ := add_val hx hy (big100 hb)
  exact ⟨a, Rat.le_trans b (er32 _), c⟩
theorem sub32 {x y : F32} (hx : Num x) (hy : Num y) (hb : (val x - val y).abs ≤ 1000000000000) : Near (x.sub y) (val x - val y) (o32 (val x - val y)) := by
  obtain ⟨a, b, c⟩ := sub_val hx hy (big100 hb)
  exact ⟨a, Rat.le_trans b (er32 _), c⟩
theorem mul32 {x y : F32} (hx : Num x) (hy : Num y) (hb : (val x * val y).abs ≤ 1000000000000) : Near (x.mul y) (val x * val y) (o32 (val x * val y)) := by
  obtain ⟨a, b, c⟩ := mul_val hx hy (big100 hb)
  exact ⟨a, Rat.le_trans b (er32 _), c⟩
theorem div64 {x y : F64} (hx : Num x) (hy : Num y) (hy0 : val y ≠ 0) {q : Rat} (hq : q * val y = val x) (hb : q.abs ≤ 1000000000000) :
    Num (x.div y) ∧ (val (x.div y) - q).abs ≤ q.abs * (1 / 2251799813685248) + 1 / 1000000000000000000000000000000 ∧ (0 ≤ val x → 0 < val y → 0 ≤ val (x.div y)) := by
  obtain ⟨a, b, c⟩ := div_val hx hy hy0 hq (big99 hb)
  refine ⟨a, Rat.le_trans b ?_, c⟩
  unfold er2
  have e : p2 (1 - ((FloatKind.f64.format.fractionBits : Nat) : Int)) = 1 / 2251799813685248 := by decide +kernel
  rw [e]
  have := lp64
  grind
theorem div32 {x y : F32} (hx : Num x) (hy : Num y) (hy0 : val y ≠ 0) {q : Rat} (hq : q * val y = val x) (hb : q.abs ≤ 1000000000000) :
    Num (x.div y) ∧ (val (x.div y) - q).abs ≤ q.abs * (1 / 4194304) + 1 / 1000000000000000000000000000000 ∧ (0 ≤ val x → 0 < val y → 0 ≤ val (x.div y)) := by
  obtain ⟨a, b, c⟩ := div_val hx hy hy0 hq (big99 hb)
  refine ⟨a, Rat.le_trans b ?_, c⟩
  unfold er2
  have e : p2 (1 - ((FloatKind.f32.format.fractionBits : Nat) : Int)) = 1 / 4194304 := by decide +kernel
  rw [e]
  have := lp32
  grind
theorem narrow64 {x : F64} (hx : Num x) (hb : (val x).abs ≤ 1000000000000) : (convBits .f64 x.bits .f32).isSome = true ∧ Near (Fl.cv .f64 .f32 x) (val x) (o32 (val x)) := by
  obtain ⟨a, b, c, d⟩ := narrow_val hx (big100 hb)
  exact ⟨a, b, Rat.le_trans c (er32 _), d⟩
theorem sqrt64 {x : F64} (hx : Num x) (h0 : 1 / 1000000000000000000000000000000 ≤ val x) (hb : val x ≤ 1000000000000000000000000) :
    Num x.sqrt ∧ 0 ≤ val x.sqrt ∧ (val x.sqrt * val x.sqrt - val x).abs ≤ val x * (1 / 562949953421312) := by
  refine sqrt_val hx (Rat.le_trans (by decide +kernel) h0) ?_ (.inr ?_)
  · refine Rat.not_le.1 fun hc => ?_
    have : (1000000000000000000000000 : Rat) < p2 190 := by decide +kernel
    exact absurd this (Rat.not_lt.2 (Rat.le_trans hc hb))
  · refine Rat.le_trans ?_ h0
    decide +kernel
theorem quot_ex {a b : Rat} (hb : b ≠ 0) : ∃ q, q * b = a := ⟨a / b, Rat.div_mul_cancel hb⟩
theorem const_val {k : FloatKind} {x : Fl k} {s : Bool} {m : Nat} {p : Int} {v : Rat} (h : k.format.read x.bits = .number s m p) (hv : dv (.number s m p) = v) : Num x ∧ val x = v := ⟨.of h, by rw [val_of h, hv]⟩
theorem one64 : Num (Fl.mk (k := .f64) 4607182418800017408 (by decide)) ∧ val (Fl.mk (k := .f64) 4607182418800017408 (by decide)) = 1 := const_val (s := false) (m := 4503599627370496) (p := -52) (by decide) (by decide +kernel)
theorem half64 {one x : F64} (ho : Num one ∧ val one = 1) (hx : Num x) (h0 : 0 ≤ val x) (h1 : val x ≤ 2) :
    Num (x.div (one.add (one.add (x.mul x)).sqrt)) ∧ 0 ≤ val (x.div (one.add (one.add (x.mul x)).sqrt)) ∧
    ∃ r, 0 ≤ r ∧ (r * r - (1 + val x * val x)).abs ≤ (1 + val x * val x) * (1 / 281474976710656) ∧
      (val (x.div (one.add (one.add (x.mul x)).sqrt)) * (1 + r) - val x).abs ≤ val x * (1 / 281474976710656) + 1 / 100000000000000000000000000000 := by
  obtain ⟨ho1, ho2⟩ := ho
  generalize ht : val x = t at *
  have htt : 0 ≤ t * t := Rat.mul_nonneg h0 h0
  have htt2 : t * t ≤ 4 := by have := mul_le_mul' h1 h1 h0 (by decide); grind
  obtain ⟨m1, m2, m3, -⟩ := mul64 hx hx (by rw [ht, Rat.abs_of_nonneg htt]; grind)
  rw [ht] at m2 m3
  unfold o64 at m2
  rw [Rat.abs_of_nonneg htt] at m2
  have m6 := m3 htt
  clear m3
  obtain ⟨m4, m5⟩ := abs_bounds m2
  generalize x.mul x = X at *
  obtain ⟨a1, a2, a3, -⟩ := add64 ho1 m1 (by rw [ho2, Rat.abs_of_nonneg (by grind)]; grind)
  rw [ho2] at a2 a3
  unfold o64 at a2
  rw [Rat.abs_of_nonneg (show 0 ≤ 1 + val X by grind)] at a2
  obtain ⟨a4, a5⟩ := abs_bounds a2
  generalize one.add X = A at *
  obtain ⟨s1, s2, s3⟩ := sqrt64 a1 (by grind) (by grind)
  obtain ⟨s4, s5⟩ := abs_bounds s3
  generalize A.sqrt = Q at *
  generalize hr : val Q = r at *
  have hr3 : r ≤ 4 := le_of_sq (by decide) (by grind)
  obtain ⟨b1, b2, -, -⟩ := add64 ho1 s1 (by rw [ho2, hr, Rat.abs_of_nonneg (by grind)]; grind)
  rw [ho2, hr] at b2
  unfold o64 at b2
  rw [Rat.abs_of_nonneg (show 0 ≤ 1 + r by grind)] at b2
  obtain ⟨b4, b5⟩ := abs_bounds b2
  generalize one.add Q = B at *
  have hB : val B ≠ 0 := by intro h; rw [h] at b5; grind
  have hBp : 0 < val B := by grind
  obtain ⟨q, hq⟩ := quot_ex (a := t) hB
  have hq0 : 0 ≤ q := by
    refine Rat.not_lt.1 fun hn => ?_
    have := Rat.mul_lt_mul_of_pos_right hn hBp
    rw [hq, Rat.zero_mul] at this
    exact absurd h0 (Rat.not_le.2 this)
  have hB1 : 1 / 2 ≤ val B := by grind
  have hq2 : q ≤ 4 := by
    have := Rat.mul_le_mul_of_nonneg_left hB1 hq0
    grind
  obtain ⟨d1, d2, d3⟩ := div64 hx b1 hB (hq.trans ht.symm) (by rw [Rat.abs_of_nonneg hq0]; grind)
  rw [Rat.abs_of_nonneg hq0] at d2
  have d6 := d3 (by rw [ht]; exact h0) hBp
  clear d3
  obtain ⟨d4, d5⟩ := abs_bounds d2
  refine ⟨d1, d6, r, s2, ?_, ?_⟩
  · refine abs_le ?_ ?_ <;> grind
  · generalize val (x.div B) = y at *
    generalize val B = s at *
    have hs : s ≤ 6 := by grind
    have e1 := Rat.mul_le_mul_of_nonneg_right d4 (Rat.le_of_lt hBp)
    have e2 := Rat.mul_le_mul_of_nonneg_right d5 (Rat.le_of_lt hBp)
    have e3 : q * s = t := hq
    have e4 : y * s ≤ t + t * (1 / 2251799813685248) + s * (1 / 1000000000000000000000000000000) := by grind
    have e5 : t - t * (1 / 2251799813685248) - s * (1 / 1000000000000000000000000000000) ≤ y * s := by grind
    have f1 := Rat.mul_le_mul_of_nonneg_left b4 d6
    have f2 := Rat.mul_le_mul_of_nonneg_left b5 d6
    have hyr : 0 ≤ y * r := Rat.mul_nonneg d6 s2
    refine abs_le ?_ ?_ <;> grind
theorem half_le {t y r : Rat} (h0 : 0 ≤ t) (hy : 0 ≤ y) (hr : 0 ≤ r) (h1 : (r * r - (1 + t * t)).abs ≤ (1 + t * t) * (1 / 281474976710656)) (h2 : (y * (1 + r) - t).abs ≤ t * (1 / 281474976710656) + 1 / 100000000000000000000000000000) :
    y ≤ t * (1 / 2) * (1 + 1 / 70368744177664) + 1 / 50000000000000000000000000000 := by
  obtain ⟨a1, a2⟩ := abs_bounds h1
  obtain ⟨b1, b2⟩ := abs_bounds h2
  have htt : 0 ≤ t * t := Rat.mul_nonneg h0 h0
  have hr1 : 1 - 1 / 281474976710656 ≤ r := le_of_sq hr (by grind)
  have := Rat.mul_le_mul_of_nonneg_left hr1 hy
  grind
end Go.Fw
