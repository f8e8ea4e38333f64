
import Derived.Test.YtblpjlaihgcilafFwFT2
namespace Go.Fw
open Go
noncomputable section
def t2c : F32 := Fl.mk (k := .f32) 1073741824 (by decide)
theorem t2c_val : Num t2c ∧ val t2c = 2 := const_val (s := false) (m := 8388608) (p := -22) (by decide) (by decide +kernel)
def angP (q : Q4) : F64 := angF (Fl.cv .f32 .f64 (lenV q.x q.y q.z)) (Fl.cv .f32 .f64 q.w.abs32)
def angQ (q : Q4) : F32 := t2c.mul (Fl.cv .f64 .f32 (angP q))
def Fair (q : Q4) : Prop := N4 q ∧ B4 (vq q) 2 ∧ 6 / 10 ≤ innR (vq q) (vq q)
theorem B4.mono {r : R4} {a b : Rat} (h : B4 r a) (hab : a ≤ b) : B4 r b := ⟨Rat.le_trans h.1 hab, Rat.le_trans h.2.1 hab, Rat.le_trans h.2.2.1 hab, Rat.le_trans h.2.2.2 hab⟩
theorem fair_parts {q : Q4} (h : Fair q) : Num (lenV q.x q.y q.z) ∧ 0 ≤ val (lenV q.x q.y q.z) ∧ Num q.w.abs32 ∧ val q.w.abs32 = (val q.w).abs ∧
    (val (lenV q.x q.y q.z) * val (lenV q.x q.y q.z) - (val q.x * val q.x + val q.y * val q.y + val q.z * val q.z)).abs ≤ (val q.x * val q.x + val q.y * val q.y + val q.z * val q.z) * (1 / 1000000) + 1 / 10000000000000000000000000 ∧
    (1 / 2 ≤ val (lenV q.x q.y q.z) ∨ 1 / 2 ≤ (val q.w).abs - 1 / 1000) ∧ val (lenV q.x q.y q.z) ≤ 4 := by
  obtain ⟨⟨q1, q2, q3, q4⟩, hb, hn⟩ := h
  obtain ⟨b1, b2, b3, b4⟩ := hb.mono (show (2 : Rat) ≤ 500 by decide)
  obtain ⟨-, l1, l2, l3⟩ := lenV_near q2 q3 q4 b2 b3 b4
  obtain ⟨w1, w2⟩ := abs32_val q1
  obtain ⟨c1, c2⟩ := abs_bounds l3
  have hV : val q.w * val q.w + (val q.x * val q.x + val q.y * val q.y + val q.z * val q.z) = innR (vq q) (vq q) := by unfold innR vq; grind
  have two : ∀ {x : Rat}, x.abs ≤ 2 → x * x ≤ 4 := fun {x} h => by
    have h3 := mul_le_mul' h h Rat.abs_nonneg (by decide)
    rw [← mul_abs, Rat.abs_of_nonneg (sq_nonneg x)] at h3
    grind
  have t1 := two hb.2.1
  have t2 := two hb.2.2.1
  have t3 := two hb.2.2.2
  have t1 : val q.x * val q.x ≤ 4 := t1
  have t2 : val q.y * val q.y ≤ 4 := t2
  have t3 : val q.z * val q.z ≤ 4 := t3
  have s1 := sq_nonneg (val q.x)
  have s2 := sq_nonneg (val q.y)
  have s3 := sq_nonneg (val q.z)
  refine ⟨l1, l2, w1, w2, l3, ?_, le_of_sq (by decide) (by grind)⟩
  by_cases hw : 1 / 2 ≤ (val q.w).abs - 1 / 1000
  · exact .inr hw
  · left
    refine le_of_sq l2 ?_
    have h1 : (val q.w).abs ≤ 501 / 1000 := by grind
    have h2 := mul_le_mul' h1 h1 Rat.abs_nonneg (by decide +kernel)
    rw [← mul_abs, Rat.abs_of_nonneg (sq_nonneg (val q.w))] at h2
    grind
theorem angQ_near {q : Q4} (h : Fair q) : Num (angP q) ∧ 0 ≤ val (angP q) ∧ val (angP q) ≤ 26 / 100 ∧ (convBits .f64 (angP q).bits .f32).isSome = true ∧ Num (angQ q) ∧ 0 ≤ val (angQ q) ∧ (val (angQ q) - 2 * val (angP q)).abs ≤ 1 / 1000000 := by
  obtain ⟨l1, l2, w1, w2, l3, l4, -⟩ := fair_parts h
  obtain ⟨a1, a2⟩ := widen_val l1
  obtain ⟨a3, a4⟩ := widen_val w1
  have hw := Rat.abs_nonneg (x := val q.w)
  obtain ⟨p1, p2, p3⟩ := ang_in a1 a3 (by rw [a2]; exact l2) (by rw [a4, w2]; exact hw) (by rw [a2, a4, w2]; grind)
  have e : angF (Fl.cv .f32 .f64 (lenV q.x q.y q.z)) (Fl.cv .f32 .f64 q.w.abs32) = angP q := rfl
  rw [e] at p1 p2 p3
  obtain ⟨n1, n2, n3, n4, -⟩ := narrow64 p1 (by rw [Rat.abs_of_nonneg p2]; grind)
  have n5 := n4 p2
  unfold o32 at n3
  rw [Rat.abs_of_nonneg p2] at n3
  obtain ⟨c1, c2⟩ := abs_bounds n3
  obtain ⟨m1, m2, m3, -⟩ := mul32 t2c_val.1 n2 (by rw [t2c_val.2, Rat.abs_of_nonneg (by grind)]; grind)
  rw [t2c_val.2] at m2 m3
  unfold o32 at m2
  rw [Rat.abs_of_nonneg (show 0 ≤ 2 * val (Fl.cv .f64 .f32 (angP q)) by grind)] at m2
  obtain ⟨c3, c4⟩ := abs_bounds m2
  exact ⟨p1, p2, p3, n1, m1, m3 (by grind), abs_le (by unfold angQ; grind) (by unfold angQ; grind)⟩
theorem angQ_small {q : Q4} (hq : Fair q) (hw : 1 / 2 ≤ (val q.w).abs) {e : Rat} (he0 : 0 ≤ e) (he : e ≤ 1 / 10) (h1 : (val q.x).abs ≤ e) (h2 : (val q.y).abs ≤ e) (h3 : (val q.z).abs ≤ e) : val (angQ q) ≤ 2 * e + 2 / 1000000 := by
  obtain ⟨l1, l2, w1, w2, l3, l4, -⟩ := fair_parts hq
  obtain ⟨a1, a2⟩ := widen_val l1
  obtain ⟨a3, a4⟩ := widen_val w1
  have sq : ∀ {x : Rat}, x.abs ≤ e → x * x ≤ e * e := fun {x} h => by
    have h3 := mul_le_mul' h h Rat.abs_nonneg he0
    rw [← mul_abs, Rat.abs_of_nonneg (sq_nonneg x)] at h3
    exact h3
  have s1 := sq h1
  have s2 := sq h2
  have s3 := sq h3
  have see := Rat.mul_nonneg he0 he0
  obtain ⟨c1, c2⟩ := abs_bounds l3
  have hl : val (lenV q.x q.y q.z) ≤ e * 2 + 1 / 1000000000000 := by
    refine le_of_sq (by grind) ?_
    have e1 : (e * 2 + 1 / 1000000000000) * (e * 2 + 1 / 1000000000000) = 4 * (e * e) + e * (4 / 1000000000000) + 1 / 1000000000000000000000000 := by grind
    rw [e1]; grind
  have hs := ang_small a1 a3 (by rw [a2]; exact l2) (by rw [a4, w2]; exact hw) (e := e * 2 + 1 / 1000000000000) (by grind) (by rw [a2]; exact hl)
  obtain ⟨-, -, -, -, -, -, d1⟩ := angQ_near hq
  obtain ⟨d2, d3⟩ := abs_bounds d1
  have hs2 : val (angP q) ≤ (e * 2 + 1 / 1000000000000) * (1 / 2) + 1 / 1000000000 := hs.2
  grind
/-! Turns of nearly the length 1. -/
def U4 (q : Q4) : Prop := N4 q ∧ (innR (vq q) (vq q) - 1).abs ≤ 1 / 100000
theorem U4.bound {q : Q4} (h : U4 q) : B4 (vq q) (10001 / 10000) := by
  obtain ⟨-, h⟩ := h
  obtain ⟨h1, h2⟩ := abs_bounds h
  unfold innR at h1 h2
  have s1 := sq_nonneg (vq q).w
  have s2 := sq_nonneg (vq q).x
  have s3 := sq_nonneg (vq q).y
  have s4 := sq_nonneg (vq q).z
  have k : (1 : Rat) + 1 / 100000 ≤ 10001 / 10000 * (10001 / 10000) := by decide +kernel
  exact ⟨sq_le (by grind) (by decide +kernel), sq_le (by grind) (by decide +kernel), sq_le (by grind) (by decide +kernel), sq_le (by grind) (by decide +kernel)⟩
def cmulR (a b : R4) : R4 := mulR (conjR a) b
theorem cmul_norm (a b : R4) : innR (cmulR a b) (cmulR a b) = innR a a * innR b b := by
  unfold innR cmulR mulR conjR
  grind
def apartQ (a b : Q4) : Q4 := mulQ (conjQ a) b
theorem apart_near {a b : Q4} (ha : N4 a) (hb : N4 b) (h1 : B4 (vq a) (101 / 100)) (h2 : B4 (vq b) (101 / 100)) : C4 (apartQ a b) (cmulR (vq a) (vq b)) (1 / 250000) := by
  obtain ⟨c1, c2⟩ := conj_val ha
  have := mul_near c1 hb (by rw [c2]; exact h1.conj) h2
  rw [c2] at this
  exact this
theorem fair_of {q : Q4} {r : R4} (h : C4 q r (1 / 1000)) (hb : B4 r (3 / 2)) (hn : 7 / 10 ≤ innR r r) : Fair q := by
  obtain ⟨n, h1, h2, h3, h4⟩ := h
  obtain ⟨b1, b2, b3, b4⟩ := hb
  have sum : ∀ {v x : Rat}, (v - x).abs ≤ 1 / 1000 → x.abs ≤ 3 / 2 → v.abs ≤ 2 ∧ x * x - 4 / 1000 ≤ v * v := by
    intro v x h1 h2
    obtain ⟨a1, a2⟩ := abs_bounds h1
    obtain ⟨a3, a4⟩ := abs_bounds h2
    refine ⟨abs_le (by grind) (by grind), ?_⟩
    have e : (x * (v - x)).abs ≤ 3 / 2 * (1 / 1000) := by
      rw [mul_abs]; exact mul_le_mul' h2 h1 Rat.abs_nonneg (by decide +kernel)
    obtain ⟨a5, a6⟩ := abs_bounds e
    have := sq_nonneg (v - x)
    grind
  obtain ⟨w1, w2⟩ := sum h1 b1
  obtain ⟨x1, x2⟩ := sum h2 b2
  obtain ⟨y1, y2⟩ := sum h3 b3
  obtain ⟨z1, z2⟩ := sum h4 b4
  refine ⟨n, ⟨w1, x1, y1, z1⟩, ?_⟩
  unfold innR at hn ⊢
  have w2 : r.w * r.w - 4 / 1000 ≤ (vq q).w * (vq q).w := w2
  have x2 : r.x * r.x - 4 / 1000 ≤ (vq q).x * (vq q).x := x2
  have y2 : r.y * r.y - 4 / 1000 ≤ (vq q).y * (vq q).y := y2
  have z2 : r.z * r.z - 4 / 1000 ≤ (vq q).z * (vq q).z := z2
  grind
theorem C4.mono {q : Q4} {r : R4} {a b : Rat} (h : C4 q r a) (hab : a ≤ b) : C4 q r b := ⟨h.1, Rat.le_trans h.2.1 hab, Rat.le_trans h.2.2.1 hab, Rat.le_trans h.2.2.2.1 hab, Rat.le_trans h.2.2.2.2 hab⟩
end
end Go.Fw
