
import Derived.Test.YtblpjlaihgcilafFwFT3
namespace Go.Fw
open Go
noncomputable section
theorem one_sq {x s : Rat} (h : x * x ≤ s) (hs : s ≤ 10001 / 10000) : x.abs ≤ 1001 / 1000 :=
  sq_le (Rat.le_trans h (Rat.le_trans hs (by decide +kernel))) (by decide +kernel)
theorem inn_parts (r : R4) : r.w * r.w ≤ innR r r ∧ r.x * r.x ≤ innR r r ∧ r.y * r.y ≤ innR r r ∧ r.z * r.z ≤ innR r r := by
  have s1 := sq_nonneg r.w
  have s2 := sq_nonneg r.x
  have s3 := sq_nonneg r.y
  have s4 := sq_nonneg r.z
  unfold innR
  grind
theorem unit_apart {a b : Q4} (ha : U4 a) (hb : U4 b) : C4 (apartQ a b) (cmulR (vq a) (vq b)) (1 / 250000) ∧ B4 (cmulR (vq a) (vq b)) (1001 / 1000) ∧ 9999 / 10000 ≤ innR (cmulR (vq a) (vq b)) (cmulR (vq a) (vq b)) ∧
    innR (cmulR (vq a) (vq b)) (cmulR (vq a) (vq b)) ≤ 10001 / 10000 ∧ Fair (apartQ a b) := by
  have hc := apart_near ha.1 hb.1 (ha.bound.mono (by decide +kernel)) (hb.bound.mono (by decide +kernel))
  obtain ⟨a1, a2⟩ := abs_bounds ha.2
  obtain ⟨b1, b2⟩ := abs_bounds hb.2
  have hn := cmul_norm (vq a) (vq b)
  have hlo : 9999 / 10000 ≤ innR (cmulR (vq a) (vq b)) (cmulR (vq a) (vq b)) := by
    rw [hn]
    have := mul_le_mul' (show 99999 / 100000 ≤ innR (vq a) (vq a) by grind) (show 99999 / 100000 ≤ innR (vq b) (vq b) by grind) (by decide +kernel) (by grind)
    exact Rat.le_trans (by decide +kernel) this
  have hhi : innR (cmulR (vq a) (vq b)) (cmulR (vq a) (vq b)) ≤ 10001 / 10000 := by
    rw [hn]
    have := mul_le_mul' (show innR (vq a) (vq a) ≤ 100001 / 100000 by grind) (show innR (vq b) (vq b) ≤ 100001 / 100000 by grind) (by grind) (by decide +kernel)
    exact Rat.le_trans this (by decide +kernel)
  obtain ⟨p1, p2, p3, p4⟩ := inn_parts (cmulR (vq a) (vq b))
  have hB : B4 (cmulR (vq a) (vq b)) (1001 / 1000) := ⟨one_sq p1 hhi, one_sq p2 hhi, one_sq p3 hhi, one_sq p4 hhi⟩
  exact ⟨hc, hB, hlo, hhi, fair_of (hc.mono (by decide +kernel)) (hB.mono (by decide +kernel)) (Rat.le_trans (by decide +kernel) hlo)⟩
theorem four_err {a b c d x y z w m e : Rat} (ha : a.abs ≤ m) (hb : b.abs ≤ m) (hc : c.abs ≤ m) (hd : d.abs ≤ m) (hx : x.abs ≤ e) (hy : y.abs ≤ e) (hz : z.abs ≤ e) (hw : w.abs ≤ e) (he : 0 ≤ e) :
    (a * x).abs ≤ m * e ∧ (b * y).abs ≤ m * e ∧ (c * z).abs ≤ m * e ∧ (d * w).abs ≤ m * e := by
  have k : ∀ {p q : Rat}, p.abs ≤ m → q.abs ≤ e → (p * q).abs ≤ m * e := fun {p q} h1 h2 => by
    rw [mul_abs]; exact mul_le_mul' h1 h2 Rat.abs_nonneg he
  exact ⟨k ha hx, k hb hy, k hc hz, k hd hw⟩
theorem cmul_near {a b r : R4} {e : Rat} (ha : B4 a (10001 / 10000)) (he : 0 ≤ e) (h1 : (b.w - r.w).abs ≤ e) (h2 : (b.x - r.x).abs ≤ e) (h3 : (b.y - r.y).abs ≤ e) (h4 : (b.z - r.z).abs ≤ e) :
    ((cmulR a b).w - (cmulR a r).w).abs ≤ e * (401 / 100) ∧ ((cmulR a b).x - (cmulR a r).x).abs ≤ e * (401 / 100) ∧ ((cmulR a b).y - (cmulR a r).y).abs ≤ e * (401 / 100) ∧ ((cmulR a b).z - (cmulR a r).z).abs ≤ e * (401 / 100) := by
  obtain ⟨a1, a2, a3, a4⟩ := ha
  have sum : ∀ {p q s t v : Rat}, p.abs ≤ 10001 / 10000 * e → q.abs ≤ 10001 / 10000 * e → s.abs ≤ 10001 / 10000 * e → t.abs ≤ 10001 / 10000 * e → (v = p + q + s + t ∨ v = p - q - s + t ∨ v = p + q - s - t ∨ v = p - q + s - t) → v.abs ≤ e * (401 / 100) := by
    intro p q s t v hp hq hs ht hv
    obtain ⟨c1, c2⟩ := abs_bounds hp
    obtain ⟨c3, c4⟩ := abs_bounds hq
    obtain ⟨c5, c6⟩ := abs_bounds hs
    obtain ⟨c7, c8⟩ := abs_bounds ht
    rcases hv with rfl | rfl | rfl | rfl <;> exact abs_le (by grind) (by grind)
  unfold cmulR mulR conjR
  dsimp only
  obtain ⟨w1, w2, w3, w4⟩ := four_err a1 a2 a3 a4 h1 h2 h3 h4 he
  obtain ⟨x1, x2, x3, x4⟩ := four_err a1 a2 a3 a4 h2 h1 h4 h3 he
  obtain ⟨y1, y2, y3, y4⟩ := four_err a1 a2 a3 a4 h3 h4 h1 h2 he
  obtain ⟨z1, z2, z3, z4⟩ := four_err a1 a2 a3 a4 h4 h3 h2 h1 he
  exact ⟨sum w1 w2 w3 w4 (.inl (by grind)), sum x1 x2 x3 x4 (.inr (.inl (by grind))), sum y1 y2 y3 y4 (.inr (.inr (.inl (by grind)))), sum z1 z2 z3 z4 (.inr (.inr (.inr (by grind))))⟩
theorem cmul_scale (a : R4) (k : Rat) : cmulR a (scaleR a k) = ⟨innR a a * k, 0, 0, 0⟩ := by
  unfold cmulR mulR conjR scaleR innR
  congr 1 <;> grind
theorem sq_small {x : Rat} (h : x.abs ≤ 1 / 20000) : x * x ≤ 1 / 100000000 := by
  have h3 := mul_le_mul' h h Rat.abs_nonneg (by decide +kernel)
  rw [← mul_abs, Rat.abs_of_nonneg (sq_nonneg x)] at h3
  exact Rat.le_trans h3 (by decide +kernel)
theorem w_big {w x y z v : Rat} (h : 9999 / 10000 ≤ w * w + x * x + y * y + z * z) (hx : x.abs ≤ 1 / 20000) (hy : y.abs ≤ 1 / 20000) (hz : z.abs ≤ 1 / 20000) (hv : (v - w).abs ≤ 1 / 250000) : 1 / 2 ≤ v.abs := by
  have s1 := sq_small hx
  have s2 := sq_small hy
  have s3 := sq_small hz
  have hp : 98 / 100 ≤ w.abs := by
    refine le_of_sq Rat.abs_nonneg ?_
    rw [← mul_abs, Rat.abs_of_nonneg (sq_nonneg _)]
    refine Rat.le_trans (show (98 / 100 : Rat) * (98 / 100) ≤ 99 / 100 by decide +kernel) ?_
    grind
  obtain ⟨q1, q2⟩ := abs_bounds hv
  rcases abs_cases w with ⟨t1, t2⟩ | ⟨t1, t2⟩ <;> rw [t2] at hp <;> rcases abs_cases v with ⟨t3, t4⟩ | ⟨t3, t4⟩ <;> rw [t4] <;> grind
theorem part_small {v p e : Rat} (he : e ≤ 1 / 100000) (q1 : (v - p).abs ≤ 1 / 250000) (q2 : (p - 0).abs ≤ e * (401 / 100)) : v.abs ≤ 1 / 20000 ∧ p.abs ≤ 1 / 20000 := by
  obtain ⟨c1, c2⟩ := abs_bounds q1
  obtain ⟨c3, c4⟩ := abs_bounds q2
  exact ⟨abs_le (by grind) (by grind), abs_le (by grind) (by grind)⟩
theorem apart_small {a b : Q4} {k e : Rat} (ha : U4 a) (hb : U4 b) (h : C4 b (scaleR (vq a) k) e) (he0 : 0 ≤ e) (he : e ≤ 1 / 100000) : Fair (apartQ a b) ∧ Num (angQ (apartQ a b)) ∧ 0 ≤ val (angQ (apartQ a b)) ∧ val (angQ (apartQ a b)) ≤ 1 / 2000 := by
  obtain ⟨c1, c2, c3, c4, c5⟩ := unit_apart ha hb
  have hn := angQ_near c5
  refine ⟨c5, hn.2.2.2.2.1, hn.2.2.2.2.2.1, ?_⟩
  clear hn
  obtain ⟨-, h1, h2, h3, h4⟩ := h
  obtain ⟨-, e2, e3, e4⟩ := cmul_near (b := vq b) (r := scaleR (vq a) k) ha.bound he0 h1 h2 h3 h4
  rw [cmul_scale] at e2 e3 e4
  generalize cmulR (vq a) (vq b) = p at *
  generalize apartQ a b = q at *
  obtain ⟨-, g1, g2, g3, g4⟩ := c1
  obtain ⟨x1, x2⟩ := part_small he g2 e2
  obtain ⟨y1, y2⟩ := part_small he g3 e3
  obtain ⟨z1, z2⟩ := part_small he g4 e4
  have hw : 1 / 2 ≤ (val q.w).abs := w_big c3 x2 y2 z2 g1
  have := angQ_small c5 hw (e := 1 / 20000) (by decide +kernel) (by decide +kernel) x1 y1 z1
  refine Rat.le_trans this (by decide +kernel)
/-! Lengths of nearly the same direction. -/
def stepF32 (a b s : F32) : F32 := a.add (s.mul (b.sub a))
def stepQ (a b : Q4) (s : F32) : Q4 := ⟨stepF32 a.w b.w s, stepF32 a.x b.x s, stepF32 a.y b.y s, stepF32 a.z b.z s⟩
def lerpR (a b : R4) (s : Rat) : R4 := ⟨a.w + s * (b.w - a.w), a.x + s * (b.x - a.x), a.y + s * (b.y - a.y), a.z + s * (b.z - a.z)⟩
theorem step_near {a b s : F32} (ha : Num a) (hb : Num b) (hs : Num s) (a1 : (val a).abs ≤ 10001 / 10000) (b1 : (val b).abs ≤ 10001 / 10000) (s0 : 0 ≤ val s) (s1 : val s ≤ 1) :
    Num (stepF32 a b s) ∧ (val (stepF32 a b s) - (val a + val s * (val b - val a))).abs ≤ 1 / 1000000 := by
  obtain ⟨p1, p2⟩ := abs_bounds a1
  obtain ⟨p3, p4⟩ := abs_bounds b1
  have hd : (val b - val a).abs ≤ 2 + 1 / 1000 := abs_le (by grind) (by grind)
  obtain ⟨d1, d2, -, -⟩ := sub32 hb ha (by grind)
  unfold o32 at d2
  have d3 : (val (b.sub a) - (val b - val a)).abs ≤ 1 / 4000000 := by grind
  obtain ⟨d4, d5⟩ := abs_bounds d3
  have hda : (val (b.sub a)).abs ≤ 2 + 2 / 1000 := by obtain ⟨q1, q2⟩ := abs_bounds hd; exact abs_le (by grind) (by grind)
  have hsd : (val s * val (b.sub a)).abs ≤ 2 + 2 / 1000 := by
    rw [mul_abs, Rat.abs_of_nonneg s0]
    have := mul_le_mul' s1 hda s0 (by decide +kernel)
    grind
  obtain ⟨m1, m2, -, -⟩ := mul32 hs d1 (by grind)
  unfold o32 at m2
  have m3 : (val (s.mul (b.sub a)) - val s * val (b.sub a)).abs ≤ 1 / 4000000 := by grind
  obtain ⟨m4, m5⟩ := abs_bounds m3
  have hse : (val s * val (b.sub a) - val s * (val b - val a)).abs ≤ 1 / 4000000 := by
    have e : val s * val (b.sub a) - val s * (val b - val a) = val s * (val (b.sub a) - (val b - val a)) := by grind
    rw [e, mul_abs, Rat.abs_of_nonneg s0]
    have := mul_le_mul' s1 d3 s0 (by decide +kernel)
    grind
  obtain ⟨m6, m7⟩ := abs_bounds hse
  have hlim : (val a + val s * (val b - val a)).abs ≤ 10001 / 10000 := by
    have e : val a + val s * (val b - val a) = (1 - val s) * val a + val s * val b := by grind
    rw [e]
    have t0 : 0 ≤ 1 - val s := by grind
    have q1 := Rat.mul_le_mul_of_nonneg_left p1 t0
    have q2 := Rat.mul_le_mul_of_nonneg_left p2 t0
    have q3 := Rat.mul_le_mul_of_nonneg_left p3 s0
    have q4 := Rat.mul_le_mul_of_nonneg_left p4 s0
    exact abs_le (by grind) (by grind)
  obtain ⟨h1, h2⟩ := abs_bounds hlim
  have hsum : (val a + val (s.mul (b.sub a))).abs ≤ 11 / 10 := abs_le (by grind) (by grind)
  obtain ⟨n1, n2, -, -⟩ := add32 ha m1 (by grind)
  unfold o32 at n2
  have n3 : (val (a.add (s.mul (b.sub a))) - (val a + val (s.mul (b.sub a)))).abs ≤ 1 / 4000000 := by grind
  obtain ⟨n4, n5⟩ := abs_bounds n3
  exact ⟨n1, by unfold stepF32; exact abs_le (by grind) (by grind)⟩
theorem between_near {a b : Q4} {s : F32} (ha : U4 a) (hb : U4 b) (hs : Num s) (s0 : 0 ≤ val s) (s1 : val s ≤ 1) (hi : -(1 / 100000) ≤ innR (vq a) (vq b)) :
    Num (lenQ (stepQ a b s)) ∧ val (lenQ (stepQ a b s)) ≠ 0 ∧ U4 (divQ (stepQ a b s) (lenQ (stepQ a b s))) ∧
    ∃ k, 0 < k ∧ k ≤ 3 / 2 ∧ C4 (divQ (stepQ a b s) (lenQ (stepQ a b s))) (scaleR (lerpR (vq a) (vq b) (val s)) k) (1 / 400000) := by
  obtain ⟨a1, a2, a3, a4⟩ := ha.bound
  obtain ⟨b1, b2, b3, b4⟩ := hb.bound
  obtain ⟨⟨n1, n2, n3, n4⟩, hna⟩ := ha
  obtain ⟨⟨m1, m2, m3, m4⟩, hnb⟩ := hb
  obtain ⟨w1, w2⟩ := step_near n1 m1 hs a1 b1 s0 s1
  obtain ⟨x1, x2⟩ := step_near n2 m2 hs a2 b2 s0 s1
  obtain ⟨y1, y2⟩ := step_near n3 m3 hs a3 b3 s0 s1
  obtain ⟨z1, z2⟩ := step_near n4 m4 hs a4 b4 s0 s1
  have hN : N4 (stepQ a b s) := ⟨w1, x1, y1, z1⟩
  obtain ⟨u1, u2⟩ := abs_bounds hna
  obtain ⟨u3, u4⟩ := abs_bounds hnb
  obtain ⟨r, hr⟩ : ∃ r, r = lerpR (vq a) (vq b) (val s) := ⟨_, rfl⟩
  have t0 : 0 ≤ 1 - val s := by grind
  have hrn : 49 / 100 ≤ innR r r ∧ innR r r ≤ 1 + 1 / 10000 := by
    have e : innR r r = (1 - val s) * (1 - val s) * innR (vq a) (vq a) + val s * val s * innR (vq b) (vq b) + 2 * ((1 - val s) * val s) * innR (vq a) (vq b) := by
      rw [hr]; unfold innR lerpR; grind
    have q1 := Rat.mul_nonneg t0 t0
    have q2 := Rat.mul_nonneg s0 s0
    have q3 := Rat.mul_nonneg t0 s0
    have hiu : innR (vq a) (vq b) ≤ 1 + 1 / 100000 := by
      have hh := sq_nonneg ((vq a).w - (vq b).w)
      have hh2 := sq_nonneg ((vq a).x - (vq b).x)
      have hh3 := sq_nonneg ((vq a).y - (vq b).y)
      have hh4 := sq_nonneg ((vq a).z - (vq b).z)
      unfold innR at *
      grind
    generalize innR (vq a) (vq a) = A at *
    generalize innR (vq b) (vq b) = B at *
    generalize innR (vq a) (vq b) = C at *
    have k1 := Rat.mul_le_mul_of_nonneg_left u1 q1
    have k2 := Rat.mul_le_mul_of_nonneg_left u2 q1
    have k3 := Rat.mul_le_mul_of_nonneg_left u3 q2
    have k4 := Rat.mul_le_mul_of_nonneg_left u4 q2
    have k5 := Rat.mul_le_mul_of_nonneg_left hi q3
    have k6 := Rat.mul_le_mul_of_nonneg_left hiu q3
    have k7 := sq_nonneg (val s - 1 / 2)
    rw [e]
    constructor <;> grind
  obtain ⟨i1, i2, i3, i4⟩ := inn_parts r
  have hrb : B4 r (1001 / 1000) := ⟨one_sq i1 (by grind), one_sq i2 (by grind), one_sq i3 (by grind), one_sq i4 (by grind)⟩
  have hc : C4 (stepQ a b s) r (1 / 1000000) := by rw [hr]; exact ⟨hN, w2, x2, y2, z2⟩
  have hbd : B4 (vq (stepQ a b s)) 2 ∧ 48 / 100 ≤ innR (vq (stepQ a b s)) (vq (stepQ a b s)) := by
    obtain ⟨-, c1, c2, c3, c4⟩ := hc
    obtain ⟨r1, r2, r3, r4⟩ := hrb
    have sum : ∀ {v x : Rat}, (v - x).abs ≤ 1 / 1000000 → x.abs ≤ 1001 / 1000 → v.abs ≤ 2 ∧ x * x - 1 / 400000 ≤ v * v := by
      intro v x h1 h2
      obtain ⟨q1, q2⟩ := abs_bounds h1
      obtain ⟨q3, q4⟩ := abs_bounds h2
      refine ⟨abs_le (by grind) (by grind), ?_⟩
      have e : (x * (v - x)).abs ≤ 1001 / 1000 * (1 / 1000000) := by
        rw [mul_abs]; exact mul_le_mul' h2 h1 Rat.abs_nonneg (by decide +kernel)
      obtain ⟨q5, q6⟩ := abs_bounds e
      have := sq_nonneg (v - x)
      grind
    obtain ⟨f1, f2⟩ := sum c1 r1
    obtain ⟨f3, f4⟩ := sum c2 r2
    obtain ⟨f5, f6⟩ := sum c3 r3
    obtain ⟨f7, f8⟩ := sum c4 r4
    refine ⟨⟨f1, f3, f5, f7⟩, ?_⟩
    have g := hrn.1
    unfold innR at g ⊢
    have f2 : r.w * r.w - 1 / 400000 ≤ (vq (stepQ a b s)).w * (vq (stepQ a b s)).w := f2
    have f4 : r.x * r.x - 1 / 400000 ≤ (vq (stepQ a b s)).x * (vq (stepQ a b s)).x := f4
    have f6 : r.y * r.y - 1 / 400000 ≤ (vq (stepQ a b s)).y * (vq (stepQ a b s)).y := f6
    have f8 : r.z * r.z - 1 / 400000 ≤ (vq (stepQ a b s)).z * (vq (stepQ a b s)).z := f8
    grind
  have hb500 := hbd.1.mono (show (2 : Rat) ≤ 500 by decide)
  obtain ⟨k, k0, k1, k2, k3, k4⟩ := mend_near hN hb500 (by grind)
  obtain ⟨-, l1, l2, -, -⟩ := lenQ_near hN hb500
  have hn0 : val (lenQ (stepQ a b s)) ≠ 0 := fun h => by rw [h, Rat.mul_zero] at k1; exact absurd k1 (by decide)
  have hk : k ≤ 3 / 2 := by
    refine le_of_sq (by decide +kernel) ?_
    obtain ⟨v1, v2⟩ := abs_bounds k2
    have := Rat.mul_le_mul_of_nonneg_left hbd.2 (Rat.le_of_lt (Rat.mul_pos k0 k0))
    grind
  refine ⟨l1, hn0, ?_, k, k0, hk, ?_⟩
  ·
    obtain ⟨nn, d1, d2, d3, d4⟩ := k3
    obtain ⟨e1, e2, e3, e4⟩ := k4
    have sum : ∀ {v x : Rat}, (v - x).abs ≤ 1 / 2000000 → x.abs ≤ 100001 / 100000 → (v * v - x * x).abs ≤ 11 / 10000000 := by
      intro v x h1 h2
      have e : v * v - x * x = (v - x) * (v + x) := by grind
      have h3 : (v + x).abs ≤ 22 / 10 := by
        obtain ⟨a1, a2⟩ := abs_bounds h1
        obtain ⟨a3, a4⟩ := abs_bounds h2
        exact abs_le (by grind) (by grind)
      rw [e, mul_abs]
      refine Rat.le_trans (mul_le_mul' h1 h3 Rat.abs_nonneg (by decide +kernel)) (by decide +kernel)
    obtain ⟨w1, w2⟩ := abs_bounds (sum d1 e1)
    obtain ⟨x1, x2⟩ := abs_bounds (sum d2 e2)
    obtain ⟨y1, y2⟩ := abs_bounds (sum d3 e3)
    obtain ⟨z1, z2⟩ := abs_bounds (sum d4 e4)
    have hsc : innR (scaleR (vq (stepQ a b s)) k) (scaleR (vq (stepQ a b s)) k) = k * k * innR (vq (stepQ a b s)) (vq (stepQ a b s)) := by unfold innR scaleR; grind
    obtain ⟨c1, c2⟩ := abs_bounds k2
    refine ⟨nn, ?_⟩
    rw [← hsc] at c1 c2
    generalize divQ (stepQ a b s) (lenQ (stepQ a b s)) = Z at *
    generalize scaleR (vq (stepQ a b s)) k = S at *
    unfold innR vq at *
    dsimp only at *
    exact abs_le (by grind) (by grind)
  · rw [← hr]
    obtain ⟨nn, d1, d2, d3, d4⟩ := k3
    obtain ⟨-, c1, c2, c3, c4⟩ := hc
    have cm : ∀ {v x y : Rat}, (v - x * k).abs ≤ 1 / 2000000 → (x - y).abs ≤ 1 / 1000000 → (v - y * k).abs ≤ 1 / 400000 := by
      intro v x y h1 h2
      have e : ((x - y) * k).abs ≤ 1 / 1000000 * (3 / 2) := by
        rw [mul_abs, Rat.abs_of_nonneg (Rat.le_of_lt k0)]
        exact mul_le_mul' h2 hk Rat.abs_nonneg (by decide +kernel)
      obtain ⟨q1, q2⟩ := abs_bounds h1
      obtain ⟨q3, q4⟩ := abs_bounds e
      exact abs_le (by grind) (by grind)
    exact ⟨nn, cm d1 c1, cm d2 c2, cm d3 c3, cm d4 c4⟩
end
end Go.Fw
