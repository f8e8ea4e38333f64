
import Derived.Test.YtblpjlaihgcilafFwFA3
namespace Go.Fw
open Go
noncomputable section
theorem add_le2 {a b c d : Rat} (h1 : a ≤ b) (h2 : c ≤ d) : a + c ≤ b + d := by grind
structure Q4 where
  w : F32
  x : F32
  y : F32
  z : F32
structure R4 where
  w : Rat
  x : Rat
  y : Rat
  z : Rat
def vq (q : Q4) : R4 := ⟨val q.w, val q.x, val q.y, val q.z⟩
def N4 (q : Q4) : Prop := Num q.w ∧ Num q.x ∧ Num q.y ∧ Num q.z
def B4 (r : R4) (b : Rat) : Prop := r.w.abs ≤ b ∧ r.x.abs ≤ b ∧ r.y.abs ≤ b ∧ r.z.abs ≤ b
def C4 (q : Q4) (r : R4) (e : Rat) : Prop := N4 q ∧ (val q.w - r.w).abs ≤ e ∧ (val q.x - r.x).abs ≤ e ∧ (val q.y - r.y).abs ≤ e ∧ (val q.z - r.z).abs ≤ e
def mulQ (a b : Q4) : Q4 :=
  ⟨(((a.w.mul b.w).sub (a.x.mul b.x)).sub (a.y.mul b.y)).sub (a.z.mul b.z),
   (((a.w.mul b.x).add (a.x.mul b.w)).add (a.y.mul b.z)).sub (a.z.mul b.y),
   (((a.w.mul b.y).sub (a.x.mul b.z)).add (a.y.mul b.w)).add (a.z.mul b.x),
   (((a.w.mul b.z).add (a.x.mul b.y)).sub (a.y.mul b.x)).add (a.z.mul b.w)⟩
def mulR (a b : R4) : R4 :=
  ⟨a.w * b.w - a.x * b.x - a.y * b.y - a.z * b.z, a.w * b.x + a.x * b.w + a.y * b.z - a.z * b.y,
   a.w * b.y - a.x * b.z + a.y * b.w + a.z * b.x, a.w * b.z + a.x * b.y - a.y * b.x + a.z * b.w⟩
def conjQ (a : Q4) : Q4 := ⟨a.w, a.x.neg, a.y.neg, a.z.neg⟩
def oppQ (a : Q4) : Q4 := ⟨a.w.neg, a.x.neg, a.y.neg, a.z.neg⟩
def conjR (a : R4) : R4 := ⟨a.w, -a.x, -a.y, -a.z⟩
def oppR (a : R4) : R4 := ⟨-a.w, -a.x, -a.y, -a.z⟩
def innQ (a b : Q4) : F32 := (((a.w.mul b.w).add (a.x.mul b.x)).add (a.y.mul b.y)).add (a.z.mul b.z)
def innR (a b : R4) : Rat := a.w * b.w + a.x * b.x + a.y * b.y + a.z * b.z
def inn3Q (x y z : F32) : F32 := ((x.mul x).add (y.mul y)).add (z.mul z)
def rootQ (s : F32) : F32 := Fl.cv .f64 .f32 (Fl.cv .f32 .f64 s).sqrt
theorem prod32 {a b : F32} (ha : Num a) (hb : Num b) (h1 : (val a).abs ≤ 101 / 100) (h2 : (val b).abs ≤ 101 / 100) :
    Num (a.mul b) ∧ (val (a.mul b) - val a * val b).abs ≤ 1 / 8000000 ∧ (val (a.mul b)).abs ≤ 103 / 100 := by
  have h3 : (val a * val b).abs ≤ 10201 / 10000 := by
    rw [mul_abs]
    have := mul_le_mul' h1 h2 Rat.abs_nonneg (by decide +kernel)
    grind
  obtain ⟨n1, n2, -, -⟩ := mul32 ha hb (by grind)
  unfold o32 at n2
  obtain ⟨c1, c2⟩ := abs_bounds n2
  obtain ⟨c3, c4⟩ := abs_bounds h3
  refine ⟨n1, by grind, abs_le (by grind) (by grind)⟩
theorem plus32 {a b : F32} (ha : Num a) (hb : Num b) (h1 : (val a).abs ≤ 4) (h2 : (val b).abs ≤ 4) :
    Num (a.add b) ∧ (val (a.add b) - (val a + val b)).abs ≤ 1 / 1000000 := by
  obtain ⟨c1, c2⟩ := abs_bounds h1
  obtain ⟨c3, c4⟩ := abs_bounds h2
  have h3 : (val a + val b).abs ≤ 8 := abs_le (by grind) (by grind)
  obtain ⟨n1, n2, -, -⟩ := add32 ha hb (by grind)
  unfold o32 at n2
  exact ⟨n1, by grind⟩
theorem less32 {a b : F32} (ha : Num a) (hb : Num b) (h1 : (val a).abs ≤ 4) (h2 : (val b).abs ≤ 4) :
    Num (a.sub b) ∧ (val (a.sub b) - (val a - val b)).abs ≤ 1 / 1000000 := by
  obtain ⟨c1, c2⟩ := abs_bounds h1
  obtain ⟨c3, c4⟩ := abs_bounds h2
  have h3 : (val a - val b).abs ≤ 8 := abs_le (by grind) (by grind)
  obtain ⟨n1, n2, -, -⟩ := sub32 ha hb (by grind)
  unfold o32 at n2
  exact ⟨n1, by grind⟩
theorem four32 {p q r s : F32} {P Q R S : Rat} (hp : Num p ∧ (val p - P).abs ≤ 1 / 8000000 ∧ (val p).abs ≤ 103 / 100) (hq : Num q ∧ (val q - Q).abs ≤ 1 / 8000000 ∧ (val q).abs ≤ 103 / 100)
    (hr : Num r ∧ (val r - R).abs ≤ 1 / 8000000 ∧ (val r).abs ≤ 103 / 100) (hs : Num s ∧ (val s - S).abs ≤ 1 / 8000000 ∧ (val s).abs ≤ 103 / 100) (f g h : Bool) :
    Num ((bif h then Fl.add else Fl.sub) ((bif g then Fl.add else Fl.sub) ((bif f then Fl.add else Fl.sub) p q) r) s) ∧
    (val ((bif h then Fl.add else Fl.sub) ((bif g then Fl.add else Fl.sub) ((bif f then Fl.add else Fl.sub) p q) r) s) - (P + (bif f then Q else -Q) + (bif g then R else -R) + (bif h then S else -S))).abs ≤ 1 / 250000 := by
  obtain ⟨p1, p2, p3⟩ := hp
  obtain ⟨q1, q2, q3⟩ := hq
  obtain ⟨r1, r2, r3⟩ := hr
  obtain ⟨s1, s2, s3⟩ := hs
  have step : ∀ (b : Bool) {x y : F32} {X Y e d : Rat}, Num x → Num y → (val x).abs ≤ 4 → (val y).abs ≤ 4 → (val x - X).abs ≤ e → (val y - Y).abs ≤ d →
      Num ((bif b then Fl.add else Fl.sub) x y) ∧ (val ((bif b then Fl.add else Fl.sub) x y) - (X + (bif b then Y else -Y))).abs ≤ e + d + 1 / 1000000 := by
    intro b x y X Y e d hx hy h1 h2 h3 h4
    obtain ⟨a1, a2⟩ := abs_bounds h3
    obtain ⟨a3, a4⟩ := abs_bounds h4
    cases b
    · obtain ⟨n1, n2⟩ := less32 hx hy h1 h2
      obtain ⟨a5, a6⟩ := abs_bounds n2
      simp only [cond_false]
      exact ⟨n1, abs_le (by grind) (by grind)⟩
    · obtain ⟨n1, n2⟩ := plus32 hx hy h1 h2
      obtain ⟨a5, a6⟩ := abs_bounds n2
      simp only [cond_true]
      exact ⟨n1, abs_le (by grind) (by grind)⟩
  have sz : ∀ (b : Bool) {x Y : Rat}, Y.abs ≤ 11 / 10 → (bif b then Y else -Y).abs ≤ 11 / 10 := by
    intro b x Y h
    cases b
    · simp only [cond_false, Rat.abs_neg]; exact h
    · exact h
  have lim : ∀ {v V : Rat}, (v - V).abs ≤ 1 / 8000000 → v.abs ≤ 103 / 100 → V.abs ≤ 11 / 10 := by
    intro v V h1 h2
    obtain ⟨a1, a2⟩ := abs_bounds h1
    obtain ⟨a3, a4⟩ := abs_bounds h2
    exact abs_le (by grind) (by grind)
  have z1 := lim p2 p3
  have z2 := sz f (x := 0) (lim q2 q3)
  have z3 := sz g (x := 0) (lim r2 r3)
  obtain ⟨k1, k2⟩ := step f p1 q1 (by grind) (by grind) p2 q2
  generalize (bif f then Fl.add else Fl.sub) p q = A at *
  generalize (bif f then Q else -Q) = Q' at *
  obtain ⟨b1, b2⟩ := abs_bounds z1
  obtain ⟨b3, b4⟩ := abs_bounds z2
  obtain ⟨b5, b6⟩ := abs_bounds z3
  obtain ⟨b7, b8⟩ := abs_bounds k2
  obtain ⟨k3, k4⟩ := step g k1 r1 (abs_le (by grind) (by grind)) (by grind) k2 r2
  generalize (bif g then Fl.add else Fl.sub) A r = B at *
  generalize (bif g then R else -R) = R' at *
  obtain ⟨b9, b10⟩ := abs_bounds k4
  obtain ⟨k5, k6⟩ := step h k3 s1 (abs_le (by grind) (by grind)) (by grind) k4 s2
  refine ⟨k5, Rat.le_trans k6 ?_⟩
  decide +kernel
theorem mul_near {a b : Q4} (ha : N4 a) (hb : N4 b) (h1 : B4 (vq a) (101 / 100)) (h2 : B4 (vq b) (101 / 100)) : C4 (mulQ a b) (mulR (vq a) (vq b)) (1 / 250000) := by
  obtain ⟨a1, a2, a3, a4⟩ := ha
  obtain ⟨b1, b2, b3, b4⟩ := hb
  obtain ⟨c1, c2, c3, c4⟩ := h1
  obtain ⟨d1, d2, d3, d4⟩ := h2
  obtain ⟨w1, w2⟩ := four32 (prod32 a1 b1 c1 d1) (prod32 a2 b2 c2 d2) (prod32 a3 b3 c3 d3) (prod32 a4 b4 c4 d4) false false false
  obtain ⟨x1, x2⟩ := four32 (prod32 a1 b2 c1 d2) (prod32 a2 b1 c2 d1) (prod32 a3 b4 c3 d4) (prod32 a4 b3 c4 d3) true true false
  obtain ⟨y1, y2⟩ := four32 (prod32 a1 b3 c1 d3) (prod32 a2 b4 c2 d4) (prod32 a3 b1 c3 d1) (prod32 a4 b2 c4 d2) false true true
  obtain ⟨z1, z2⟩ := four32 (prod32 a1 b4 c1 d4) (prod32 a2 b3 c2 d3) (prod32 a3 b2 c3 d2) (prod32 a4 b1 c4 d1) true false true
  simp only [cond_true, cond_false, ← Rat.sub_eq_add_neg] at w1 w2 x1 x2 y1 y2 z1 z2
  exact ⟨⟨w1, x1, y1, z1⟩, w2, x2, y2, z2⟩
theorem inn_near {a b : Q4} (ha : N4 a) (hb : N4 b) (h1 : B4 (vq a) (101 / 100)) (h2 : B4 (vq b) (101 / 100)) : Num (innQ a b) ∧ (val (innQ a b) - innR (vq a) (vq b)).abs ≤ 1 / 250000 := by
  obtain ⟨a1, a2, a3, a4⟩ := ha
  obtain ⟨b1, b2, b3, b4⟩ := hb
  obtain ⟨c1, c2, c3, c4⟩ := h1
  obtain ⟨d1, d2, d3, d4⟩ := h2
  exact four32 (prod32 a1 b1 c1 d1) (prod32 a2 b2 c2 d2) (prod32 a3 b3 c3 d3) (prod32 a4 b4 c4 d4) true true true
theorem conj_val {a : Q4} (ha : N4 a) : N4 (conjQ a) ∧ vq (conjQ a) = conjR (vq a) := by
  obtain ⟨a1, a2, a3, a4⟩ := ha
  refine ⟨⟨a1, (neg_val a2).1, (neg_val a3).1, (neg_val a4).1⟩, ?_⟩
  unfold conjQ conjR vq
  simp only [(neg_val a2).2, (neg_val a3).2, (neg_val a4).2]
theorem opp_val {a : Q4} (ha : N4 a) : N4 (oppQ a) ∧ vq (oppQ a) = oppR (vq a) := by
  obtain ⟨a1, a2, a3, a4⟩ := ha
  refine ⟨⟨(neg_val a1).1, (neg_val a2).1, (neg_val a3).1, (neg_val a4).1⟩, ?_⟩
  unfold oppQ oppR vq
  simp only [(neg_val a1).2, (neg_val a2).2, (neg_val a3).2, (neg_val a4).2]
theorem B4.conj {r : R4} {b : Rat} (h : B4 r b) : B4 (conjR r) b := by
  obtain ⟨a, b, c, d⟩ := h
  refine ⟨a, ?_, ?_, ?_⟩ <;> show (-_ : Rat).abs ≤ _ <;> rw [Rat.abs_neg] <;> assumption
theorem B4.opp {r : R4} {b : Rat} (h : B4 r b) : B4 (oppR r) b := by
  obtain ⟨a, b, c, d⟩ := h
  refine ⟨?_, ?_, ?_, ?_⟩ <;> show (-_ : Rat).abs ≤ _ <;> rw [Rat.abs_neg] <;> assumption
/-! Roots of float32. -/
theorem least32 {s : F32} (hs : Num s) (h0 : val s ≠ 0) : p2 (-149) ≤ (val s).abs := by
  obtain ⟨g, m, p, e⟩ := hs
  have e' : Ieee.single.read s.bits = .number g m p := e
  rw [val_of e] at h0 ⊢
  rw [← dv_false g]
  show p2 (-149) ≤ (if false = true then (-1 : Rat) else 1) * ((m : Rat) * p2 p)
  simp only [Bool.false_eq_true, if_false, Rat.one_mul]
  have hm : m ≠ 0 := by
    intro hm
    apply h0
    show (if g = true then (-1 : Rat) else 1) * ((m : Rat) * p2 p) = 0
    rw [hm]; simp
  have hp : -149 ≤ p := by
    unfold Ieee.Format.read at e'
    dsimp only at e'
    have hlp : Ieee.single.leastPlace = -149 := by decide
    rw [hlp] at e'
    split at e'
    · cases e'; omega
    · split at e'
      · cases e'; omega
      · split at e' <;> cases e'
  have h1 : (1 : Rat) ≤ (m : Rat) := by
    have : ((1 : Nat) : Rat) ≤ (m : Rat) := Rat.natCast_le_natCast.2 (by omega)
    simpa using this
  have h2 := p2_mono hp
  have h3 := mul_le_mul' h1 h2 (by decide) (Rat.le_of_lt (p2_pos p))
  rw [Rat.one_mul] at h3
  exact h3
theorem root32 {s : F32} (hs : Num s) (h0 : 0 ≤ val s) (h1 : val s ≤ 2000000) : (convBits .f64 (Fl.cv .f32 .f64 s).sqrt.bits .f32).isSome = true ∧ Num (rootQ s) ∧ 0 ≤ val (rootQ s) ∧ (val (rootQ s) * val (rootQ s) - val s).abs ≤ val s * (1 / 3000000) + 1 / 100000000000000000000000000 := by
  obtain ⟨w1, w2⟩ := widen_val hs
  have hsq := sqrt_val w1 (by rw [w2]; exact h0) (by
      rw [w2]
      refine Rat.not_le.1 fun hc => ?_
      have : (2000000 : Rat) < p2 190 := by decide +kernel
      exact absurd this (Rat.not_lt.2 (Rat.le_trans hc h1))) (by
      rw [w2]
      by_cases hz : val s = 0
      · exact .inl hz
      · right
        have := least32 hs hz
        rw [Rat.abs_of_nonneg h0] at this
        exact Rat.le_trans (p2_mono (by decide)) this)
  obtain ⟨q1, q2, q3⟩ := hsq
  rw [w2] at q3
  obtain ⟨q4, q5⟩ := abs_bounds q3
  unfold rootQ
  generalize (Fl.cv .f32 .f64 s).sqrt = R at *
  have hR : val R ≤ 2000 := le_of_sq (by decide) (by grind)
  obtain ⟨n1, n2, n3, n4, -⟩ := narrow64 q1 (by rw [Rat.abs_of_nonneg q2]; grind)
  unfold o32 at n3
  rw [Rat.abs_of_nonneg q2] at n3
  obtain ⟨n5, n6⟩ := abs_bounds n3
  refine ⟨n1, n2, n4 q2, ?_⟩
  generalize val (Fl.cv .f64 .f32 R) = v at *
  generalize val R = r at *
  have hv : 0 ≤ v := n4 q2
  have e : v * v - r * r = (v - r) * (v + r) := by grind
  have h3 : (v * v - r * r).abs ≤ r * r * (1 / 3900000) + 1 / 200000000000000000000000000 := by
    rw [e, mul_abs]
    have k1 : (v + r).abs ≤ r * (201 / 100) + 1 / 1000000000000000000000000000000 := abs_le (by grind) (by grind)
    have k2 := mul_le_mul' n3 k1 Rat.abs_nonneg (by grind)
    have k3 := Rat.mul_nonneg q2 q2
    refine Rat.le_trans k2 ?_
    grind
  obtain ⟨h4, h5⟩ := abs_bounds h3
  refine abs_le ?_ ?_ <;> grind
end
end Go.Fw
