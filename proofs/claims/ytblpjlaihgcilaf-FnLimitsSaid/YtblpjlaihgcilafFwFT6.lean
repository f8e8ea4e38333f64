
import Derived.Test.YtblpjlaihgcilafFwFT5
namespace Go.Fw
open Go
noncomputable section
def f0 : F32 := Fl.mk (k := .f32) 0 (by decide)
theorem f0_val : Num f0 ∧ val f0 = 0 := const_val (s := false) (m := 0) (p := -149) (by decide) (by decide +kernel)
def sideQ (a b : Q4) : Q4 := if (innQ a b).lt' f0 = true then oppQ b else b
def nearQ (a b : Q4) (s : F32) : Q4 := divQ (stepQ a (sideQ a b) s) (lenQ (stepQ a (sideQ a b) s))
theorem scale_one (r : R4) : scaleR r 1 = r := by
  unfold scaleR
  simp only [Rat.mul_one]
theorem scale_neg (r : R4) : scaleR r (-1) = oppR r := by
  unfold scaleR oppR
  congr 1 <;> grind
theorem opp_norm (r : R4) : innR (oppR r) (oppR r) = innR r r := by
  unfold innR oppR
  grind
theorem inn_opp (a b : R4) : innR a (oppR b) = -innR a b := by
  unfold innR oppR
  grind
theorem U4.opp {q : Q4} (h : U4 q) : U4 (oppQ q) := by
  obtain ⟨n, e⟩ := opp_val h.1
  refine ⟨n, ?_⟩
  rw [e, opp_norm]; exact h.2
theorem side_is {a b : Q4} (ha : U4 a) (hb : U4 b) : U4 (sideQ a b) ∧ ∃ c, c * c = 1 ∧ vq (sideQ a b) = scaleR (vq b) c ∧ -(1 / 100000) ≤ innR (vq a) (scaleR (vq b) c) := by
  obtain ⟨i1, i2⟩ := inn_near ha.1 hb.1 (ha.bound.mono (by decide +kernel)) (hb.bound.mono (by decide +kernel))
  obtain ⟨c1, c2⟩ := abs_bounds i2
  unfold sideQ
  cases h : (innQ a b).lt' f0
  · have h' : ¬ (innQ a b).lt' f0 = true := by rw [h]; exact Bool.false_ne_true
    rw [lt_val i1 f0_val.1, f0_val.2] at h'
    simp only [Bool.false_eq_true, if_false]
    refine ⟨hb, 1, by decide +kernel, (scale_one _).symm, ?_⟩
    rw [scale_one]
    have := Rat.not_lt.1 h'
    grind
  · rw [lt_val i1 f0_val.1, f0_val.2] at h
    simp only [if_true]
    refine ⟨hb.opp, -1, by decide +kernel, ?_, ?_⟩
    · rw [(opp_val hb.1).2, scale_neg]
    · rw [scale_neg, inn_opp]; grind
theorem near_facts {a b : Q4} {s : F32} (ha : U4 a) (hb : U4 b) (hs : Num s) (s0 : 0 ≤ val s) (s1 : val s ≤ 1) :
    Num (innQ a b) ∧ Num (lenQ (stepQ a (sideQ a b) s)) ∧ val (lenQ (stepQ a (sideQ a b) s)) ≠ 0 ∧ U4 (nearQ a b s) ∧
    ∃ c k, c * c = 1 ∧ 0 < k ∧ k ≤ 3 / 2 ∧ -(1 / 100000) ≤ innR (vq a) (scaleR (vq b) c) ∧ C4 (nearQ a b s) (scaleR (lerpR (vq a) (scaleR (vq b) c) (val s)) k) (1 / 400000) := by
  obtain ⟨i1, i2⟩ := inn_near ha.1 hb.1 (ha.bound.mono (by decide +kernel)) (hb.bound.mono (by decide +kernel))
  obtain ⟨u, c, c1, c2, c3⟩ := side_is ha hb
  obtain ⟨n1, n2, n3, k, k0, k1, k2⟩ := between_near ha u hs s0 s1 (by rw [c2]; exact c3)
  rw [c2] at k2
  exact ⟨i1, n1, n2, n3, c, k, c1, k0, k1, c3, k2⟩
def Mul4 (a b : Q4) (e : Rat) : Prop := ∃ k, k.abs ≤ 101 / 100 ∧ C4 b (scaleR (vq a) k) e
theorem mult_of {a b : Q4} {k e : Rat} (ha : U4 a) (hb : U4 b) (he : e ≤ 1 / 100000) (h : C4 b (scaleR (vq a) k) e) : Mul4 a b e := by
  refine ⟨k, ?_, h⟩
  obtain ⟨-, h1, h2, h3, h4⟩ := h
  obtain ⟨b1, b2, b3, b4⟩ := hb.bound
  have sum : ∀ {v x : Rat}, (v - x).abs ≤ e → v.abs ≤ 10001 / 10000 → x * x ≤ v * v + 21 / 1000000 := by
    intro v x q1 q2
    obtain ⟨a1, a2⟩ := abs_bounds q1
    obtain ⟨a3, a4⟩ := abs_bounds q2
    have e1 : x * x - v * v = (x - v) * (x + v) := by grind
    have h3 : (x + v).abs ≤ 21 / 10 := abs_le (by grind) (by grind)
    have h4 : (x - v).abs ≤ 1 / 100000 := by rw [Rat.abs_sub_comm]; exact Rat.le_trans q1 he
    have h5 : ((x - v) * (x + v)).abs ≤ 21 / 1000000 := by
      rw [mul_abs]
      exact Rat.le_trans (mul_le_mul' h4 h3 Rat.abs_nonneg (by decide +kernel)) (by decide +kernel)
    have := (abs_bounds h5).1
    grind
  have w := sum h1 b1
  have x := sum h2 b2
  have y := sum h3 b3
  have z := sum h4 b4
  have hn : k * k * innR (vq a) (vq a) ≤ innR (vq b) (vq b) + 84 / 1000000 := by
    have e1 : innR (scaleR (vq a) k) (scaleR (vq a) k) = k * k * innR (vq a) (vq a) := by unfold innR scaleR; grind
    rw [← e1]
    generalize scaleR (vq a) k = S at *
    unfold innR vq
    dsimp only
    grind
  obtain ⟨a1, a2⟩ := abs_bounds ha.2
  obtain ⟨a3, a4⟩ := abs_bounds hb.2
  have hkk := sq_nonneg k
  have := Rat.mul_le_mul_of_nonneg_left (show 99999 / 100000 ≤ innR (vq a) (vq a) by grind) hkk
  refine sq_le ?_ (by decide +kernel)
  refine Rat.le_trans (b := 1001 / 1000) ?_ (by decide +kernel)
  grind
theorem Mul4.trans {a b c : Q4} {d e : Rat} (h1 : Mul4 a b d) (h2 : Mul4 b c e) : ∃ k, C4 c (scaleR (vq a) k) (e + d * (101 / 100)) := by
  obtain ⟨k, -, -, p1, p2, p3, p4⟩ := h1
  obtain ⟨l, l1, n, q1, q2, q3, q4⟩ := h2
  refine ⟨k * l, n, ?_⟩
  have cm : ∀ {v x y : Rat}, (v - x * l).abs ≤ e → (x - y * k).abs ≤ d → (v - y * (k * l)).abs ≤ e + d * (101 / 100) := by
    intro v x y r1 r2
    have e1 : ((x - y * k) * l).abs ≤ d * (101 / 100) := by
      rw [mul_abs]; exact mul_le_mul' r2 l1 Rat.abs_nonneg (by decide +kernel)
    obtain ⟨s1, s2⟩ := abs_bounds r1
    obtain ⟨s3, s4⟩ := abs_bounds e1
    exact abs_le (by grind) (by grind)
  exact ⟨cm q1 p1, cm q2 p2, cm q3 p3, cm q4 p4⟩
theorem near_zero {a b : Q4} {s : F32} (ha : U4 a) (hb : U4 b) (hs : Num s) (s0 : val s = 0) : U4 (nearQ a b s) ∧ Mul4 a (nearQ a b s) (1 / 400000) := by
  obtain ⟨-, -, -, u, c, k, -, -, -, -, h⟩ := near_facts ha hb hs (by rw [s0]; exact Rat.le_refl) (by rw [s0]; decide)
  have e : lerpR (vq a) (scaleR (vq b) c) (val s) = vq a := by
    rw [s0]; unfold lerpR
    simp only [Rat.zero_mul, Rat.add_zero]
  rw [e] at h
  exact ⟨u, mult_of ha u (by decide +kernel) h⟩
theorem Mul4.small {a b : Q4} {e : Rat} (ha : U4 a) (hb : U4 b) (h : Mul4 a b e) (he0 : 0 ≤ e) (he : e ≤ 1 / 100000) : Fair (apartQ a b) ∧ Num (angQ (apartQ a b)) ∧ 0 ≤ val (angQ (apartQ a b)) ∧ val (angQ (apartQ a b)) ≤ 1 / 2000 := by
  obtain ⟨k, -, h⟩ := h
  exact apart_small ha hb h he0 he
theorem Mul4.mono {a b : Q4} {d e : Rat} (h : Mul4 a b d) (hde : d ≤ e) : Mul4 a b e := by
  obtain ⟨k, h1, h2⟩ := h
  exact ⟨k, h1, h2.mono hde⟩
end
end Go.Fw
