
import Derived.Test.YtblpjlaihgcilafFwFR
namespace Go.Fw
open Go
theorem p2_lt {a b : Int} (h : p2 a ≤ p2 b) : a ≤ b := by
  apply Classical.byContradiction
  intro hc
  have h1 := p2_mono (show b + 1 ≤ a by omega)
  have h2 := p2_half (b + 1)
  rw [show b + 1 - 1 = b by omega] at h2
  have h3 := p2_pos b
  grind
theorem nearest_pow {f : Ieee.Format} (hf : Fmt f) (hI : (100 - f.leastPlace).toNat * f.binade ≤ f.infRung) (neg : Bool) {m : Nat} {p : Int} (hm : m ≠ 0) (hB : p + (m.log2 : Int) < 100) {E : Int} (hE : f.leastPlace ≤ E) (hEv : (m : Rat) * p2 p ≤ p2 E) :
    ∃ m' p', f.read (f.nearest neg m p) = .number neg m' p' ∧ (m' : Rat) * p2 p' ≤ p2 E := by
  have hlogE : p + (m.log2 : Int) ≤ E := p2_lt (Rat.le_trans (mag_bounds hm p).1 hEv)
  unfold Ieee.Format.nearest
  rw [if_neg hm]
  dsimp only
  generalize hlast : max (p + (m.log2 : Int) - (f.fractionBits : Int)) f.leastPlace = last
  have hb : 0 < f.binade := Nat.two_pow_pos _
  have hlp := hf.lp
  have hkept : Ieee.Toward.even.cut neg (m <<< (p - last).toNat) (last - p).toNat ≤ 2 * f.binade := by
    unfold Ieee.Format.binade
    refine cut_le _ _ _ _ (by have := Nat.two_pow_pos f.fractionBits; omega) ?_
    rw [Nat.shiftLeft_eq]
    have hpow : m * 2 ^ (p - last).toNat < 2 ^ (m.log2 + 1) * 2 ^ (p - last).toNat := Nat.mul_lt_mul_of_pos_right log2_lt_pow (Nat.two_pow_pos _)
    refine Nat.lt_of_lt_of_le hpow ?_
    rw [← Nat.pow_succ', ← Nat.pow_add, ← Nat.pow_add]
    exact Nat.pow_le_pow_right (by omega) (by omega)
  have hkb : (last - f.leastPlace).toNat = 0 ∨ f.binade ≤ Ieee.Toward.even.cut neg (m <<< (p - last).toNat) (last - p).toNat := by
    by_cases h0 : last = f.leastPlace
    · left; omega
    · right
      have hl2 : last = p + (m.log2 : Int) - (f.fractionBits : Int) := by omega
      unfold Ieee.Format.binade
      rw [Nat.shiftLeft_eq]
      rcases Nat.le_total m.log2 f.fractionBits with hd | hd
      · have e1 : (p - last).toNat = f.fractionBits - m.log2 := by omega
        have e2 : (last - p).toNat = 0 := by omega
        rw [e1, e2]
        refine cut_ge _ _ _ _ (by omega) ?_
        rw [Nat.pow_zero, Nat.mul_one]
        have := Nat.mul_le_mul_right (2 ^ (f.fractionBits - m.log2)) (pow_log2_le hm)
        rw [← Nat.pow_add] at this
        have e3 : m.log2 + (f.fractionBits - m.log2) = f.fractionBits := by omega
        rwa [e3] at this
      · have e1 : (p - last).toNat = 0 := by omega
        have e2 : (last - p).toNat = m.log2 - f.fractionBits := by omega
        rw [e1, e2, Nat.pow_zero, Nat.mul_one]
        refine cut_ge _ _ _ _ (by omega) ?_
        rw [← Nat.pow_add]
        have e3 : f.fractionBits + (m.log2 - f.fractionBits) = m.log2 := by omega
        rw [e3]
        exact pow_log2_le hm
  have hcn := cut_near neg (m <<< (p - last).toNat) (last - p).toNat
  generalize Ieee.Toward.even.cut neg (m <<< (p - last).toNat) (last - p).toNat = c at *
  rw [Nat.shiftLeft_eq] at hcn
  have hlt : (last - f.leastPlace).toNat * f.binade + c < f.infRung := by
    have h1 : (last - f.leastPlace).toNat + 3 ≤ (100 - f.leastPlace).toNat := by
      have := hf.fb
      omega
    have h2 := Nat.mul_le_mul_right f.binade h1
    rw [Nat.add_mul] at h2
    omega
  rw [Nat.min_eq_left (Nat.le_of_lt hlt)]
  obtain ⟨m', p', e1, e2⟩ := read_rung_val hf neg hkept hkb hlt
  refine ⟨m', p', e1, ?_⟩
  rw [e2, show f.leastPlace + (((last - f.leastPlace).toNat : Nat) : Int) = last by omega]
  have key : ∀ base : Int, base ≤ p → base ≤ last → (p - last).toNat + (last - base).toNat = (last - p).toNat + (p - base).toNat →
      2 * ((c : Rat) * p2 last) ≤ 2 * ((m : Rat) * p2 p) + p2 last ∧ 2 * ((m : Rat) * p2 p) ≤ 2 * ((c : Rat) * p2 last) + p2 last := by
    intro base hb1 hb2 hE
    rcases Int.le_total p last with h | h
    · have e3 : (p - last).toNat = 0 := by omega
      rw [e3, Nat.pow_zero, Nat.mul_one] at hcn
      rw [p2_sub h]
      have c1 : ((2 * (c * 2 ^ (last - p).toNat) : Nat) : Rat) ≤ ((2 * m + 2 ^ (last - p).toNat : Nat) : Rat) := Rat.natCast_le_natCast.2 hcn.1
      have c2 : ((2 * m : Nat) : Rat) ≤ ((2 * (c * 2 ^ (last - p).toNat) + 2 ^ (last - p).toNat : Nat) : Rat) := Rat.natCast_le_natCast.2 hcn.2
      rw [Rat.natCast_mul, Rat.natCast_mul, Rat.natCast_add, Rat.natCast_mul] at c1
      rw [Rat.natCast_mul, Rat.natCast_add, Rat.natCast_mul, Rat.natCast_mul] at c2
      have hp := Rat.le_of_lt (p2_pos p)
      have d1 := Rat.mul_le_mul_of_nonneg_right c1 hp
      have d2 := Rat.mul_le_mul_of_nonneg_right c2 hp
      constructor <;> grind
    · have e3 : (last - p).toNat = 0 := by omega
      rw [e3, Nat.pow_zero, Nat.mul_one] at hcn
      rw [p2_sub h]
      have c1 : ((2 * c : Nat) : Rat) ≤ ((2 * (m * 2 ^ (p - last).toNat) + 1 : Nat) : Rat) := Rat.natCast_le_natCast.2 hcn.1
      have c2 : ((2 * (m * 2 ^ (p - last).toNat) : Nat) : Rat) ≤ ((2 * c + 1 : Nat) : Rat) := Rat.natCast_le_natCast.2 hcn.2
      rw [Rat.natCast_mul, Rat.natCast_add, Rat.natCast_mul, Rat.natCast_mul] at c1
      rw [Rat.natCast_mul, Rat.natCast_mul, Rat.natCast_add, Rat.natCast_mul] at c2
      have hp := Rat.le_of_lt (p2_pos last)
      have d1 := Rat.mul_le_mul_of_nonneg_right c1 hp
      have d2 := Rat.mul_le_mul_of_nonneg_right c2 hp
      constructor <;> grind
  have hk := (key (min p last) (by omega) (by omega) (by omega)).1
  have hlE : last ≤ E := by have := hf.fb; omega
  rw [p2_sub hlE] at hEv ⊢
  have hL := p2_pos last
  generalize p2 last = X at *
  generalize (m : Rat) * p2 p = v at *
  have h1 : (2 * (c : Rat)) * X ≤ (2 * ((2 ^ (E - last).toNat : Nat) : Rat) + 1) * X := by grind
  have h2 : 2 * (c : Rat) ≤ 2 * ((2 ^ (E - last).toNat : Nat) : Rat) + 1 := Rat.not_lt.1 fun hc => by
    have := Rat.mul_lt_mul_of_pos_right hc hL
    exact absurd h1 (Rat.not_le.2 this)
  have h3 : ((2 * c : Nat) : Rat) ≤ ((2 * 2 ^ (E - last).toNat + 1 : Nat) : Rat) := by
    rw [Rat.natCast_mul, Rat.natCast_add, Rat.natCast_mul]
    exact h2
  have h4 : 2 * c ≤ 2 * 2 ^ (E - last).toNat + 1 := Rat.natCast_le_natCast.1 h3
  have h5 : (c : Rat) ≤ ((2 ^ (E - last).toNat : Nat) : Rat) := Rat.natCast_le_natCast.2 (by omega)
  rw [Rat.mul_comm X]
  exact Rat.mul_le_mul_of_nonneg_right h5 (Rat.le_of_lt hL)
theorem dv_abs (s : Bool) (m : Nat) (p : Int) : (dv (.number s m p)).abs = (m : Rat) * p2 p := by
  show ((if s then -1 else 1) * ((m : Rat) * p2 p)).abs = _
  exact sgn_abs s (Rat.mul_nonneg Rat.natCast_nonneg (Rat.le_of_lt (p2_pos p)))
theorem write_pow (k : FloatKind) {s : Bool} {m : Nat} {p : Int} {E : Int} (hE : k.format.leastPlace ≤ E) (h99 : E < 100) (h : (dv (.number s m p)).abs ≤ p2 E) :
    ∃ m' p', k.format.read (k.format.write (.number s m p)) = .number s m' p' ∧ (dv (.number s m' p')).abs ≤ p2 E := by
  have hlt : (dv (.number s m p)).abs < p2 100 := by
    have h1 := p2_mono (show E + 1 ≤ 100 by omega)
    have h2 := p2_half (E + 1)
    rw [show E + 1 - 1 = E by omega] at h2
    have h3 := p2_pos E
    grind
  by_cases hm : m = 0
  · obtain ⟨m', p', e1, e2, e3, e4⟩ := write_val k hlt
    refine ⟨m', p', e1, ?_⟩
    have z : dv (.number s m p) = 0 := by subst hm; show (if s then -1 else 1) * (((0 : Nat) : Rat) * p2 p) = 0; simp
    rw [z] at e3 e4
    have : dv (.number s m' p') = 0 := Rat.le_antisymm (e4 Rat.le_refl) (e3 Rat.le_refl)
    rw [this, Rat.abs_zero]
    exact Rat.le_of_lt (p2_pos E)
  · rw [dv_abs] at h hlt
    have hlog : p + (m.log2 : Int) < 100 := by
      apply Classical.byContradiction
      intro hc
      have := p2_mono (show (100 : Int) ≤ p + (m.log2 : Int) by omega)
      exact absurd (Rat.le_trans this (mag_bounds hm p).1) (Rat.not_le.2 hlt)
    obtain ⟨m', p', e1, e2⟩ := nearest_pow (fmt_ok k) (inf_ok k) s hm hlog hE h
    exact ⟨m', p', e1, by rw [dv_abs]; exact e2⟩
theorem op_pow {k : FloatKind} {o : Option Nat} {h : ∀ r, o = some r → r < 2 ^ k.format.width} {s : Bool} {m : Nat} {p : Int} (e : o = some (k.format.write (.number s m p))) {E : Int} (hE : k.format.leastPlace ≤ E) (h99 : E < 100) (hb : (dv (.number s m p)).abs ≤ p2 E) :
    (val (Fl.opt k o h)).abs ≤ p2 E := by
  obtain ⟨m', p', e1, e2⟩ := write_pow k hE h99 hb
  have e3 := opt_num (h := h) e e1 rfl
  rw [val_of e3]
  exact e2
theorem add_pow {k : FloatKind} {x y : Fl k} (hx : Num x) (hy : Num y) {E : Int} (hE : k.format.leastPlace ≤ E) (h99 : E < 100) (hb : (val x + val y).abs ≤ p2 E) : (val (x.add y)).abs ≤ p2 E := by
  obtain ⟨s, m, i, ex⟩ := hx
  obtain ⟨t, n, j, ey⟩ := hy
  rw [val_of ex, val_of ey] at *
  obtain ⟨S, M, P, e1, e2⟩ := dv_sum (s := s) (t := t) (m := m) (n := n) (i := i) (j := j)
  rw [← e2] at hb
  have e : k.format.add x.bits y.bits = some (k.format.write (.number S M P)) := by unfold Ieee.Format.add; rw [ex, ey, e1]; rfl
  exact op_pow (h := fun _ h => k.format.add_lt h) e hE h99 hb
theorem sub_pow {k : FloatKind} {x y : Fl k} (hx : Num x) (hy : Num y) {E : Int} (hE : k.format.leastPlace ≤ E) (h99 : E < 100) (hb : (val x - val y).abs ≤ p2 E) : (val (x.sub y)).abs ≤ p2 E := by
  obtain ⟨s, m, i, ex⟩ := hx
  obtain ⟨t, n, j, ey⟩ := hy
  rw [val_of ex, val_of ey] at *
  obtain ⟨S, M, P, e1, e2⟩ := dv_sum (s := s) (t := !t) (m := m) (n := n) (i := i) (j := j)
  rw [dv_opp, ← Rat.sub_eq_add_neg] at e2
  rw [← e2] at hb
  have e : k.format.sub x.bits y.bits = some (k.format.write (.number S M P)) := by
    unfold Ieee.Format.sub; rw [ex, ey]
    show ((Ieee.Datum.number s m i).sum (.number (!t) n j)).map k.format.write = _
    rw [e1]; rfl
  exact op_pow (h := fun _ h => k.format.sub_lt h) e hE h99 hb
theorem mul_pow {k : FloatKind} {x y : Fl k} (hx : Num x) (hy : Num y) {E : Int} (hE : k.format.leastPlace ≤ E) (h99 : E < 100) (hb : (val x * val y).abs ≤ p2 E) : (val (x.mul y)).abs ≤ p2 E := by
  obtain ⟨s, m, i, ex⟩ := hx
  obtain ⟨t, n, j, ey⟩ := hy
  rw [val_of ex, val_of ey] at *
  rw [← dv_mul] at hb
  have e : k.format.mul x.bits y.bits = some (k.format.write (.number (s ^^ t) (m * n) (i + j))) := by unfold Ieee.Format.mul; rw [ex, ey]; rfl
  exact op_pow (h := fun _ h => k.format.mul_lt h) e hE h99 hb
theorem narrow_pow {x : F64} (hx : Num x) {E : Int} (hE : Ieee.single.leastPlace ≤ E) (h99 : E < 100) (hb : (val x).abs ≤ p2 E) : (val (Fl.cv .f64 .f32 x)).abs ≤ p2 E := by
  obtain ⟨s, m, p, h⟩ := hx
  rw [val_of h] at hb
  obtain ⟨m', p', e1, e2⟩ := write_pow .f32 hE h99 hb
  have hc := cvn_number (h : Ieee.double.read x.bits = _) (r := Ieee.single.nearest s m p) rfl ⟨s, m', p', e1⟩
  have hr : FloatKind.f32.format.read (Fl.cv .f64 .f32 x).bits = .number s m' p' := by
    show Ieee.single.read ((convBits .f64 x.bits .f32).getD 0) = _
    rw [hc]; exact e1
  rw [val_of hr]
  exact e2
end Go.Fw
