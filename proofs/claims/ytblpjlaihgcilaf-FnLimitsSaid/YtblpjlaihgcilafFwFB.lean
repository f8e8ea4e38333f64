
import Derived.Test.YtblpjlaihgcilafFwPu
namespace Go.Fw
open Go
/-! Rounding. -/
theorem cut_le (neg : Bool) (n drop B : Nat) (hB : 0 < B) (h : n < B * 2 ^ drop) : Ieee.Toward.even.cut neg n drop ≤ B := by
  unfold Ieee.Toward.cut
  simp only [Nat.one_shiftLeft]
  have hlow : n / 2 ^ min drop (n.log2 + 2) < B := by
    rcases Nat.le_total drop (n.log2 + 2) with hd | hd
    · rw [Nat.min_eq_left hd]
      exact (Nat.div_lt_iff_lt_mul (Nat.two_pow_pos _)).2 h
    · rw [Nat.min_eq_right hd]
      have : n < 2 ^ (n.log2 + 2) := Nat.lt_trans Nat.lt_log2_self (Nat.pow_lt_pow_right (by omega) (by omega))
      rw [Nat.div_eq_of_lt this]; exact hB
  have hb : ∀ b : Bool, b.toNat ≤ 1 := fun b => by cases b <;> decide
  generalize n / 2 ^ min drop (n.log2 + 2) = low at hlow ⊢
  generalize n % 2 ^ min drop (n.log2 + 2) = rest
  have := hb (decide (2 ^ min drop (n.log2 + 2) < 2 * rest) || 2 ^ min drop (n.log2 + 2) == 2 * rest && low % 2 == 1)
  omega
theorem cut_ge (neg : Bool) (n drop B : Nat) (h1 : drop ≤ n.log2 + 2) (h : B * 2 ^ drop ≤ n) : B ≤ Ieee.Toward.even.cut neg n drop := by
  unfold Ieee.Toward.cut
  simp only [Nat.one_shiftLeft]
  rw [Nat.min_eq_left h1]
  have : B ≤ n / 2 ^ drop := (Nat.le_div_iff_mul_le (Nat.two_pow_pos _)).2 h
  omega
theorem log2_lt_pow {m : Nat} : m < 2 ^ (m.log2 + 1) := Nat.lt_log2_self
theorem pow_log2_le {m : Nat} (h : m ≠ 0) : 2 ^ m.log2 ≤ m := Nat.log2_self_le h
theorem nearest_word2 (f : Ieee.Format) (neg : Bool) (m : Nat) (p : Int) : ∃ r, r ≤ f.infRung ∧ f.nearest neg m p = f.word neg r := by
  unfold Ieee.Format.nearest
  by_cases h : m = 0
  · rw [if_pos h]; exact ⟨0, Nat.zero_le _, rfl⟩
  · rw [if_neg h]; exact ⟨_, Nat.min_le_right _ _, rfl⟩
theorem nearest_le (f : Ieee.Format) (neg : Bool) (m : Nat) (p n : Int) (hm : m ≠ 0) (h : p + (m.log2 : Int) < n) (hn : f.leastPlace + (f.fractionBits : Int) + 1 ≤ n) :
    ∃ r, f.nearest neg m p = f.word neg r ∧ r ≤ (n + 1 - f.leastPlace - (f.fractionBits : Int)).toNat * f.binade := by
  unfold Ieee.Format.nearest
  rw [if_neg hm]
  refine ⟨_, rfl, ?_⟩
  refine Nat.le_trans (Nat.min_le_left _ _) ?_
  generalize hlast : max (p + (m.log2 : Int) - (f.fractionBits : Int)) f.leastPlace = last
  have hkept : Ieee.Toward.even.cut neg (m <<< (p - last).toNat) (last - p).toNat ≤ 2 * f.binade := by
    unfold Ieee.Format.binade
    refine cut_le _ _ _ _ (by have := Nat.two_pow_pos f.fractionBits; omega) ?_
    rw [Nat.shiftLeft_eq]
    have hpow : m * 2 ^ (p - last).toNat < 2 ^ (m.log2 + 1) * 2 ^ (p - last).toNat := Nat.mul_lt_mul_of_pos_right log2_lt_pow (Nat.two_pow_pos _)
    refine Nat.lt_of_lt_of_le hpow ?_
    rw [← Nat.pow_succ', ← Nat.pow_add, ← Nat.pow_add]
    exact Nat.pow_le_pow_right (by omega) (by omega)
  have h2 : (last - f.leastPlace).toNat + 2 ≤ (n + 1 - f.leastPlace - (f.fractionBits : Int)).toNat := by omega
  have := Nat.mul_le_mul_right f.binade h2
  rw [Nat.add_mul] at this
  omega
theorem nearest_ge (f : Ieee.Format) (neg : Bool) (m : Nat) (p : Int) (hm : m ≠ 0) (h : 0 ≤ p + (m.log2 : Int)) (hn : f.leastPlace + (f.fractionBits : Int) ≤ 0) (hi : (0 - f.leastPlace - (f.fractionBits : Int) + 1).toNat * f.binade ≤ f.infRung) :
    ∃ r, f.nearest neg m p = f.word neg r ∧ (0 - f.leastPlace - (f.fractionBits : Int) + 1).toNat * f.binade ≤ r ∧ r ≤ f.infRung := by
  unfold Ieee.Format.nearest
  rw [if_neg hm]
  refine ⟨_, rfl, ?_, Nat.min_le_right _ _⟩
  rw [Nat.le_min]
  refine ⟨?_, hi⟩
  have hlast : max (p + (m.log2 : Int) - (f.fractionBits : Int)) f.leastPlace = p + (m.log2 : Int) - (f.fractionBits : Int) := by omega
  rw [hlast]
  have hkept : f.binade ≤ Ieee.Toward.even.cut neg (m <<< (p - (p + (m.log2 : Int) - (f.fractionBits : Int))).toNat) ((p + (m.log2 : Int) - (f.fractionBits : Int)) - p).toNat := by
    rcases Nat.le_total m.log2 f.fractionBits with hd | hd
    · have e1 : (p - (p + (m.log2 : Int) - (f.fractionBits : Int))).toNat = f.fractionBits - m.log2 := by omega
      have e2 : ((p + (m.log2 : Int) - (f.fractionBits : Int)) - p).toNat = 0 := by omega
      rw [e1, e2]
      refine cut_ge _ _ _ _ (by omega) ?_
      rw [Nat.pow_zero, Nat.mul_one, Nat.shiftLeft_eq]
      unfold Ieee.Format.binade
      have := Nat.mul_le_mul_right (2 ^ (f.fractionBits - m.log2)) (pow_log2_le hm)
      rw [← Nat.pow_add] at this
      have e3 : m.log2 + (f.fractionBits - m.log2) = f.fractionBits := by omega
      rwa [e3] at this
    · have e1 : (p - (p + (m.log2 : Int) - (f.fractionBits : Int))).toNat = 0 := by omega
      have e2 : ((p + (m.log2 : Int) - (f.fractionBits : Int)) - p).toNat = m.log2 - f.fractionBits := by omega
      rw [e1, e2, Nat.shiftLeft_zero]
      refine cut_ge _ _ _ _ (by omega) ?_
      unfold Ieee.Format.binade
      rw [← Nat.pow_add]
      have e3 : f.fractionBits + (m.log2 - f.fractionBits) = m.log2 := by omega
      rw [e3]
      exact pow_log2_le hm
  have h2 : (0 - f.leastPlace - (f.fractionBits : Int)).toNat ≤ (p + (m.log2 : Int) - (f.fractionBits : Int) - f.leastPlace).toNat := by omega
  have h3 := Nat.mul_le_mul_right f.binade h2
  have e4 : (0 - f.leastPlace - (f.fractionBits : Int) + 1).toNat = (0 - f.leastPlace - (f.fractionBits : Int)).toNat + 1 := by omega
  rw [e4, Nat.add_mul]
  omega
/-! float64. -/
theorem d_lp : Ieee.double.leastPlace = -1074 := by decide
theorem d_fb : (Ieee.double.fractionBits : Int) = 52 := rfl
theorem d_bin : Ieee.double.binade = 4503599627370496 := by decide
theorem d_inf : Ieee.double.infRung = 9218868437227405312 := by decide
theorem d_sw : Ieee.double.signWeight = 9223372036854775808 := by decide
theorem word_rung (f : Ieee.Format) (neg : Bool) {r : Nat} (h : r < f.signWeight) : f.word neg r % f.signWeight = r := by
  unfold Ieee.Format.word
  split
  · rw [Nat.add_mod_left, Nat.mod_eq_of_lt h]
  · exact Nat.mod_eq_of_lt h
theorem word_neg (f : Ieee.Format) (neg : Bool) {r : Nat} (h : r < f.signWeight) : (f.word neg r / f.signWeight % 2 == 1) = neg := by
  have h0 : 0 < f.signWeight := Nat.lt_of_le_of_lt (Nat.zero_le _) h
  unfold Ieee.Format.word
  cases neg
  · simp [Nat.div_eq_of_lt h]
  · simp only [if_true]
    rw [Nat.add_div_left _ h0, Nat.div_eq_of_lt h]; rfl
def Dl (d : Ieee.Datum) (n : Int) : Prop := ∃ s m p, d = .number s m p ∧ (m = 0 ∨ p + (m.log2 : Int) < n)
def Dg (d : Ieee.Datum) : Prop := (∃ s, d = .infinity s) ∨ ∃ s m p, d = .number s m p ∧ m ≠ 0 ∧ 0 ≤ p + (m.log2 : Int)
def Dp (d : Ieee.Datum) : Prop := (∃ m p, d = .number false m p) ∨ (∃ s p, d = .number s 0 p) ∨ d = .infinity false
theorem read_rung {neg : Bool} {r : Nat} {n : Int} (h0 : 0 ≤ n) (h1 : n ≤ 1000) (h : r < (n + 1023).toNat * 4503599627370496) : Dl (Ieee.double.read (Ieee.double.word neg r)) n := by
  have hr : r < 9223372036854775808 := by
    have := Nat.mul_le_mul_right 4503599627370496 (show (n + 1023).toNat ≤ 2023 by omega)
    omega
  unfold Ieee.Format.read
  simp only [word_rung Ieee.double neg (by rw [d_sw]; exact hr), d_bin, d_inf, d_lp, word_neg Ieee.double neg (by rw [d_sw]; exact hr)]
  by_cases hb : r < 4503599627370496
  · rw [if_pos hb]
    refine ⟨_, _, _, rfl, ?_⟩
    by_cases hz : r = 0
    · exact .inl hz
    · right
      have : r.log2 < 52 := (Nat.log2_lt hz).2 hb
      omega
  · rw [if_neg hb, if_pos (by
      have := Nat.mul_le_mul_right 4503599627370496 (show (n + 1023).toNat ≤ 2023 by omega)
      omega)]
    refine ⟨_, _, _, rfl, .inr ?_⟩
    have hq : r / 4503599627370496 < (n + 1023).toNat := (Nat.div_lt_iff_lt_mul (by omega)).2 h
    have hm : r % 4503599627370496 < 4503599627370496 := Nat.mod_lt _ (by omega)
    have hl : (4503599627370496 + r % 4503599627370496).log2 = 52 := by
      have a1 : 4503599627370496 + r % 4503599627370496 ≠ 0 := by omega
      have a2 : (4503599627370496 + r % 4503599627370496).log2 < 53 := (Nat.log2_lt a1).2 (by omega)
      have a3 : 52 ≤ (4503599627370496 + r % 4503599627370496).log2 := (Nat.le_log2 a1).2 (by omega)
      omega
    rw [hl]
    omega
theorem read_rung_ge {neg : Bool} {r : Nat} (h : 1023 * 4503599627370496 ≤ r) (h2 : r ≤ 9218868437227405312) : Dg (Ieee.double.read (Ieee.double.word neg r)) := by
  unfold Ieee.Format.read
  simp only [word_rung Ieee.double neg (show r < Ieee.double.signWeight by rw [d_sw]; omega), d_bin, d_inf, d_lp]
  rw [if_neg (by omega)]
  by_cases hi : r < 9218868437227405312
  · rw [if_pos hi]
    refine .inr ⟨_, _, _, rfl, by omega, ?_⟩
    have hq : 1023 ≤ r / 4503599627370496 := (Nat.le_div_iff_mul_le (by omega)).2 h
    have a1 : 4503599627370496 + r % 4503599627370496 ≠ 0 := by omega
    have a3 : 52 ≤ (4503599627370496 + r % 4503599627370496).log2 := (Nat.le_log2 a1).2 (by omega)
    omega
  · rw [if_neg hi, if_pos (by omega)]
    exact .inl ⟨_, rfl⟩
theorem word_zero (neg : Bool) : Ieee.double.read (Ieee.double.word neg 0) = .number neg 0 (-1074) := by cases neg <;> decide
theorem write_lt {d : Ieee.Datum} {n : Int} (h0 : 0 ≤ n) (h1 : n ≤ 900) (h : Dl d n) : Dl (Ieee.double.read (Ieee.double.write d)) (n + 1) := by
  obtain ⟨s, m, p, rfl, hm⟩ := h
  show Dl (Ieee.double.read (Ieee.double.nearest s m p)) (n + 1)
  by_cases hz : m = 0
  · subst hz
    have : Ieee.double.nearest s 0 p = Ieee.double.word s 0 := by unfold Ieee.Format.nearest; rfl
    rw [this, word_zero]
    exact ⟨_, _, _, rfl, .inl rfl⟩
  · obtain ⟨r, e, hr⟩ := nearest_le Ieee.double s m p n hz (hm.resolve_left hz) (by rw [d_lp, d_fb]; omega)
    rw [e]
    refine read_rung (by omega) (by omega) ?_
    rw [d_lp, d_fb, d_bin] at hr
    have e2 : (n + 1 + 1023).toNat = (n + 1 - -1074 - 52).toNat + 1 := by omega
    rw [e2, Nat.add_mul]
    omega
theorem write_ge {d : Ieee.Datum} (h : Dg d) : Dg (Ieee.double.read (Ieee.double.write d)) := by
  rcases h with ⟨s, rfl⟩ | ⟨s, m, p, rfl, hm, hp⟩
  · show Dg (Ieee.double.read (Ieee.double.word s Ieee.double.infRung))
    rw [d_inf]
    exact read_rung_ge (by omega) (by omega)
  · have e9 : (0 - -1074 - 52 + 1 : Int).toNat = 1023 := by decide
    obtain ⟨r, e, h1, h2⟩ := nearest_ge Ieee.double s m p hm hp (by rw [d_lp, d_fb]; omega) (by rw [d_lp, d_fb, d_bin, d_inf, e9]; omega)
    show Dg (Ieee.double.read (Ieee.double.nearest s m p))
    rw [e]
    rw [d_lp, d_fb, d_bin, e9] at h1
    rw [d_inf] at h2
    exact read_rung_ge h1 h2
def Sm (x : F64) (n : Int) : Prop := nanB .f64 x.bits = true ∨ Dl (Ieee.double.read x.bits) n
def Ge1 (x : F64) : Prop := nanB .f64 x.bits = true ∨ Dg (Ieee.double.read x.bits)
def Ge0 (x : F64) : Prop := nanB .f64 x.bits = true ∨ Dp (Ieee.double.read x.bits)
theorem opt_read {o : Option Nat} {h : ∀ r, o = some r → r < 2 ^ FloatKind.f64.format.width} {Q : Ieee.Datum → Prop} (hQ : ∀ r, o = some r → Q (Ieee.double.read r)) :
    nanB .f64 (Fl.opt .f64 o h).bits = true ∨ Q (Ieee.double.read (Fl.opt .f64 o h).bits) := by
  show nanB .f64 (optF .f64 o) = true ∨ Q (Ieee.double.read (optF .f64 o))
  cases o with
  | none => exact .inl (nan_nanBits .f64)
  | some r =>
    show nanB .f64 (canonF .f64 r) = true ∨ Q (Ieee.double.read (canonF .f64 r))
    cases hb : nanB .f64 r
    · rw [canonF_num hb]; exact .inr (hQ r rfl)
    · exact .inl (by rw [nanB_canonF]; exact hb)
theorem Sm.mono {x : F64} {n m : Int} (h : Sm x n) (hm : n ≤ m) : Sm x m := by
  rcases h with h | ⟨s, q, p, e, h⟩
  · exact .inl h
  · exact .inr ⟨s, q, p, e, h.imp id fun h => by omega⟩
theorem log2_mul_le {m n : Nat} (hm : m ≠ 0) (hn : n ≠ 0) : (m * n).log2 ≤ m.log2 + n.log2 + 1 := by
  have hmn : m * n ≠ 0 := Nat.mul_ne_zero hm hn
  have : m * n < 2 ^ (m.log2 + 1) * 2 ^ (n.log2 + 1) := Nat.mul_lt_mul'' log2_lt_pow log2_lt_pow
  rw [← Nat.pow_add] at this
  have := (Nat.log2_lt hmn).2 this
  omega
theorem nan_datum {x : F64} (h : nanB .f64 x.bits = true) : ∃ s t, Ieee.double.read x.bits = .nan s t := read_nan (k := .f64) h
theorem Sm.mul {x y : F64} {a b : Int} (hx : Sm x a) (hy : Sm y b) (h0 : 0 ≤ a + b) (h1 : a + b ≤ 900) : Sm (x.mul y) (a + b + 1) := by
  refine opt_read (Q := fun d => Dl d (a + b + 1)) fun r hr => ?_
  unfold Ieee.Format.mul at hr
  simp only [Option.map_eq_some_iff] at hr
  obtain ⟨d, hd, rfl⟩ := hr
  refine write_lt h0 h1 ?_
  have hd : (Ieee.double.read x.bits).product (Ieee.double.read y.bits) = some d := hd
  rcases hx with hx | ⟨s, m, i, ex, hx⟩
  · obtain ⟨s, t, e⟩ := nan_datum hx
    rw [e] at hd; cases hd
  · rcases hy with hy | ⟨t, n, j, ey, hy⟩
    · obtain ⟨s, t, e⟩ := nan_datum hy
      rw [e, product_nan_right] at hd; cases hd
    · rw [ex, ey] at hd
      cases hd
      refine ⟨_, _, _, rfl, ?_⟩
      by_cases hm : m = 0
      · left; rw [hm, Nat.zero_mul]
      · by_cases hn : n = 0
        · left; rw [hn, Nat.mul_zero]
        · right
          have := log2_mul_le hm hn
          have := hx.resolve_left hm
          have := hy.resolve_left hn
          omega
theorem signed_abs (s : Bool) (m up : Nat) : (Ieee.signed s m up).natAbs = m * 2 ^ up := by
  unfold Ieee.signed
  cases s
  · simp only [Bool.false_eq_true, if_false, Nat.shiftLeft_eq, Int.natAbs_natCast]
  · simp only [if_true, Nat.shiftLeft_eq, Int.natAbs_neg, Int.natAbs_natCast]
theorem mag_lt {m : Nat} {i base c : Int} (h : m = 0 ∨ i + (m.log2 : Int) < c) (hb : base ≤ i) (hc : base ≤ c) : m * 2 ^ (i - base).toNat < 2 ^ (c - base).toNat ∨ m = 0 := by
  by_cases hm : m = 0
  · exact .inr hm
  · left
    have h := h.resolve_left hm
    refine Nat.lt_of_lt_of_le (Nat.mul_lt_mul_of_pos_right log2_lt_pow (Nat.two_pow_pos _)) ?_
    rw [← Nat.pow_add]
    exact Nat.pow_le_pow_right (by omega) (by omega)
theorem sum_lt {s t : Bool} {m n : Nat} {i j a : Int} {d : Ieee.Datum} (hx : m = 0 ∨ i + (m.log2 : Int) < a) (hy : n = 0 ∨ j + (n.log2 : Int) < a) (hd : (Ieee.Datum.number s m i).sum (.number t n j) = some d) : Dl d (a + 1) := by
  simp only [Ieee.Datum.sum, Option.some.injEq] at hd
  subst hd
  refine ⟨_, _, _, rfl, ?_⟩
  generalize hT : Ieee.signed s m (i - min i j).toNat + Ieee.signed t n (j - min i j).toNat = T
  by_cases hz : T.natAbs = 0
  · exact .inl hz
  · right
    have h1 := signed_abs s m (i - min i j).toNat
    have h2 := signed_abs t n (j - min i j).toNat
    have hle : T.natAbs ≤ m * 2 ^ (i - min i j).toNat + n * 2 ^ (j - min i j).toNat := by
      rw [← h1, ← h2, ← hT]; exact Int.natAbs_add_le _ _
    have hb : min i j ≤ a := by
      by_cases hm : m = 0
      · by_cases hn : n = 0
        · rw [hm, hn] at hle; simp at hle; omega
        · have := hy.resolve_left hn; omega
      · have := hx.resolve_left hm; omega
    have p0 := Nat.two_pow_pos (a - min i j).toNat
    have g1 : m * 2 ^ (i - min i j).toNat < 2 ^ (a - min i j).toNat := by
      rcases mag_lt hx (Int.min_le_left i j) hb with h | h
      · exact h
      · rw [h, Nat.zero_mul]; exact p0
    have g2 : n * 2 ^ (j - min i j).toNat < 2 ^ (a - min i j).toNat := by
      rcases mag_lt hy (Int.min_le_right i j) hb with h | h
      · exact h
      · rw [h, Nat.zero_mul]; exact p0
    have g3 : T.natAbs < 2 ^ ((a - min i j).toNat + 1) := by rw [Nat.pow_succ]; omega
    have := (Nat.log2_lt hz).2 g3
    omega
theorem Sm.sum {o : Option Nat} {h : ∀ r, o = some r → r < 2 ^ FloatKind.f64.format.width} {x y : F64} {a : Int} (hx : Sm x a) (hy : Sm y a) (h0 : 0 ≤ a + 1) (h1 : a + 1 ≤ 900)
    (ho : o = ((Ieee.double.read x.bits).sum (Ieee.double.read y.bits)).map Ieee.double.write ∨ o = ((Ieee.double.read x.bits).sum (Ieee.double.read y.bits).opposite).map Ieee.double.write) : Sm (Fl.opt .f64 o h) (a + 2) := by
  refine opt_read (Q := fun d => Dl d (a + 2)) fun r hr => ?_
  have e3 : a + 2 = a + 1 + 1 := by omega
  rw [e3]
  have hnan : ∀ d e : Ieee.Datum, (∃ s t, d = .nan s t) → d.sum e = none := by
    rintro d e ⟨s, t, rfl⟩; rfl
  rcases hx with hx | ⟨s, m, i, ex, hx⟩
  · obtain ⟨s, t, e⟩ := nan_datum hx
    rcases ho with ho | ho <;> rw [ho, e] at hr <;> cases hr
  · rcases hy with hy | ⟨t, n, j, ey, hy⟩
    · obtain ⟨s, t, e⟩ := nan_datum hy
      rcases ho with ho | ho
      · rw [ho, e, sum_nan_right] at hr; cases hr
      · rw [ho, e] at hr
        simp only [Ieee.Datum.opposite, sum_nan_right] at hr; cases hr
    · rcases ho with ho | ho
      · rw [ho, ex, ey] at hr
        simp only [Option.map_eq_some_iff] at hr
        obtain ⟨d, hd, rfl⟩ := hr
        exact write_lt h0 h1 (sum_lt hx hy hd)
      · rw [ho, ex, ey] at hr
        simp only [Option.map_eq_some_iff, Ieee.Datum.opposite] at hr
        obtain ⟨d, hd, rfl⟩ := hr
        exact write_lt h0 h1 (sum_lt hx hy hd)
theorem Sm.add {x y : F64} {a : Int} (hx : Sm x a) (hy : Sm y a) (h0 : 0 ≤ a + 1) (h1 : a + 1 ≤ 900) : Sm (x.add y) (a + 2) := Sm.sum hx hy h0 h1 (.inl rfl)
theorem Sm.sub {x y : F64} {a : Int} (hx : Sm x a) (hy : Sm y a) (h0 : 0 ≤ a + 1) (h1 : a + 1 ≤ 900) : Sm (x.sub y) (a + 2) := Sm.sum hx hy h0 h1 (.inr rfl)
theorem Sm.div {x y : F64} {a : Int} (hx : Sm x a) (hy : Ge1 y) (h0 : 0 ≤ a) (h1 : a ≤ 900) : Sm (x.div y) (a + 1) := by
  refine opt_read (Q := fun d => Dl d (a + 1)) fun r hr => ?_
  unfold Ieee.Format.div at hr
  simp only [Option.map_eq_some_iff] at hr
  obtain ⟨d, hd, rfl⟩ := hr
  refine write_lt h0 h1 ?_
  have hd : (Ieee.double.read x.bits).quotient (Ieee.double.fractionBits + 2) (Ieee.double.read y.bits) = some d := hd
  rcases hx with hx | ⟨s, m, i, ex, hx⟩
  · obtain ⟨s, t, e⟩ := nan_datum hx
    rw [e] at hd; cases hd
  · rcases hy with hy | ⟨t, ey⟩ | ⟨t, n, j, ey, hn, hj⟩
    · obtain ⟨s, t, e⟩ := nan_datum hy
      rw [e, quotient_nan_right] at hd; cases hd
    · rw [ex, ey] at hd
      cases hd
      exact ⟨_, _, _, rfl, .inl rfl⟩
    · rw [ex, ey] at hd
      simp only [Ieee.Datum.quotient, if_neg hn, Option.some.injEq] at hd
      subst hd
      refine ⟨_, _, _, rfl, ?_⟩
      have hX : n.log2 ≤ m.log2 + (Ieee.double.fractionBits + 2 + n.log2 - m.log2) := by omega
      generalize Ieee.double.fractionBits + 2 + n.log2 - m.log2 = more at hX
      rw [Nat.shiftLeft_eq]
      by_cases hm : m = 0
      · left; rw [hm]; simp
      · have hxa := hx.resolve_left hm
        have hq : m * 2 ^ more / n < 2 ^ (m.log2 + 1 + more - n.log2) := by
          have g1 : m * 2 ^ more < 2 ^ (m.log2 + 1 + more) := by rw [Nat.pow_add]; exact Nat.mul_lt_mul_of_pos_right log2_lt_pow (Nat.two_pow_pos _)
          refine (Nat.div_lt_iff_lt_mul (Nat.pos_of_ne_zero hn)).2 (Nat.lt_of_lt_of_le g1 ?_)
          have g2 := Nat.mul_le_mul_left (2 ^ (m.log2 + 1 + more - n.log2)) (pow_log2_le hn)
          rw [← Nat.pow_add] at g2
          have e : m.log2 + 1 + more - n.log2 + n.log2 = m.log2 + 1 + more := by omega
          rwa [e] at g2
        have hb : ∀ b : Bool, b.toNat ≤ 1 := fun b => by cases b <;> decide
        have hst := hb (m * 2 ^ more % n != 0)
        generalize (m * 2 ^ more % n != 0).toNat = st at hst ⊢
        generalize m * 2 ^ more / n = q at hq ⊢
        by_cases hz : 2 * q + st = 0
        · exact .inl hz
        · right
          have g3 : 2 * q + st < 2 ^ (m.log2 + 1 + more - n.log2 + 1) := by rw [Nat.pow_succ]; omega
          have := (Nat.log2_lt hz).2 g3
          omega
/-! Roots. -/
theorem rootFrom_le (n : Nat) : ∀ (t r : Nat), r * r ≤ n → Ieee.Datum.rootFrom n t r * Ieee.Datum.rootFrom n t r ≤ n := by
  intro t
  induction t with
  | zero => intro r h; exact h
  | succ t ih =>
    intro r h
    unfold Ieee.Datum.rootFrom
    by_cases hl : (r + 1 <<< t) * (r + 1 <<< t) ≤ n
    · simp only [if_pos hl]; exact ih _ hl
    · simp only [if_neg hl]; exact ih _ h
theorem root_lt {k : Nat} {s : Bool} {m : Nat} {i a : Int} {d : Ieee.Datum} (hx : m = 0 ∨ i + (m.log2 : Int) < 2 * a) (hd : (Ieee.Datum.number s m i).root k = some d) : Dl d a ∧ Dp d := by
  simp only [Ieee.Datum.root] at hd
  by_cases hm : m = 0
  · rw [if_pos hm] at hd
    cases hd
    exact ⟨⟨_, _, _, rfl, .inl hm⟩, .inr (.inl ⟨s, i, by rw [hm]⟩)⟩
  · rw [if_neg hm] at hd
    cases s
    · simp only [Bool.false_eq_true, if_false] at hd
      have hxa := hx.resolve_left hm
      generalize hmore : 2 * k - m.log2 + ((i - ((2 * k - m.log2 : Nat) : Int)) % 2).toNat = more at hd
      have hpar : (i - (more : Int)) % 2 = 0 := by omega
      simp only [Option.some.injEq] at hd
      subst hd
      refine ⟨⟨_, _, _, rfl, ?_⟩, .inl ⟨_, _, rfl⟩⟩
      rw [Nat.shiftLeft_eq]
      have hN : m * 2 ^ more < 2 ^ (m.log2 + 1 + more) := by rw [Nat.pow_add]; exact Nat.mul_lt_mul_of_pos_right log2_lt_pow (Nat.two_pow_pos _)
      have hw := rootFrom_le (m * 2 ^ more) ((m * 2 ^ more).log2 / 2 + 1) 0 (by omega)
      have hb : ∀ b : Bool, b.toNat ≤ 1 := fun b => by cases b <;> decide
      have hst := hb (Ieee.Datum.rootFrom (m * 2 ^ more) ((m * 2 ^ more).log2 / 2 + 1) 0 * Ieee.Datum.rootFrom (m * 2 ^ more) ((m * 2 ^ more).log2 / 2 + 1) 0 != m * 2 ^ more)
      generalize (Ieee.Datum.rootFrom (m * 2 ^ more) ((m * 2 ^ more).log2 / 2 + 1) 0 * Ieee.Datum.rootFrom (m * 2 ^ more) ((m * 2 ^ more).log2 / 2 + 1) 0 != m * 2 ^ more).toNat = st at hst ⊢
      generalize Ieee.Datum.rootFrom (m * 2 ^ more) ((m * 2 ^ more).log2 / 2 + 1) 0 = w at hw ⊢
      have hwl : w < 2 ^ ((m.log2 + 2 + more) / 2) := by
        apply Classical.byContradiction
        intro hc
        have hc := Nat.le_of_not_lt hc
        have h2 := Nat.mul_le_mul hc hc
        rw [← Nat.pow_add] at h2
        have h3 : 2 ^ (m.log2 + 1 + more) ≤ 2 ^ ((m.log2 + 2 + more) / 2 + (m.log2 + 2 + more) / 2) := Nat.pow_le_pow_right (by omega) (by omega)
        omega
      by_cases hz : 2 * w + st = 0
      · exact .inl hz
      · right
        have g3 : 2 * w + st < 2 ^ ((m.log2 + 2 + more) / 2 + 1) := by rw [Nat.pow_succ]; omega
        have := (Nat.log2_lt hz).2 g3
        omega
    · simp at hd
theorem write_pos {d : Ieee.Datum} (h : Dp d) : Dp (Ieee.double.read (Ieee.double.write d)) := by
  have key : ∀ r, r ≤ 9218868437227405312 → Dp (Ieee.double.read (Ieee.double.word false r)) := by
    intro r hr
    unfold Ieee.Format.read
    simp only [word_rung Ieee.double false (show r < Ieee.double.signWeight by rw [d_sw]; omega), d_bin, d_inf, d_lp, word_neg Ieee.double false (show r < Ieee.double.signWeight by rw [d_sw]; omega)]
    by_cases h1 : r < 4503599627370496
    · rw [if_pos h1]; exact .inl ⟨_, _, rfl⟩
    · rw [if_neg h1]
      by_cases h2 : r < 9218868437227405312
      · rw [if_pos h2]; exact .inl ⟨_, _, rfl⟩
      · rw [if_neg h2, if_pos (by omega)]; exact .inr (.inr rfl)
  rcases h with ⟨m, p, rfl⟩ | ⟨s, p, rfl⟩ | rfl
  · obtain ⟨r, h1, h2⟩ := nearest_word2 Ieee.double false m p
    show Dp (Ieee.double.read (Ieee.double.nearest false m p))
    rw [h2]
    rw [d_inf] at h1
    exact key r h1
  · show Dp (Ieee.double.read (Ieee.double.nearest s 0 p))
    have : Ieee.double.nearest s 0 p = Ieee.double.word s 0 := by unfold Ieee.Format.nearest; rfl
    rw [this, word_zero]
    exact .inr (.inl ⟨_, _, rfl⟩)
  · show Dp (Ieee.double.read (Ieee.double.word false Ieee.double.infRung))
    rw [d_inf]
    exact key _ (Nat.le_refl _)
theorem Sm.sqrt {x : F64} {a : Int} (hx : Sm x (2 * a)) (h0 : 0 ≤ a) (h1 : a ≤ 900) : Sm x.sqrt (a + 1) ∧ Ge0 x.sqrt := by
  have key : ∀ r, FloatKind.f64.format.sqrt x.bits = some r → Dl (Ieee.double.read r) (a + 1) ∧ Dp (Ieee.double.read r) := by
    intro r hr
    unfold Ieee.Format.sqrt at hr
    simp only [Option.map_eq_some_iff] at hr
    obtain ⟨d, hd, rfl⟩ := hr
    have hd : (Ieee.double.read x.bits).root (Ieee.double.fractionBits + 2) = some d := hd
    rcases hx with hx | ⟨s, m, i, ex, hx⟩
    · obtain ⟨s, t, e⟩ := nan_datum hx
      rw [e] at hd; cases hd
    · rw [ex] at hd
      obtain ⟨g1, g2⟩ := root_lt hx hd
      exact ⟨write_lt h0 h1 g1, write_pos g2⟩
  exact ⟨opt_read (Q := fun d => Dl d (a + 1)) fun r hr => (key r hr).1, opt_read (Q := Dp) fun r hr => (key r hr).2⟩
theorem ge1_add {x y : F64} (hx : Ieee.double.read x.bits = .number false 4503599627370496 (-52)) (hy : Ge0 y) : Ge1 (x.add y) := by
  refine opt_read (Q := Dg) fun r hr => ?_
  unfold Ieee.Format.add at hr
  simp only [Option.map_eq_some_iff] at hr
  obtain ⟨d, hd, rfl⟩ := hr
  refine write_ge ?_
  have hd : (Ieee.double.read x.bits).sum (Ieee.double.read y.bits) = some d := hd
  rw [hx] at hd
  rcases hy with hy | ⟨n, j, ey⟩ | ⟨t, j, ey⟩ | ey
  · obtain ⟨s, t, e⟩ := nan_datum hy
    rw [e, sum_nan_right] at hd; cases hd
  · rw [ey] at hd
    simp only [Ieee.Datum.sum, Option.some.injEq] at hd
    subst hd
    refine .inr ⟨_, _, _, rfl, ?_⟩
    unfold Ieee.signed
    simp only [Bool.false_eq_true, if_false, Nat.shiftLeft_eq]
    generalize hb : min (-52 : Int) j = b
    have hA : 2 ^ (52 + (-52 - b).toNat) ≤ 4503599627370496 * 2 ^ (-52 - b).toNat := by
      rw [Nat.pow_add]; exact Nat.le_refl _
    generalize 4503599627370496 * 2 ^ (-52 - b).toNat = A at hA
    generalize n * 2 ^ (j - b).toNat = B
    have hpos := Nat.two_pow_pos (52 + (-52 - b).toNat)
    have e : ((A : Int) + (B : Int)).natAbs = A + B := by omega
    rw [e]
    have hne : A + B ≠ 0 := by omega
    refine ⟨hne, ?_⟩
    have : 52 + (-52 - b).toNat ≤ (A + B).log2 := (Nat.le_log2 hne).2 (by omega)
    omega
  · rw [ey] at hd
    simp only [Ieee.Datum.sum, Option.some.injEq] at hd
    subst hd
    refine .inr ⟨_, _, _, rfl, ?_⟩
    unfold Ieee.signed
    simp only [Nat.shiftLeft_eq, Nat.zero_mul]
    generalize hb : min (-52 : Int) j = b
    have hA : 2 ^ (52 + (-52 - b).toNat) ≤ 4503599627370496 * 2 ^ (-52 - b).toNat := by
      rw [Nat.pow_add]; exact Nat.le_refl _
    generalize 4503599627370496 * 2 ^ (-52 - b).toNat = A at hA
    have hpos := Nat.two_pow_pos (52 + (-52 - b).toNat)
    have e : ((if False then -((A : Nat) : Int) else (A : Int)) + (if t = true then -((0 : Nat) : Int) else ((0 : Nat) : Int))).natAbs = A := by cases t <;> simp
    have hne : A ≠ 0 := by omega
    have hlog : 52 + (-52 - b).toNat ≤ A.log2 := (Nat.le_log2 hne).2 hA
    cases t <;> simp only [Bool.false_eq_true, if_false, if_true] <;> (refine ⟨by omega, ?_⟩; have e2 : (((A : Nat) : Int) + 0).natAbs = A := by omega) <;> simp <;> omega
  · rw [ey] at hd
    cases hd
    exact .inl ⟨_, rfl⟩
/-! What is wide, and what may be narrowed. -/
theorem cv_read (x : F32) : nanB .f64 (Fl.cv .f32 .f64 x).bits = true ∨ (∃ s, Ieee.double.read (Fl.cv .f32 .f64 x).bits = .infinity s) ∨ Dl (Ieee.double.read (Fl.cv .f32 .f64 x).bits) 129 := by
  have hs := cv_wide x
  show nanB .f64 ((convBits .f32 x.bits .f64).getD 0) = true ∨ (∃ s, Ieee.double.read ((convBits .f32 x.bits .f64).getD 0) = .infinity s) ∨ Dl (Ieee.double.read ((convBits .f32 x.bits .f64).getD 0)) 129
  cases h : nanB .f32 x.bits
  · right
    unfold convBits at hs ⊢
    rw [h] at hs ⊢
    simp only [Bool.false_eq_true, if_false] at hs ⊢
    unfold floatToFloatBits at hs ⊢
    have hne : ¬ (FloatKind.f32 = FloatKind.f64) := by decide
    rw [if_neg hne] at hs ⊢
    have hnan : (FloatKind.f32.decode x.bits).isNaN = false := h
    split
    · rename_i e; rw [e] at hnan; simp [Ieee.Datum.isNaN] at hnan
    · rename_i s e
      exact .inl ⟨s, by cases s <;> decide⟩
    · rename_i s m p e
      obtain ⟨b1, b2, b3⟩ := read_single x.bits e
      obtain ⟨r', hr', hw'⟩ := nearest_small s b1 b2 b3
      have hfin : (FloatKind.f64.decode (FloatKind.f64.encode (.number s m p))).isInfinity = false := by
        show (Ieee.double.read (Ieee.double.nearest s m p)).isInfinity = false
        rw [hw']
        exact read_word_fin s hr'
      rw [hfin]
      have hd : Dl (Ieee.double.read (Ieee.double.nearest s m p)) 129 := by
        refine write_lt (d := .number s m p) (n := 128) (by omega) (by omega) ⟨s, m, p, rfl, ?_⟩
        by_cases hz : m = 0
        · exact .inl hz
        · right
          have : m.log2 < 24 := (Nat.log2_lt hz).2 (by omega)
          omega
      right
      show Dl (Ieee.double.read (canonF .f64 (Ieee.double.nearest s m p))) 129
      have hnn : nanB .f64 (Ieee.double.nearest s m p) = false := by
        obtain ⟨s', m', p', e', _⟩ := hd
        show (Ieee.double.read (Ieee.double.nearest s m p)).isNaN = false
        rw [e']; rfl
      rw [canonF_num hnn]
      exact hd
  · left
    unfold convBits
    rw [h]
    exact nan_nanBits .f64
theorem narrow_ok {x : F64} (h : Sm x 126 ∨ ∃ s, Ieee.double.read x.bits = .infinity s) : (convBits .f64 x.bits .f32).isSome = true := by
  unfold convBits
  split
  · rfl
  · rename_i hn
    rw [Option.isSome_map]
    unfold floatToFloatBits
    have hne : ¬ (FloatKind.f64 = FloatKind.f32) := by decide
    rw [if_neg hne]
    rcases h with (h | ⟨s, m, p, e, h⟩) | ⟨s, e⟩
    · exact absurd h hn
    · have e' : FloatKind.f64.decode x.bits = .number s m p := e
      rw [e']
      show Option.isSome (if (Ieee.single.read (Ieee.single.nearest s m p)).isInfinity then none else some _) = true
      have hlt : ∃ r, Ieee.single.nearest s m p = Ieee.single.word s r ∧ r < 2139095040 := by
        by_cases hz : m = 0
        · subst hz
          exact ⟨0, by unfold Ieee.Format.nearest; rfl, by omega⟩
        · obtain ⟨r, e1, e2⟩ := nearest_le Ieee.single s m p 126 hz (h.resolve_left hz) (by decide)
          refine ⟨r, e1, Nat.lt_of_le_of_lt e2 (by decide)⟩
      obtain ⟨r, e1, e2⟩ := hlt
      rw [e1]
      have hsw : Ieee.single.signWeight = 2147483648 := by decide
      have hir : Ieee.single.infRung = 2139095040 := by decide
      have : (Ieee.single.read (Ieee.single.word s r)).isInfinity = false := by
        unfold Ieee.Format.read
        simp only [word_rung Ieee.single s (show r < Ieee.single.signWeight by rw [hsw]; omega), hir]
        split
        · rfl
        · first
          | rfl
          | (rw [if_pos e2]; rfl)
      rw [this]; rfl
    · have e' : FloatKind.f64.decode x.bits = .infinity s := e
      rw [e']; rfl
theorem narrow_root (x : F32) : (convBits .f64 (Fl.cv .f32 .f64 x).sqrt.bits .f32).isSome = true := by
  rcases cv_read x with h | ⟨s, h⟩ | h
  · exact narrow_ok (.inl ((Sm.sqrt (a := 65) (.inl h) (by omega) (by omega)).1.mono (by omega)))
  · have e : (Fl.cv .f32 .f64 x).sqrt.bits = optF .f64 (FloatKind.f64.format.sqrt (Fl.cv .f32 .f64 x).bits) := rfl
    have e2 : FloatKind.f64.format.sqrt (Fl.cv .f32 .f64 x).bits = ((Ieee.double.read (Fl.cv .f32 .f64 x).bits).root (Ieee.double.fractionBits + 2)).map Ieee.double.write := rfl
    rw [e, e2, h]
    cases s <;> decide
  · exact narrow_ok (.inl ((Sm.sqrt (a := 65) (.inr (by obtain ⟨s, m, p, e, g⟩ := h; exact ⟨s, m, p, e, g.imp id fun g => by omega⟩)) (by omega) (by omega)).1.mono (by omega)))
end Go.Fw
