
import Derived.Test.YtblpjlaihgcilafFwFB
import Derived.Test.YtblpjlaihgcilafFwAB
namespace Go.Fw
open Go
/-! A number that a format has is written as it stands. -/
theorem cut_exact (neg : Bool) (n M drop : Nat) (hM : M ≠ 0) (h : n = M * 2 ^ drop) : Ieee.Toward.even.cut neg n drop = M := by
  have hlog : n.log2 = M.log2 + drop := by
    have h1 := pow_log2_le hM
    have h2 := @log2_lt_pow M
    have hn : n ≠ 0 := by rw [h]; exact Nat.mul_ne_zero hM (Nat.pos_iff_ne_zero.1 (Nat.two_pow_pos _))
    have a1 : M.log2 + drop ≤ n.log2 := (Nat.le_log2 hn).2 (by rw [h, Nat.pow_add]; exact Nat.mul_le_mul_right _ h1)
    have a2 : n.log2 < M.log2 + drop + 1 := (Nat.log2_lt hn).2 (by
      rw [h, show M.log2 + drop + 1 = (M.log2 + 1) + drop by omega, Nat.pow_add]
      exact Nat.mul_lt_mul_of_pos_right h2 (Nat.two_pow_pos _))
    omega
  unfold Ieee.Toward.cut
  simp only [Nat.one_shiftLeft]
  rw [Nat.min_eq_left (by omega)]
  subst h
  have hp := Nat.two_pow_pos drop
  rw [Nat.mul_div_cancel _ hp, Nat.mul_mod_left]
  have e1 : (decide (2 ^ drop < 2 * 0)) = false := by simp
  have e2 : (2 ^ drop == 2 * 0) = false := by
    rw [Nat.mul_zero]; exact beq_eq_false_iff_ne.2 (by omega)
  rw [e1, e2]; rfl
def SameV (m : Nat) (p : Int) (M : Nat) (E : Int) : Prop := m * 2 ^ (p - min p E).toNat = M * 2 ^ (E - min p E).toNat
theorem SameV.log {m M : Nat} {p E : Int} (h : SameV m p M E) (hm : m ≠ 0) (hM : M ≠ 0) : p + (m.log2 : Int) = E + (M.log2 : Int) := by
  have key : ∀ {a k : Nat}, a ≠ 0 → (a * 2 ^ k).log2 = a.log2 + k := by
    intro a k ha
    have hn : a * 2 ^ k ≠ 0 := Nat.mul_ne_zero ha (Nat.pos_iff_ne_zero.1 (Nat.two_pow_pos _))
    have a1 : a.log2 + k ≤ (a * 2 ^ k).log2 := (Nat.le_log2 hn).2 (by rw [Nat.pow_add]; exact Nat.mul_le_mul_right _ (pow_log2_le ha))
    have a2 : (a * 2 ^ k).log2 < a.log2 + k + 1 := (Nat.log2_lt hn).2 (by
      rw [show a.log2 + k + 1 = (a.log2 + 1) + k by omega, Nat.pow_add]
      exact Nat.mul_lt_mul_of_pos_right log2_lt_pow (Nat.two_pow_pos _))
    omega
  have h2 := congrArg Nat.log2 h
  rw [key hm, key hM] at h2
  omega
theorem nearest_exact (f : Ieee.Format) (neg : Bool) {m M : Nat} {p E : Int} (h : SameV m p M E) (hm : m ≠ 0) (hM : M ≠ 0) (hE : f.leastPlace ≤ E) (hlt : M < 2 * f.binade) (hb : f.binade ≤ M ∨ E = f.leastPlace) :
    f.nearest neg m p = f.word neg (min ((E - f.leastPlace).toNat * f.binade + M) f.infRung) := by
  have hl := h.log hm hM
  have hbin : f.binade = 2 ^ f.fractionBits := rfl
  have hMl : M.log2 < f.fractionBits + 1 := (Nat.log2_lt hM).2 (by rw [Nat.pow_succ, ← hbin]; omega)
  have hlast : max (p + (m.log2 : Int) - (f.fractionBits : Int)) f.leastPlace = E := by
    rcases hb with hb | hb
    · have : f.fractionBits ≤ M.log2 := (Nat.le_log2 hM).2 (by rw [← hbin]; exact hb)
      omega
    · omega
  unfold Ieee.Format.nearest
  rw [if_neg hm]
  simp only [hlast]
  have hk : Ieee.Toward.even.cut neg (m <<< (p - E).toNat) (E - p).toNat = M := by
    refine cut_exact _ _ _ _ hM ?_
    rw [Nat.shiftLeft_eq]
    unfold SameV at h
    rcases Int.le_total p E with hpe | hpe
    · rw [Int.min_eq_left hpe] at h
      have e1 : (p - p).toNat = 0 := by omega
      have e2 : (p - E).toNat = 0 := by omega
      rw [e1, Nat.pow_zero, Nat.mul_one] at h
      rw [e2, Nat.pow_zero, Nat.mul_one]; exact h
    · rw [Int.min_eq_right hpe] at h
      have e1 : (E - E).toNat = 0 := by omega
      have e2 : (E - p).toNat = 0 := by omega
      rw [e1, Nat.pow_zero, Nat.mul_one] at h
      rw [e2, Nat.pow_zero, Nat.mul_one]; exact h
  rw [hk]
theorem s_lp : Ieee.single.leastPlace = -149 := by decide
theorem s_bin : Ieee.single.binade = 8388608 := by decide
theorem s_inf : Ieee.single.infRung = 2139095040 := by decide
theorem s_sw : Ieee.single.signWeight = 2147483648 := by decide
inductive Wide (x : F32) : Prop
  | nan (h : nanB .f32 x.bits = true) (h2 : nanB .f64 (Fl.cv .f32 .f64 x).bits = true) : Wide x
  | inf (s : Bool) (h : x.bits = Ieee.single.word s 2139095040) (h2 : (Fl.cv .f32 .f64 x).bits = Ieee.double.word s 9218868437227405312) : Wide x
  | zero (s : Bool) (h : x.bits = Ieee.single.word s 0) (h2 : (Fl.cv .f32 .f64 x).bits = Ieee.double.word s 0) : Wide x
  | num (s : Bool) (r R : Nat) (m M : Nat) (p E : Int) (h0 : 0 < r) (h1 : r < 2139095040) (h2 : x.bits = Ieee.single.word s r) (h3 : r = (p + 149).toNat * 8388608 + m) (h4 : m ≠ 0) (h5 : m < 16777216) (h6 : -149 ≤ p) (h7 : 8388608 ≤ m ∨ p = -149) (h7' : p ≤ 104)
      (h8 : (Fl.cv .f32 .f64 x).bits = Ieee.double.word s R) (h9 : R = (E + 1074).toNat * 4503599627370496 + M) (h10 : 4503599627370496 ≤ M) (h11 : M < 9007199254740992) (h12 : SameV m p M E) (h13 : -201 ≤ E) (h14 : E ≤ 104)
      (h15 : Ieee.double.read (Fl.cv .f32 .f64 x).bits = .number s M E) : Wide x
theorem word_split {n : Nat} (h : n < 4294967296) : n = Ieee.single.word (n / 2147483648 % 2 == 1) (n % 2147483648) := by
  unfold Ieee.Format.word
  rw [s_sw]
  have h2 : n / 2147483648 = 0 ∨ n / 2147483648 = 1 := by omega
  rcases h2 with h2 | h2 <;> rw [h2] <;> simp <;> omega
theorem s_nan {s : Bool} {r : Nat} (h : r < 2147483648) : nanB .f32 (Ieee.single.word s r) = decide (2139095040 < r) := by
  unfold nanB
  show (Ieee.single.read (Ieee.single.word s r)).isNaN = _
  unfold Ieee.Format.read
  simp only [word_rung Ieee.single s (show r < Ieee.single.signWeight by rw [s_sw]; exact h), s_bin, s_inf]
  split
  · rename_i h1; simp [Ieee.Datum.isNaN]; omega
  · split
    · rename_i h1 h2; simp [Ieee.Datum.isNaN]; omega
    · split
      · rename_i h1 h2 h3; simp [Ieee.Datum.isNaN, h3]
      · rename_i h1 h2 h3; simp [Ieee.Datum.isNaN]; omega
theorem s_read {s : Bool} {r : Nat} (h : r < 2139095040) : ∃ m p, Ieee.single.read (Ieee.single.word s r) = .number s m p ∧ r = (p + 149).toNat * 8388608 + m ∧ m < 16777216 ∧ -149 ≤ p ∧ (8388608 ≤ m ∨ p = -149) ∧ p ≤ 104 := by
  unfold Ieee.Format.read
  have hsw : r < Ieee.single.signWeight := by rw [s_sw]; omega
  simp only [word_rung Ieee.single s hsw, word_neg Ieee.single s hsw, s_bin, s_inf, s_lp]
  by_cases h1 : r < 8388608
  · rw [if_pos h1]
    exact ⟨r, -149, rfl, by omega, by omega, by omega, .inr rfl, by omega⟩
  · rw [if_neg h1, if_pos h]
    exact ⟨_, _, rfl, by omega, by omega, by omega, .inl (by omega), by omega⟩
theorem d_read {s : Bool} {R M : Nat} {E : Int} (h9 : R = (E + 1074).toNat * 4503599627370496 + M) (h10 : 4503599627370496 ≤ M) (h11 : M < 9007199254740992) (h13 : -201 ≤ E) (h14 : E ≤ 104) :
    Ieee.double.read (Ieee.double.word s R) = .number s M E := by
  have hR : R < 9218868437227405312 := by
    have := Nat.mul_le_mul_right 4503599627370496 (show (E + 1074).toNat ≤ 1178 by omega)
    omega
  unfold Ieee.Format.read
  have hsw : R < Ieee.double.signWeight := by rw [d_sw]; omega
  simp only [word_rung Ieee.double s hsw, word_neg Ieee.double s hsw, d_bin, d_inf, d_lp]
  have e0 : R = (M - 4503599627370496) + ((E + 1074).toNat + 1) * 4503599627370496 := by rw [Nat.add_mul]; omega
  have e1 : R / 4503599627370496 = (E + 1074).toNat + 1 := by
    rw [e0, Nat.add_mul_div_right _ _ (by omega), Nat.div_eq_of_lt (by omega), Nat.zero_add]
  have e2 : R % 4503599627370496 = M - 4503599627370496 := by
    rw [e0, Nat.add_mul_mod_self_right, Nat.mod_eq_of_lt (by omega)]
  rw [if_neg (by omega), if_pos hR, e1, e2]
  have e3 : 4503599627370496 + (M - 4503599627370496) = M := by omega
  have e4 : -1074 + (((E + 1074).toNat + 1 - 1 : Nat) : Int) = E := by omega
  rw [e3, e4]
theorem cv_number {x : F32} {s : Bool} {m W : Nat} {p : Int} (h : Ieee.single.read x.bits = .number s m p) (hW : Ieee.double.nearest s m p = W) (hn : ∃ t M E, Ieee.double.read W = .number t M E) : (Fl.cv .f32 .f64 x).bits = W := by
  obtain ⟨t, M, E, hn⟩ := hn
  have hx : nanB .f32 x.bits = false := by unfold nanB; show (Ieee.single.read x.bits).isNaN = false; rw [h]; rfl
  show (convBits .f32 x.bits .f64).getD 0 = W
  unfold convBits
  rw [hx]
  simp only [Bool.false_eq_true, if_false]
  unfold floatToFloatBits
  have hne : ¬ (FloatKind.f32 = FloatKind.f64) := by decide
  rw [if_neg hne]
  have hd : FloatKind.f32.decode x.bits = .number s m p := h
  rw [hd]
  have hfin : (FloatKind.f64.decode (FloatKind.f64.encode (.number s m p))).isInfinity = false := by
    show (Ieee.double.read (Ieee.double.nearest s m p)).isInfinity = false
    rw [hW, hn]; rfl
  simp only [hfin]
  show canonF .f64 (Ieee.double.nearest s m p) = W
  rw [hW]
  exact canonF_num (by show (Ieee.double.read W).isNaN = false; rw [hn]; rfl)
theorem wide (x : F32) : Wide x := by
  have hx : x.bits < 4294967296 := x.lt
  have hw := word_split hx
  generalize (x.bits / 2147483648 % 2 == 1) = s at hw
  have hr : x.bits % 2147483648 < 2147483648 := Nat.mod_lt _ (by omega)
  generalize x.bits % 2147483648 = r at hw hr
  by_cases h1 : 2139095040 < r
  · have hn : nanB .f32 x.bits = true := by rw [hw, s_nan hr]; exact decide_eq_true h1
    refine .nan hn ?_
    show nanB .f64 ((convBits .f32 x.bits .f64).getD 0) = true
    unfold convBits
    rw [hn]
    exact nan_nanBits .f64
  · by_cases h2 : r = 2139095040
    · subst h2
      refine .inf s hw ?_
      show (convBits .f32 x.bits .f64).getD 0 = _
      rw [hw]
      cases s <;> decide
    · by_cases h3 : r = 0
      · subst h3
        refine .zero s hw ?_
        show (convBits .f32 x.bits .f64).getD 0 = _
        rw [hw]
        cases s <;> decide
      · obtain ⟨m, p, e1, e2, e3, e4, e5, e6⟩ := s_read (s := s) (show r < 2139095040 by omega)
        have hm : m ≠ 0 := by
          intro h; subst h
          rcases e5 with e5 | e5
          · omega
          · subst e5; exact h3 (by rw [e2]; decide)
        have hl : m.log2 < 24 := (Nat.log2_lt hm).2 (by omega)
        have hM1 : 4503599627370496 ≤ m * 2 ^ (52 - m.log2) := by
          have := Nat.mul_le_mul_right (2 ^ (52 - m.log2)) (pow_log2_le hm)
          rw [← Nat.pow_add] at this
          have e : m.log2 + (52 - m.log2) = 52 := by omega
          rw [e] at this
          exact this
        have hM2 : m * 2 ^ (52 - m.log2) < 9007199254740992 := by
          have := Nat.mul_lt_mul_of_pos_right (@log2_lt_pow m) (Nat.two_pow_pos (52 - m.log2))
          rw [← Nat.pow_add] at this
          have e : m.log2 + 1 + (52 - m.log2) = 53 := by omega
          rw [e] at this
          exact this
        have hS : SameV m p (m * 2 ^ (52 - m.log2)) (p - ((52 - m.log2 : Nat) : Int)) := by
          unfold SameV
          rw [Int.min_eq_right (by omega)]
          have a1 : (p - (p - ((52 - m.log2 : Nat) : Int))).toNat = 52 - m.log2 := by omega
          have a2 : (p - ((52 - m.log2 : Nat) : Int) - (p - ((52 - m.log2 : Nat) : Int))).toNat = 0 := by omega
          rw [a1, a2, Nat.pow_zero, Nat.mul_one]
        generalize hMe : m * 2 ^ (52 - m.log2) = M at hM1 hM2 hS
        generalize hEe : p - ((52 - m.log2 : Nat) : Int) = E at hS
        have hE1 : -201 ≤ E := by omega
        have hE2 : E ≤ 104 := by omega
        have hnear := nearest_exact Ieee.double s hS hm (by omega) (by rw [d_lp]; omega) (by rw [d_bin]; omega) (.inl (by rw [d_bin]; exact hM1))
        have hR : (E + 1074).toNat * 4503599627370496 + M < 9218868437227405312 := by
          have := Nat.mul_le_mul_right 4503599627370496 (show (E + 1074).toNat ≤ 1178 by omega)
          omega
        rw [d_lp, d_bin, d_inf, show E - -1074 = E + 1074 by omega, Nat.min_eq_left (by omega)] at hnear
        have hrd := d_read (s := s) (R := (E + 1074).toNat * 4503599627370496 + M) (M := M) (E := E) rfl hM1 hM2 hE1 hE2
        have hcv := cv_number (x := x) (by rw [hw]; exact e1) hnear ⟨_, _, _, hrd⟩
        exact .num s r _ m M p E (by omega) (by omega) hw e2 hm e3 e4 e5 e6 hcv rfl hM1 hM2 hS hE1 hE2 (by rw [hcv]; exact hrd)
/-! Absolute values. -/
theorem abs32_lt (b : Nat) : b % 2147483648 < 2 ^ FloatKind.f32.format.width := by
  have : b % 2147483648 < 2147483648 := Nat.mod_lt _ (by omega)
  exact Nat.lt_trans this (by decide)
def Fl.abs32 (x : F32) : F32 := Fl.of .f32 (x.bits % 2147483648) (abs32_lt _)
theorem nan_bits {k : FloatKind} {x : Fl k} (h : nanB k x.bits = true) : x.bits = nanBits k := by
  rw [← x.canon]; exact canonF_nan h
theorem cvn_number {W r : Nat} {s : Bool} {M : Nat} {E : Int} (h : Ieee.double.read W = .number s M E) (hr : Ieee.single.nearest s M E = r) (hn : ∃ t m p, Ieee.single.read r = .number t m p) : convBits .f64 W .f32 = some r := by
  obtain ⟨t, m, p, hn⟩ := hn
  have hx : nanB .f64 W = false := by unfold nanB; show (Ieee.double.read W).isNaN = false; rw [h]; rfl
  unfold convBits
  rw [hx]
  simp only [Bool.false_eq_true, if_false]
  unfold floatToFloatBits
  have hne : ¬ (FloatKind.f64 = FloatKind.f32) := by decide
  rw [if_neg hne]
  have hd : FloatKind.f64.decode W = .number s M E := h
  rw [hd]
  have hfin : (FloatKind.f32.decode (FloatKind.f32.encode (.number s M E))).isInfinity = false := by
    show (Ieee.single.read (Ieee.single.nearest s M E)).isInfinity = false
    rw [hr, hn]; rfl
  simp only [hfin]
  show some (canonF .f32 (Ieee.single.nearest s M E)) = some r
  have hq : nanB .f32 r = false := by show (Ieee.single.read r).isNaN = false; rw [hn]; rfl
  rw [hr, canonF_num hq]
theorem word_false (f : Ieee.Format) (r : Nat) : f.word false r = r := by
  unfold Ieee.Format.word; rfl
theorem narrow_abs (x : F32) : convBits .f64 (Fl.cv .f32 .f64 x).abs.bits .f32 = some x.abs32.bits := by
  have e1 : (Fl.cv .f32 .f64 x).abs.bits = canonF .f64 ((Fl.cv .f32 .f64 x).bits % 9223372036854775808) := rfl
  have e2 : x.abs32.bits = canonF .f32 (x.bits % 2147483648) := rfl
  rw [e1, e2]
  rcases wide x with ⟨h, h2⟩ | ⟨s, h, h2⟩ | ⟨s, h, h2⟩ | ⟨s, r, R, m, M, p, E, h0, h1, h2, h3, h4, h5, h6, h7, h7', h8, h9, h10, h11, h12, h13, h14, h15⟩
  · rw [nan_bits h, nan_bits h2]; decide
  · rw [h, h2]; cases s <;> decide
  · rw [h, h2]; cases s <;> decide
  · rw [h2, h8]
    have hRl : R < 9218868437227405312 := by
      have := Nat.mul_le_mul_right 4503599627370496 (show (E + 1074).toNat ≤ 1178 by omega)
      omega
    have a1 := word_rung Ieee.double s (r := R) (by rw [d_sw]; omega)
    have a2 := word_rung Ieee.single s (r := r) (by rw [s_sw]; omega)
    rw [d_sw] at a1
    rw [s_sw] at a2
    rw [a1, a2]
    have hrd := d_read (s := false) h9 h10 h11 h13 h14
    rw [word_false] at hrd
    have hq : nanB .f64 R = false := by show (Ieee.double.read R).isNaN = false; rw [hrd]; rfl
    rw [canonF_num hq]
    have hS : SameV M E m p := by
      unfold SameV at h12 ⊢
      rw [Int.min_comm]; exact h12.symm
    have hnear := nearest_exact Ieee.single false hS (by omega) h4 (by rw [s_lp]; exact h6) (by rw [s_bin]; omega) (by rw [s_bin, s_lp]; exact h7)
    rw [s_lp, s_bin, s_inf, show p - -149 = p + 149 by omega, ← h3, Nat.min_eq_left (by omega), word_false] at hnear
    obtain ⟨m', p', q, _⟩ := s_read (s := false) h1
    rw [word_false] at q
    have hq2 : nanB .f32 r = false := by show (Ieee.single.read r).isNaN = false; rw [q]; rfl
    rw [cvn_number hrd hnear ⟨_, _, _, q⟩, canonF_num hq2]
theorem cv_abs (x : F32) : Fl.cv .f64 .f32 (Fl.cv .f32 .f64 x).abs = x.abs32 := by
  apply Fl.ext
  show (convBits .f64 (Fl.cv .f32 .f64 x).abs.bits .f32).getD 0 = x.abs32.bits
  rw [narrow_abs]; rfl
/-! Numbers that are finite, or nought. -/
def numD : Ieee.Datum → Bool
  | .number .. => true
  | _ => false
theorem sub_self (k : FloatKind) (x z : Fl k) (hz : z.bits = 0) : (x.sub x).eq z = numD (k.format.read x.bits) := by
  show cmpBits .eql k (optF k (k.format.sub x.bits x.bits)) z.bits = _
  rw [hz]
  unfold Ieee.Format.sub
  cases h : k.format.read x.bits with
  | number s m i =>
    have e : (Ieee.Datum.number s m i).sum (Ieee.Datum.number s m i).opposite = some (.number false 0 i) := by
      cases s <;> simp [Ieee.Datum.opposite, Ieee.Datum.sum, Ieee.signed, Int.add_left_neg, Int.add_right_neg]
    rw [e]
    have e2 : k.format.write (.number false 0 i) = k.format.word false 0 := by
      show k.format.nearest false 0 i = _
      unfold Ieee.Format.nearest; rfl
    show cmpBits .eql k (canonF k (k.format.write (.number false 0 i))) 0 = true
    rw [e2]
    cases k <;> decide
  | infinity s =>
    have e : (Ieee.Datum.infinity s).sum (Ieee.Datum.infinity s).opposite = none := by cases s <;> rfl
    rw [e]
    show cmpBits .eql k (nanBits k) 0 = false
    cases k <;> decide
  | nan s t =>
    have e : (Ieee.Datum.nan s t).sum (Ieee.Datum.nan s t).opposite = none := rfl
    rw [e]
    show cmpBits .eql k (nanBits k) 0 = false
    cases k <;> decide
theorem read_mod {b c : Nat} {s : Bool} {m : Nat} {i : Int} (h : b % 9223372036854775808 = c % 9223372036854775808) (e : Ieee.double.read b = .number s m i) : Ieee.double.read c = .number (c / 9223372036854775808 % 2 == 1) m i := by
  unfold Ieee.Format.read at e ⊢
  dsimp only at e ⊢
  rw [d_sw] at e ⊢
  rw [h] at e
  by_cases h1 : c % 9223372036854775808 < Ieee.double.binade
  · rw [if_pos h1] at e ⊢; cases e; rfl
  · rw [if_neg h1] at e ⊢
    by_cases h2 : c % 9223372036854775808 < Ieee.double.infRung
    · rw [if_pos h2] at e ⊢; cases e; rfl
    · rw [if_neg h2] at e
      split at e <;> cases e
theorem Sm.neg {x : F64} {n : Int} (h : Sm x n) : Sm x.neg n := by
  show nanB .f64 (canonF .f64 (Op.negFloat .f64 x.bits)) = true ∨ Dl (Ieee.double.read (canonF .f64 (Op.negFloat .f64 x.bits))) n
  rcases h with h | ⟨s, m, i, e, h⟩
  · left; rw [nanB_canonF]; exact negFloat_nan h
  · right
    have hm : Op.negFloat .f64 x.bits % 9223372036854775808 = x.bits % 9223372036854775808 := by
      have : Op.negFloat .f64 x.bits % FloatKind.f64.format.signWeight = x.bits % FloatKind.f64.format.signWeight := by
        unfold Op.negFloat Ieee.Format.signWeight
        exact xor_top _ _
      exact this
    have e2 := read_mod hm.symm e
    have hq : nanB .f64 (Op.negFloat .f64 x.bits) = false := by show (Ieee.double.read _).isNaN = false; rw [e2]; rfl
    rw [canonF_num hq, e2]
    exact ⟨_, _, _, rfl, h⟩
theorem read_abs {x : F64} {s : Bool} {m : Nat} {i : Int} (e : Ieee.double.read x.bits = .number s m i) : Ieee.double.read x.abs.bits = .number false m i := by
  have hl : x.bits % 9223372036854775808 < 9223372036854775808 := Nat.mod_lt _ (by omega)
  have e2 := read_mod (c := x.bits % 9223372036854775808) (Nat.mod_mod _ _).symm e
  rw [Nat.div_eq_of_lt hl] at e2
  have hq : nanB .f64 (x.bits % 9223372036854775808) = false := by show (Ieee.double.read _).isNaN = false; rw [e2]; rfl
  show Ieee.double.read (canonF .f64 (x.bits % 9223372036854775808)) = _
  rw [canonF_num hq, e2]; rfl
/-! Quotients that are not above 1. -/
def dlB : Ieee.Datum → Int → Bool
  | .number _ m p, n => m == 0 || decide (p + (m.log2 : Int) < n)
  | _, _ => false
def dgB : Ieee.Datum → Bool
  | .number _ m p => m != 0 && decide (0 ≤ p + (m.log2 : Int))
  | .infinity _ => true
  | _ => false
theorem Sm.of {x : F64} {n : Int} (h : dlB (Ieee.double.read x.bits) n = true) : Sm x n := by
  right
  cases e : Ieee.double.read x.bits with
  | number s m p =>
    rw [e] at h
    refine ⟨s, m, p, rfl, ?_⟩
    simp only [dlB, Bool.or_eq_true, beq_iff_eq, decide_eq_true_eq] at h
    exact h
  | infinity s => rw [e] at h; cases h
  | nan s t => rw [e] at h; cases h
theorem Ge1.of {x : F64} (h : dgB (Ieee.double.read x.bits) = true) : Ge1 x := by
  right
  cases e : Ieee.double.read x.bits with
  | number s m p =>
    rw [e] at h
    simp only [dgB, Bool.and_eq_true, bne_iff_ne, decide_eq_true_eq] at h
    exact .inr ⟨s, m, p, rfl, h⟩
  | infinity s => exact .inl ⟨s, rfl⟩
  | nan s t => rw [e] at h; cases h
theorem ge1_odd {n : Nat} (h1 : 1 ≤ n) (h : n ≤ 8) : Ge1 (Fl.ofInt .f64 (2 * (n : Int) - 1)) := by
  refine .of ?_
  have : n = 1 ∨ n = 2 ∨ n = 3 ∨ n = 4 ∨ n = 5 ∨ n = 6 ∨ n = 7 ∨ n = 8 := by omega
  rcases this with rfl | rfl | rfl | rfl | rfl | rfl | rfl | rfl <;> decide
/-! One step of the series, one step of the halving. -/
theorem Sm.series {one x y : F64} {n : Nat} (ho : Sm one 1) (hx : Sm x 5) (h1 : 1 ≤ n) (h8 : n ≤ 8) (hy : Sm y (102 - 14 * (n : Int))) :
    Sm ((one.div (Fl.ofInt .f64 (2 * (n : Int) - 1))).sub ((x.mul x).mul y)) (102 - 14 * ((n : Int) - 1)) := by
  have a := Sm.div ho (ge1_odd h1 h8) (by omega) (by omega)
  have b := Sm.mul hx hx (by omega) (by omega)
  have c := Sm.mul b hy (by omega) (by omega)
  have d := Sm.sub (a := 114 - 14 * (n : Int)) (a.mono (by omega)) (c.mono (by omega)) (by omega) (by omega)
  exact d.mono (by omega)
theorem Sm.half {one x : F64} {a : Int} (ho : Ieee.double.read one.bits = .number false 4503599627370496 (-52)) (ho2 : Sm one 1) (h0 : 0 ≤ a) (h5 : a ≤ 5) (hx : Sm x a) :
    Sm (x.div (one.add (one.add (x.mul x)).sqrt)) (a + 1) := by
  have b := Sm.mul hx hx (by omega) (by omega)
  have c := Sm.add (a := 11) (ho2.mono (by omega)) (b.mono (by omega)) (by omega) (by omega)
  have d := Sm.sqrt (a := 7) (c.mono (by omega)) (by omega) (by omega)
  exact Sm.div hx (ge1_add ho d.2) h0 (by omega)
end Go.Fw
