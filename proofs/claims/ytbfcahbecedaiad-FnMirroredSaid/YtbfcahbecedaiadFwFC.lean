
import Derived.Test.YtbfcahbecedaiadFwFB
import Derived.Test.YtbfcahbecedaiadFwAB
namespace Go.Fw
open Go
/-! A number that a format has is written as it stands. -/
theorem cut_exact (neg : Bool) (n M drop : Nat) (hM : M ≠ 0) (h : n = M * 2 ^ drop) : Ieee.Toward.even.cut neg n drop = M := by
  have hlog : n.log2 = M.log2 + drop := by
    have h1 := pow_log2_le hM
    have h2 := @log2_lt_pow M
    have hn : n ≠ 0 := by rw [h]; exact Nat.mul_ne_zero hM (Nat.pos_iff_ne_zero.1 (Nat.two_pow_pos _))
    have a1 : M.log2 + drop ≤ n.log2 := (Nat.le_log2 hn).2 (by rw [h, Nat.pow_add]; exact Nat.mul_le_mul_right _ h1)
    have a2 : n.log2 < M.log2 + drop + 1 := (Nat.log2_lt hn).2 (by
      rw [h, show M.log2 + drop + 1 = (M.log2 + 1) + drop by omega, Nat.pow_add]
      exact Nat.mul_lt_mul_of_pos_right h2 (Nat.two_pow_pos _))
    omega
  unfold Ieee.Toward.cut
  simp only [Nat.one_shiftLeft]
  rw [Nat.min_eq_left (by omega)]
  subst h
  have hp := Nat.two_pow_pos drop
  rw [Nat.mul_div_cancel _ hp, Nat.mul_mod_left]
  have e1 : (decide (2 ^ drop < 2 * 0)) = false := by simp
  have e2 : (2 ^ drop == 2 * 0) = false := by
    rw [Nat.mul_zero]; exact beq_eq_false_iff_ne.2 (by omega)
  rw [e1, e2]; rfl
def SameV (m : Nat) (p : Int) (M : Nat) (E : Int) : Prop := m * 2 ^ (p - min p E).toNat = M * 2 ^ (E - min p E).toNat
theorem SameV.log {m M : Nat} {p E : Int} (h : SameV m p M E) (hm : m ≠ 0) (hM : M ≠ 0) : p + (m.log2 : Int) = E + (M.log2 : Int) := by
  have key : ∀ {a k : Nat}, a ≠ 0 → (a * 2 ^ k).log2 = a.log2 + k := by
    intro a k ha
    have hn : a * 2 ^ k ≠ 0 := Nat.mul_ne_zero ha (Nat.pos_iff_ne_zero.1 (Nat.two_pow_pos _))
    have a1 : a.log2 + k ≤ (a * 2 ^ k).log2 := (Nat.le_log2 hn).2 (by rw [Nat.pow_add]; exact Nat.mul_le_mul_right _ (pow_log2_le ha))
    have a2 : (a * 2 ^ k).log2 < a.log2 + k + 1 := (Nat.log2_lt hn).2 (by
      rw [show a.log2 + k + 1 = (a.log2 + 1) + k by omega, Nat.pow_add]
      exact Nat.mul_lt_mul_of_pos_right log2_lt_pow (Nat.two_pow_pos _))
    omega
  have h2 := congrArg Nat.log2 h
  rw [key hm, key hM] at h2
  omega
theorem nearest_exact (f : Ieee.Format) (neg : Bool) {m M : Nat} {p E : Int} (h : SameV m p M E) (hm : m ≠ 0) (hM : M ≠ 0) (hE : f.leastPlace ≤ E) (hlt : M < 2 * f.binade) (hb : f.binade ≤ M ∨ E = f.leastPlace) :
    f.nearest neg m p = f.word neg (min ((E - f.leastPlace).toNat * f.binade + M) f.infRung) := by
  have hl := h.log hm hM
  have hbin : f.binade = 2 ^ f.fractionBits := rfl
  have hMl : M.log2 < f.fractionBits + 1 := (Nat.log2_lt hM).2 (by rw [Nat.pow_succ, ← hbin]; omega)
  have hlast : max (p + (m.log2 : Int) - (f.fractionBits : Int)) f.leastPlace = E := by
    rcases hb with hb | hb
    · have : f.fractionBits ≤ M.log2 := (Nat.le_log2 hM).2 (by rw [← hbin]; exact hb)
      omega
    · omega
  unfold Ieee.Format.nearest
  rw [if_neg hm]
  simp only [hlast]
  have hk : Ieee.Toward.even.cut neg (m <<< (p - E).toNat) (E - p).toNat = M := by
    refine cut_exact _ _ _ _ hM ?_
    rw [Nat.shiftLeft_eq]
    unfold SameV at h
    rcases Int.le_total p E with hpe | hpe
    · rw [Int.min_eq_left hpe] at h
      have e1 : (p - p).toNat = 0 := by omega
      have e2 : (p - E).toNat = 0 := by omega
      rw [e1, Nat.pow_zero, Nat.mul_one] at h
      rw [e2, Nat.pow_zero, Nat.mul_one]; exact h
    · rw [Int.min_eq_right hpe] at h
      have e1 : (E - E).toNat = 0 := by omega
      have e2 : (E - p).toNat = 0 := by omega
      rw [e1, Nat.pow_zero, Nat.mul_one] at h
      rw [e2, Nat.pow_zero, Nat.mul_one]; exact h
  rw [hk]
theorem s_lp : Ieee.single.leastPlace = -149 := by decide
theorem s_bin : Ieee.single.binade = 8388608 := by decide
theorem s_inf : Ieee.single.infRung = 2139095040 := by decide
theorem s_sw : Ieee.single.signWeight = 2147483648 := by decide
inductive Wide (x : F32) : Prop
  | nan (h : nanB .f32 x.bits = true) (h2 : nanB .f64 (Fl.cv .f32 .f64 x).bits = true) : Wide x
  | inf (s : Bool) (h : x.bits = Ieee.single.word s 2139095040) (h2 : (Fl.cv .f32 .f64 x).bits = Ieee.double.word s 9218868437227405312) : Wide x
  | zero (s : Bool) (h : x.bits = Ieee.single.word s 0) (h2 : (Fl.cv .f32 .f64 x).bits = Ieee.double.word s 0) : Wide x
  | num (s : Bool) (r R : Nat) (m M : Nat) (p E : Int) (h0 : 0 < r) (h1 : r < 2139095040) (h2 : x.bits = Ieee.single.word s r) (h3 : r = (p + 149).toNat * 8388608 + m) (h4 : m ≠ 0) (h5 : m < 16777216) (h6 : -149 ≤ p) (h7 : 8388608 ≤ m ∨ p = -149) (h7' : p ≤ 104)
      (h8 : (Fl.cv .f32 .f64 x).bits = Ieee.double.word s R) (h9 : R = (E + 1074).toNat * 4503599627370496 + M) (h10 : 4503599627370496 ≤ M) (h11 : M < 9007199254740992) (h12 : SameV m p M E) (h13 : -201 ≤ E) (h14 : E ≤ 104)
      (h15 : Ieee.double.read (Fl.cv .f32 .f64 x).bits = .number s M E) : Wide x
theorem s_read {s : Bool} {r : Nat} (h : r < 2139095040) : ∃ m p, Ieee.single.read (Ieee.single.word s r) = .number s m p ∧ r = (p + 149).toNat * 8388608 + m ∧ m < 16777216 ∧ -149 ≤ p ∧ (8388608 ≤ m ∨ p = -149) ∧ p ≤ 104 := by
  unfold Ieee.Format.read
  have hsw : r < Ieee.single.signWeight := by rw [s_sw]; omega
  simp only [word_rung Ieee.single s hsw, word_neg Ieee.single s hsw, s_bin, s_inf, s_lp]
  by_cases h1 : r < 8388608
  · rw [if_pos h1]
    exact ⟨r, -149, rfl, by omega, by omega, by omega, .inr rfl, by omega⟩
  · rw [if_neg h1, if_pos h]
    exact ⟨_, _, rfl, by omega, by omega, by omega, .inl (by omega), by omega⟩
theorem word_false (f : Ieee.Format) (r : Nat) : f.word false r = r := by
  unfold Ieee.Format.word; rfl
def numD : Ieee.Datum → Bool
  | .number .. => true
  | _ => false
theorem sub_self (k : FloatKind) (x z : Fl k) (hz : z.bits = 0) : (x.sub x).eq z = numD (k.format.read x.bits) := by
  show cmpBits .eql k (optF k (k.format.sub x.bits x.bits)) z.bits = _
  rw [hz]
  unfold Ieee.Format.sub
  cases h : k.format.read x.bits with
  | number s m i =>
    have e : (Ieee.Datum.number s m i).sum (Ieee.Datum.number s m i).opposite = some (.number false 0 i) := by
      cases s <;> simp [Ieee.Datum.opposite, Ieee.Datum.sum, Ieee.signed, Int.add_left_neg, Int.add_right_neg]
    rw [e]
    have e2 : k.format.write (.number false 0 i) = k.format.word false 0 := by
      show k.format.nearest false 0 i = _
      unfold Ieee.Format.nearest; rfl
    show cmpBits .eql k (canonF k (k.format.write (.number false 0 i))) 0 = true
    rw [e2]
    cases k <;> decide
  | infinity s =>
    have e : (Ieee.Datum.infinity s).sum (Ieee.Datum.infinity s).opposite = none := by cases s <;> rfl
    rw [e]
    show cmpBits .eql k (nanBits k) 0 = false
    cases k <;> decide
  | nan s t =>
    have e : (Ieee.Datum.nan s t).sum (Ieee.Datum.nan s t).opposite = none := rfl
    rw [e]
    show cmpBits .eql k (nanBits k) 0 = false
    cases k <;> decide
theorem read_mod {b c : Nat} {s : Bool} {m : Nat} {i : Int} (h : b % 9223372036854775808 = c % 9223372036854775808) (e : Ieee.double.read b = .number s m i) : Ieee.double.read c = .number (c / 9223372036854775808 % 2 == 1) m i := by
  unfold Ieee.Format.read at e ⊢
  dsimp only at e ⊢
  rw [d_sw] at e ⊢
  rw [h] at e
  by_cases h1 : c % 9223372036854775808 < Ieee.double.binade
  · rw [if_pos h1] at e ⊢; cases e; rfl
  · rw [if_neg h1] at e ⊢
    by_cases h2 : c % 9223372036854775808 < Ieee.double.infRung
    · rw [if_pos h2] at e ⊢; cases e; rfl
    · rw [if_neg h2] at e
      split at e <;> cases e
theorem Sm.neg {x : F64} {n : Int} (h : Sm x n) : Sm x.neg n := by
  show nanB .f64 (canonF .f64 (Op.negFloat .f64 x.bits)) = true ∨ Dl (Ieee.double.read (canonF .f64 (Op.negFloat .f64 x.bits))) n
  rcases h with h | ⟨s, m, i, e, h⟩
  · left; rw [nanB_canonF]; exact negFloat_nan h
  · right
    have hm : Op.negFloat .f64 x.bits % 9223372036854775808 = x.bits % 9223372036854775808 := by
      have : Op.negFloat .f64 x.bits % FloatKind.f64.format.signWeight = x.bits % FloatKind.f64.format.signWeight := by
        unfold Op.negFloat Ieee.Format.signWeight
        exact xor_top _ _
      exact this
    have e2 := read_mod hm.symm e
    have hq : nanB .f64 (Op.negFloat .f64 x.bits) = false := by show (Ieee.double.read _).isNaN = false; rw [e2]; rfl
    rw [canonF_num hq, e2]
    exact ⟨_, _, _, rfl, h⟩
def dlB : Ieee.Datum → Int → Bool
  | .number _ m p, n => m == 0 || decide (p + (m.log2 : Int) < n)
  | _, _ => false
def dgB : Ieee.Datum → Bool
  | .number _ m p => m != 0 && decide (0 ≤ p + (m.log2 : Int))
  | .infinity _ => true
  | _ => false
theorem Sm.of {x : F64} {n : Int} (h : dlB (Ieee.double.read x.bits) n = true) : Sm x n := by
  right
  cases e : Ieee.double.read x.bits with
  | number s m p =>
    rw [e] at h
    refine ⟨s, m, p, rfl, ?_⟩
    simp only [dlB, Bool.or_eq_true, beq_iff_eq, decide_eq_true_eq] at h
    exact h
  | infinity s => rw [e] at h; cases h
  | nan s t => rw [e] at h; cases h
theorem Ge1.of {x : F64} (h : dgB (Ieee.double.read x.bits) = true) : Ge1 x := by
  right
  cases e : Ieee.double.read x.bits with
  | number s m p =>
    rw [e] at h
    simp only [dgB, Bool.and_eq_true, bne_iff_ne, decide_eq_true_eq] at h
    exact .inr ⟨s, m, p, rfl, h⟩
  | infinity s => exact .inl ⟨s, rfl⟩
  | nan s t => rw [e] at h; cases h
end Go.Fw
