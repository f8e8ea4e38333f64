
import Derived.Test.YtblpjlaihgcilafFwLW
import Derived.Test.YtblpjlaihgcilafFwFC
namespace Go.Fw
open Go
/-! Powers of two. -/
theorem two_ne : (2 : Rat) ≠ 0 := by decide
def p2 (e : Int) : Rat := (2 : Rat) ^ e
theorem p2_pos (e : Int) : 0 < p2 e := Rat.zpow_pos (by decide)
theorem p2_add (a b : Int) : p2 (a + b) = p2 a * p2 b := Rat.zpow_add two_ne a b
theorem p2_zero : p2 0 = 1 := Rat.zpow_zero 2
theorem p2_nat (n : Nat) : p2 (n : Int) = ((2 ^ n : Nat) : Rat) := by
  show (2 : Rat) ^ (n : Int) = _
  rw [Rat.zpow_natCast, Rat.natCast_pow]; rfl
theorem p2_sub {a b : Int} (h : b ≤ a) : p2 a = p2 b * ((2 ^ (a - b).toNat : Nat) : Rat) := by
  rw [← p2_nat, ← p2_add]; congr 1; omega
theorem p2_mono {a b : Int} (h : a ≤ b) : p2 a ≤ p2 b := by
  rw [p2_sub h]
  have h1 : (1 : Rat) ≤ ((2 ^ (b - a).toNat : Nat) : Rat) := Rat.natCast_le_natCast.2 (Nat.one_le_two_pow)
  have := Rat.mul_le_mul_of_nonneg_left h1 (Rat.le_of_lt (p2_pos a))
  rwa [Rat.mul_one] at this
theorem p2_one : p2 1 = 2 := Rat.zpow_one 2
theorem p2_half (a : Int) : p2 (a - 1) * 2 = p2 a := by rw [← p2_one, ← p2_add]; congr 1; omega
def dv : Ieee.Datum → Rat
  | .number s m p => (if s then -1 else 1) * ((m : Rat) * p2 p)
  | _ => 0
theorem dv_signed {s : Bool} {m : Nat} {p base : Int} (h : base ≤ p) : dv (.number s m p) = (Ieee.signed s m (p - base).toNat : Rat) * p2 base := by
  show (if s then -1 else 1) * ((m : Rat) * p2 p) = _
  rw [p2_sub h]
  unfold Ieee.signed
  rw [Nat.shiftLeft_eq]
  cases s
  · simp only [Bool.false_eq_true, if_false]
    rw [Rat.intCast_natCast, Rat.natCast_mul]; grind
  · simp only [if_true]
    rw [Rat.intCast_neg, Rat.intCast_natCast, Rat.natCast_mul]; grind
/-! The nearest number. -/
theorem cut_near (neg : Bool) (n drop : Nat) : 2 * (Ieee.Toward.even.cut neg n drop * 2 ^ drop) ≤ 2 * n + 2 ^ drop ∧ 2 * n ≤ 2 * (Ieee.Toward.even.cut neg n drop * 2 ^ drop) + 2 ^ drop := by
  unfold Ieee.Toward.cut
  simp only [Nat.one_shiftLeft]
  rcases Nat.le_total drop (n.log2 + 2) with hd | hd
  · rw [Nat.min_eq_left hd]
    have h1 := Nat.div_add_mod n (2 ^ drop)
    have h2 := Nat.mod_lt n (Nat.two_pow_pos drop)
    generalize n / 2 ^ drop = low at *
    generalize n % 2 ^ drop = rest at *
    generalize 2 ^ drop = g at *
    rw [Nat.add_mul, Nat.mul_comm low g]
    rcases Nat.lt_trichotomy g (2 * rest) with h | h | h
    · have : (decide (g < 2 * rest) || g == 2 * rest && low % 2 == 1) = true := by simp [h]
      rw [this]
      simp only [Bool.toNat_true, Nat.one_mul]
      omega
    · have h3 : (decide (g < 2 * rest) || g == 2 * rest && low % 2 == 1).toNat * g ≤ g := by
        cases (decide (g < 2 * rest) || g == 2 * rest && low % 2 == 1) <;> simp
      omega
    · have : (decide (g < 2 * rest) || g == 2 * rest && low % 2 == 1) = false := by
        have e1 : ¬ g < 2 * rest := by omega
        have e2 : ¬ g = 2 * rest := by omega
        simp [e1, e2]
      rw [this]
      simp only [Bool.toNat_false, Nat.zero_mul]
      omega
  · rw [Nat.min_eq_right hd]
    have h1 : n < 2 ^ (n.log2 + 1) := Nat.lt_log2_self
    have h2 : 2 ^ (n.log2 + 2) = 2 * 2 ^ (n.log2 + 1) := by rw [Nat.pow_succ, Nat.mul_comm]
    have h3 : 2 ^ (n.log2 + 2) ≤ 2 ^ drop := Nat.pow_le_pow_right (by omega) hd
    rw [Nat.div_eq_of_lt (by omega), Nat.mod_eq_of_lt (by omega)]
    have : (decide (2 ^ (n.log2 + 2) < 2 * n) || 2 ^ (n.log2 + 2) == 2 * n && 0 % 2 == 1) = false := by
      have e1 : ¬ 2 ^ (n.log2 + 2) < 2 * n := by omega
      simp [e1]
    rw [this]
    simp only [Bool.toNat_false, Nat.zero_add, Nat.zero_mul]
    omega
structure Fmt (f : Ieee.Format) : Prop where
  sw : f.infRung < f.signWeight
  fb : 2 ≤ f.fractionBits
  lp : f.leastPlace + (f.fractionBits : Int) < -20
theorem fmt_s : Fmt Ieee.single := ⟨by decide, by decide, by decide⟩
theorem fmt_d : Fmt Ieee.double := ⟨by decide, by decide, by decide⟩
theorem read_rung_val {f : Ieee.Format} (hf : Fmt f) (neg : Bool) {k c : Nat} (hc : c ≤ 2 * f.binade) (hk : k = 0 ∨ f.binade ≤ c) (hi : k * f.binade + c < f.infRung) :
    ∃ m p, f.read (f.word neg (k * f.binade + c)) = .number neg m p ∧ (m : Rat) * p2 p = (c : Rat) * p2 (f.leastPlace + (k : Int)) := by
  have hb : 0 < f.binade := Nat.two_pow_pos _
  have hr : k * f.binade + c < f.signWeight := Nat.lt_trans hi hf.sw
  unfold Ieee.Format.read
  simp only [word_rung f neg hr, word_neg f neg hr]
  by_cases h1 : k * f.binade + c < f.binade
  · rw [if_pos h1]
    have k0 : k = 0 := by
      rcases hk with h | h
      · exact h
      · omega
    subst k0
    exact ⟨_, _, rfl, by rw [Nat.zero_mul, Nat.zero_add]; simp⟩
  · rw [if_neg h1, if_pos hi]
    refine ⟨_, _, rfl, ?_⟩
    by_cases h2 : c = 2 * f.binade
    · subst h2
      have e1 : (k * f.binade + 2 * f.binade) / f.binade = k + 2 := by rw [← Nat.add_mul, Nat.mul_div_cancel _ hb]
      have e2 : (k * f.binade + 2 * f.binade) % f.binade = 0 := by rw [← Nat.add_mul, Nat.mul_mod_left]
      rw [e1, e2, Nat.add_zero, show (k + 2 - 1 : Nat) = k + 1 by omega, Rat.natCast_mul]
      have : p2 (f.leastPlace + ((k + 1 : Nat) : Int)) = p2 (f.leastPlace + (k : Int)) * 2 := by rw [← p2_one, ← p2_add]; congr 1; omega
      rw [this]; grind
    · by_cases h3 : c < f.binade
      · have k0 : k = 0 := by
          rcases hk with h | h
          · exact h
          · omega
        subst k0; omega
      · obtain ⟨d, rfl⟩ : ∃ d, c = f.binade + d := ⟨c - f.binade, by omega⟩
        have hd : d < f.binade := by omega
        have e1 : (k * f.binade + (f.binade + d)) / f.binade = k + 1 := by
          rw [← Nat.add_assoc, show k * f.binade + f.binade + d = d + f.binade * (k + 1) by rw [Nat.mul_comm f.binade, Nat.add_mul]; omega, Nat.add_mul_div_left _ _ hb, Nat.div_eq_of_lt hd]; omega
        have e2 : (k * f.binade + (f.binade + d)) % f.binade = d := by
          rw [← Nat.add_assoc, show k * f.binade + f.binade + d = d + f.binade * (k + 1) by rw [Nat.mul_comm f.binade, Nat.add_mul]; omega, Nat.add_mul_mod_self_left, Nat.mod_eq_of_lt hd]
        rw [e1, e2, show (k + 1 - 1 : Nat) = k by omega]
theorem nearest_val {f : Ieee.Format} (hf : Fmt f) (hI : (100 - f.leastPlace).toNat * f.binade ≤ f.infRung) (neg : Bool) {m : Nat} {p : Int} (hm : m ≠ 0) (hB : p + (m.log2 : Int) < 100) :
    ∃ m' p', f.read (f.nearest neg m p) = .number neg m' p' ∧
      2 * ((m' : Rat) * p2 p') ≤ 2 * ((m : Rat) * p2 p) + p2 (max (p + m.log2 - f.fractionBits) f.leastPlace) ∧
      2 * ((m : Rat) * p2 p) ≤ 2 * ((m' : Rat) * p2 p') + p2 (max (p + m.log2 - f.fractionBits) f.leastPlace) := by
  unfold Ieee.Format.nearest
  rw [if_neg hm]
  dsimp only
  generalize hlast : max (p + (m.log2 : Int) - (f.fractionBits : Int)) f.leastPlace = last
  have hb : 0 < f.binade := Nat.two_pow_pos _
  have hlp := hf.lp
  have hkept : Ieee.Toward.even.cut neg (m <<< (p - last).toNat) (last - p).toNat ≤ 2 * f.binade := by
    unfold Ieee.Format.binade
    refine cut_le _ _ _ _ (by have := Nat.two_pow_pos f.fractionBits; omega) ?_
    rw [Nat.shiftLeft_eq]
    have hpow : m * 2 ^ (p - last).toNat < 2 ^ (m.log2 + 1) * 2 ^ (p - last).toNat := Nat.mul_lt_mul_of_pos_right log2_lt_pow (Nat.two_pow_pos _)
    refine Nat.lt_of_lt_of_le hpow ?_
    rw [← Nat.pow_succ', ← Nat.pow_add, ← Nat.pow_add]
    exact Nat.pow_le_pow_right (by omega) (by omega)
  have hkb : (last - f.leastPlace).toNat = 0 ∨ f.binade ≤ Ieee.Toward.even.cut neg (m <<< (p - last).toNat) (last - p).toNat := by
    by_cases h0 : last = f.leastPlace
    · left; omega
    · right
      have hl2 : last = p + (m.log2 : Int) - (f.fractionBits : Int) := by omega
      unfold Ieee.Format.binade
      rw [Nat.shiftLeft_eq]
      rcases Nat.le_total m.log2 f.fractionBits with hd | hd
      · have e1 : (p - last).toNat = f.fractionBits - m.log2 := by omega
        have e2 : (last - p).toNat = 0 := by omega
        rw [e1, e2]
        refine cut_ge _ _ _ _ (by omega) ?_
        rw [Nat.pow_zero, Nat.mul_one]
        have := Nat.mul_le_mul_right (2 ^ (f.fractionBits - m.log2)) (pow_log2_le hm)
        rw [← Nat.pow_add] at this
        have e3 : m.log2 + (f.fractionBits - m.log2) = f.fractionBits := by omega
        rwa [e3] at this
      · have e1 : (p - last).toNat = 0 := by omega
        have e2 : (last - p).toNat = m.log2 - f.fractionBits := by omega
        rw [e1, e2, Nat.pow_zero, Nat.mul_one]
        refine cut_ge _ _ _ _ (by omega) ?_
        rw [← Nat.pow_add]
        have e3 : f.fractionBits + (m.log2 - f.fractionBits) = m.log2 := by omega
        rw [e3]
        exact pow_log2_le hm
  have hcn := cut_near neg (m <<< (p - last).toNat) (last - p).toNat
  generalize Ieee.Toward.even.cut neg (m <<< (p - last).toNat) (last - p).toNat = c at *
  rw [Nat.shiftLeft_eq] at hcn
  have hlt : (last - f.leastPlace).toNat * f.binade + c < f.infRung := by
    have h1 : (last - f.leastPlace).toNat + 3 ≤ (100 - f.leastPlace).toNat := by
      have := hf.fb
      omega
    have h2 := Nat.mul_le_mul_right f.binade h1
    rw [Nat.add_mul] at h2
    omega
  rw [Nat.min_eq_left (Nat.le_of_lt hlt)]
  obtain ⟨m', p', e1, e2⟩ := read_rung_val hf neg hkept hkb hlt
  refine ⟨m', p', e1, ?_⟩
  rw [e2, show f.leastPlace + (((last - f.leastPlace).toNat : Nat) : Int) = last by omega]
  have key : ∀ base : Int, base ≤ p → base ≤ last → (p - last).toNat + (last - base).toNat = (last - p).toNat + (p - base).toNat →
      2 * ((c : Rat) * p2 last) ≤ 2 * ((m : Rat) * p2 p) + p2 last ∧ 2 * ((m : Rat) * p2 p) ≤ 2 * ((c : Rat) * p2 last) + p2 last := by
    intro base hb1 hb2 hE
    rcases Int.le_total p last with h | h
    · have e3 : (p - last).toNat = 0 := by omega
      rw [e3, Nat.pow_zero, Nat.mul_one] at hcn
      rw [p2_sub h]
      have c1 : ((2 * (c * 2 ^ (last - p).toNat) : Nat) : Rat) ≤ ((2 * m + 2 ^ (last - p).toNat : Nat) : Rat) := Rat.natCast_le_natCast.2 hcn.1
      have c2 : ((2 * m : Nat) : Rat) ≤ ((2 * (c * 2 ^ (last - p).toNat) + 2 ^ (last - p).toNat : Nat) : Rat) := Rat.natCast_le_natCast.2 hcn.2
      rw [Rat.natCast_mul, Rat.natCast_mul, Rat.natCast_add, Rat.natCast_mul] at c1
      rw [Rat.natCast_mul, Rat.natCast_add, Rat.natCast_mul, Rat.natCast_mul] at c2
      have hp := Rat.le_of_lt (p2_pos p)
      have d1 := Rat.mul_le_mul_of_nonneg_right c1 hp
      have d2 := Rat.mul_le_mul_of_nonneg_right c2 hp
      constructor <;> grind
    · have e3 : (last - p).toNat = 0 := by omega
      rw [e3, Nat.pow_zero, Nat.mul_one] at hcn
      rw [p2_sub h]
      have c1 : ((2 * c : Nat) : Rat) ≤ ((2 * (m * 2 ^ (p - last).toNat) + 1 : Nat) : Rat) := Rat.natCast_le_natCast.2 hcn.1
      have c2 : ((2 * (m * 2 ^ (p - last).toNat) : Nat) : Rat) ≤ ((2 * c + 1 : Nat) : Rat) := Rat.natCast_le_natCast.2 hcn.2
      rw [Rat.natCast_mul, Rat.natCast_add, Rat.natCast_mul, Rat.natCast_mul] at c1
      rw [Rat.natCast_mul, Rat.natCast_mul, Rat.natCast_add, Rat.natCast_mul] at c2
      have hp := Rat.le_of_lt (p2_pos last)
      have d1 := Rat.mul_le_mul_of_nonneg_right c1 hp
      have d2 := Rat.mul_le_mul_of_nonneg_right c2 hp
      constructor <;> grind
  exact key (min p last) (by omega) (by omega) (by omega)
/-! Numbers, and what they are worth. -/
def Num {k : FloatKind} (x : Fl k) : Prop := ∃ s m p, k.format.read x.bits = .number s m p
def val {k : FloatKind} (x : Fl k) : Rat := dv (k.format.read x.bits)
theorem Num.of {k : FloatKind} {x : Fl k} {s : Bool} {m : Nat} {p : Int} (h : k.format.read x.bits = .number s m p) : Num x := ⟨s, m, p, h⟩
theorem val_of {k : FloatKind} {x : Fl k} {d : Ieee.Datum} (h : k.format.read x.bits = d) : val x = dv d := by unfold val; rw [h]
def er (f : Ieee.Format) (v : Rat) : Rat := v.abs * p2 (-(f.fractionBits : Int)) + p2 f.leastPlace
theorem abs_cases (v : Rat) : (0 ≤ v ∧ v.abs = v) ∨ (v ≤ 0 ∧ v.abs = -v) := by
  rcases Rat.le_total (a := 0) (b := v) with h | h
  · exact .inl ⟨h, Rat.abs_of_nonneg h⟩
  · exact .inr ⟨h, Rat.abs_of_nonpos h⟩
theorem mag_bounds {m : Nat} (hm : m ≠ 0) (p : Int) : p2 (p + (m.log2 : Int)) ≤ (m : Rat) * p2 p ∧ (m : Rat) * p2 p < p2 (p + (m.log2 : Int) + 1) := by
  have h1 : ((2 ^ m.log2 : Nat) : Rat) ≤ (m : Rat) := Rat.natCast_le_natCast.2 (pow_log2_le hm)
  have h2 : (m : Rat) < ((2 ^ (m.log2 + 1) : Nat) : Rat) := Rat.natCast_lt_natCast.2 log2_lt_pow
  have h3 := Rat.mul_le_mul_of_nonneg_right h1 (Rat.le_of_lt (p2_pos p))
  have h4 := Rat.mul_lt_mul_of_pos_right h2 (p2_pos p)
  rw [← p2_nat, ← p2_add] at h3 h4
  rw [Int.add_comm p]
  refine ⟨h3, ?_⟩
  have e : (m.log2 : Int) + p + 1 = ((m.log2 + 1 : Nat) : Int) + p := by omega
  rw [e]; exact h4
theorem inf_ok (k : FloatKind) : (100 - k.format.leastPlace).toNat * k.format.binade ≤ k.format.infRung := by cases k <;> decide
theorem fmt_ok (k : FloatKind) : Fmt k.format := by
  cases k
  · exact fmt_s
  · exact fmt_d
theorem write_val (k : FloatKind) {s : Bool} {m : Nat} {p : Int} (h : (dv (.number s m p)).abs < p2 100) :
    ∃ m' p', k.format.read (k.format.write (.number s m p)) = .number s m' p' ∧ (dv (.number s m' p') - dv (.number s m p)).abs ≤ er k.format (dv (.number s m p)) ∧
      (0 ≤ dv (.number s m p) → 0 ≤ dv (.number s m' p')) ∧ (dv (.number s m p) ≤ 0 → dv (.number s m' p') ≤ 0) := by
  have hf := fmt_ok k
  show ∃ m' p', k.format.read (k.format.nearest s m p) = .number s m' p' ∧ _
  by_cases hm : m = 0
  · subst hm
    have e : k.format.nearest s 0 p = k.format.word s (0 * k.format.binade + 0) := by unfold Ieee.Format.nearest; simp
    have hb : 0 < k.format.binade := Nat.two_pow_pos _
    obtain ⟨m', p', e1, e2⟩ := read_rung_val hf s (k := 0) (c := 0) (Nat.zero_le _) (.inl rfl) (by cases k <;> decide)
    rw [e]
    refine ⟨m', p', e1, ?_⟩
    have z1 : dv (.number s m' p') = 0 := by
      show (if s then -1 else 1) * ((m' : Rat) * p2 p') = 0
      rw [e2]; simp
    have z2 : dv (.number s 0 p) = 0 := by
      show (if s then -1 else 1) * (((0 : Nat) : Rat) * p2 p) = 0
      simp
    rw [z1, z2]
    unfold er
    have := p2_pos k.format.leastPlace
    have e3 : ((0 : Rat) - 0).abs = 0 := by rw [Rat.sub_self]; exact Rat.abs_zero
    rw [e3, Rat.abs_zero]
    exact ⟨by grind, fun h => h, fun h => h⟩
  · have hv : (dv (.number s m p)).abs = (m : Rat) * p2 p := by
      show ((if s then -1 else 1) * ((m : Rat) * p2 p)).abs = _
      have h0 : 0 ≤ (m : Rat) * p2 p := Rat.mul_nonneg Rat.natCast_nonneg (Rat.le_of_lt (p2_pos p))
      cases s
      · simp only [Bool.false_eq_true, if_false, Rat.one_mul]; exact Rat.abs_of_nonneg h0
      · simp only [if_true]
        rw [show (-1 : Rat) * ((m : Rat) * p2 p) = -((m : Rat) * p2 p) by grind, Rat.abs_neg]; exact Rat.abs_of_nonneg h0
    have hmb := mag_bounds hm p
    have hlog : p + (m.log2 : Int) < 100 := by
      apply Classical.byContradiction
      intro hc
      have := p2_mono (show (100 : Int) ≤ p + (m.log2 : Int) by omega)
      rw [hv] at h
      exact absurd (Rat.le_trans this hmb.1) (Rat.not_le.2 h)
    obtain ⟨m', p', e1, e2, e3⟩ := nearest_val hf (inf_ok k) s hm hlog
    have hpos : 0 < (m : Rat) * p2 p := Rat.mul_pos (Rat.natCast_pos.2 (Nat.pos_of_ne_zero hm)) (p2_pos p)
    have hpos' : 0 ≤ (m' : Rat) * p2 p' := Rat.mul_nonneg Rat.natCast_nonneg (Rat.le_of_lt (p2_pos p'))
    have hsg : (0 ≤ dv (.number s m p) → 0 ≤ dv (.number s m' p')) ∧ (dv (.number s m p) ≤ 0 → dv (.number s m' p') ≤ 0) := by
      show (0 ≤ (if s = true then -1 else 1) * ((m : Rat) * p2 p) → 0 ≤ (if s = true then -1 else 1) * ((m' : Rat) * p2 p')) ∧ ((if s = true then -1 else 1) * ((m : Rat) * p2 p) ≤ 0 → (if s = true then -1 else 1) * ((m' : Rat) * p2 p') ≤ 0)
      generalize (m : Rat) * p2 p = a at *
      generalize (m' : Rat) * p2 p' = b at *
      cases s <;> simp only [Bool.false_eq_true, if_false, if_true] <;> constructor <;> intro h <;> grind
    refine ⟨m', p', e1, ?_, hsg⟩
    have hstep : p2 (max (p + (m.log2 : Int) - (k.format.fractionBits : Int)) k.format.leastPlace) ≤ er k.format (dv (.number s m p)) := by
      unfold er
      rw [hv]
      have g1 := p2_pos k.format.leastPlace
      have g2 : p2 (p + (m.log2 : Int) - (k.format.fractionBits : Int)) ≤ (m : Rat) * p2 p * p2 (-(k.format.fractionBits : Int)) := by
        rw [Int.sub_eq_add_neg, p2_add]
        exact Rat.mul_le_mul_of_nonneg_right hmb.1 (Rat.le_of_lt (p2_pos _))
      have g3 : 0 ≤ (m : Rat) * p2 p * p2 (-(k.format.fractionBits : Int)) := Rat.mul_nonneg (Rat.mul_nonneg Rat.natCast_nonneg (Rat.le_of_lt (p2_pos p))) (Rat.le_of_lt (p2_pos _))
      rcases Int.le_total (p + (m.log2 : Int) - (k.format.fractionBits : Int)) k.format.leastPlace with hh | hh
      · rw [Int.max_eq_right hh]; grind
      · rw [Int.max_eq_left hh]; grind
    generalize p2 (max (p + (m.log2 : Int) - (k.format.fractionBits : Int)) k.format.leastPlace) = st at *
    have hst : 0 ≤ er k.format (dv (.number s m p)) := by
      unfold er
      have g1 := Rat.le_of_lt (p2_pos k.format.leastPlace)
      have g3 : 0 ≤ (dv (.number s m p)).abs * p2 (-(k.format.fractionBits : Int)) := Rat.mul_nonneg Rat.abs_nonneg (Rat.le_of_lt (p2_pos _))
      grind
    generalize er k.format (dv (.number s m p)) = E at *
    show ((if s then -1 else 1) * ((m' : Rat) * p2 p') - (if s then -1 else 1) * ((m : Rat) * p2 p)).abs ≤ E
    generalize (m' : Rat) * p2 p' = a at *
    generalize (m : Rat) * p2 p = b at *
    cases s
    · simp only [Bool.false_eq_true, if_false]
      rcases abs_cases (1 * a - 1 * b) with ⟨h1, h2⟩ | ⟨h1, h2⟩ <;> rw [h2] <;> grind
    · simp only [if_true]
      rcases abs_cases (-1 * a - -1 * b) with ⟨h1, h2⟩ | ⟨h1, h2⟩ <;> rw [h2] <;> grind
theorem opt_num {k : FloatKind} {o : Option Nat} {h : ∀ r, o = some r → r < 2 ^ k.format.width} {r : Nat} {d : Ieee.Datum} (e : o = some r) (hr : k.format.read r = d) (hd : d.isNaN = false) :
    k.format.read (Fl.opt k o h).bits = d := by
  subst e
  show k.format.read (canonF k r) = d
  rw [canonF_num (by unfold nanB; show (k.format.read r).isNaN = false; rw [hr]; exact hd)]
  exact hr
theorem op_val {k : FloatKind} {o : Option Nat} {h : ∀ r, o = some r → r < 2 ^ k.format.width} {s : Bool} {m : Nat} {p : Int} (e : o = some (k.format.write (.number s m p))) (hb : (dv (.number s m p)).abs < p2 100) :
    Num (Fl.opt k o h) ∧ (val (Fl.opt k o h) - dv (.number s m p)).abs ≤ er k.format (dv (.number s m p)) ∧ (0 ≤ dv (.number s m p) → 0 ≤ val (Fl.opt k o h)) ∧ (dv (.number s m p) ≤ 0 → val (Fl.opt k o h) ≤ 0) := by
  obtain ⟨m', p', e1, e2, e4, e5⟩ := write_val k hb
  have e3 := opt_num (h := h) e e1 rfl
  rw [val_of e3]
  exact ⟨.of e3, e2, e4, e5⟩
/-! The operations. -/
theorem dv_sum {s t : Bool} {m n : Nat} {i j : Int} : ∃ S M P, (Ieee.Datum.number s m i).sum (.number t n j) = some (.number S M P) ∧ dv (.number S M P) = dv (.number s m i) + dv (.number t n j) := by
  refine ⟨_, _, _, rfl, ?_⟩
  rw [dv_signed (Int.min_le_left i j), dv_signed (Int.min_le_right i j), ← Rat.add_mul, ← Rat.intCast_add]
  generalize Ieee.signed s m (i - min i j).toNat + Ieee.signed t n (j - min i j).toNat = T
  show (if (if T = 0 then s && t else decide (T < 0)) = true then -1 else 1) * ((T.natAbs : Rat) * p2 (min i j)) = (T : Rat) * p2 (min i j)
  by_cases hT : T = 0
  · subst hT; simp
  · rw [if_neg hT]
    by_cases hn : T < 0
    · rw [if_pos (by simpa using hn)]
      have : ((T.natAbs : Nat) : Rat) = -(T : Rat) := by
        rw [← Rat.intCast_natCast, ← Rat.intCast_neg]; congr 1; omega
      rw [this]; grind
    · rw [if_neg (by simpa using hn)]
      have : ((T.natAbs : Nat) : Rat) = (T : Rat) := by
        rw [← Rat.intCast_natCast]; congr 1; omega
      rw [this]; grind
theorem dv_opp (s : Bool) (m : Nat) (p : Int) : dv (.number (!s) m p) = -dv (.number s m p) := by
  show (if (!s) = true then -1 else 1) * ((m : Rat) * p2 p) = -((if s = true then -1 else 1) * ((m : Rat) * p2 p))
  cases s <;> simp only [Bool.not_false, Bool.not_true, if_true, Bool.false_eq_true, if_false] <;> grind
theorem add_val {k : FloatKind} {x y : Fl k} (hx : Num x) (hy : Num y) (hb : (val x + val y).abs < p2 100) : Num (x.add y) ∧ (val (x.add y) - (val x + val y)).abs ≤ er k.format (val x + val y) ∧ (0 ≤ val x + val y → 0 ≤ val (x.add y)) ∧ (val x + val y ≤ 0 → val (x.add y) ≤ 0) := by
  obtain ⟨s, m, i, ex⟩ := hx
  obtain ⟨t, n, j, ey⟩ := hy
  rw [val_of ex, val_of ey] at *
  obtain ⟨S, M, P, e1, e2⟩ := dv_sum (s := s) (t := t) (m := m) (n := n) (i := i) (j := j)
  rw [← e2] at hb ⊢
  have e : k.format.add x.bits y.bits = some (k.format.write (.number S M P)) := by unfold Ieee.Format.add; rw [ex, ey, e1]; rfl
  exact op_val (h := fun _ h => k.format.add_lt h) e hb
theorem sub_val {k : FloatKind} {x y : Fl k} (hx : Num x) (hy : Num y) (hb : (val x - val y).abs < p2 100) : Num (x.sub y) ∧ (val (x.sub y) - (val x - val y)).abs ≤ er k.format (val x - val y) ∧ (0 ≤ val x - val y → 0 ≤ val (x.sub y)) ∧ (val x - val y ≤ 0 → val (x.sub y) ≤ 0) := by
  obtain ⟨s, m, i, ex⟩ := hx
  obtain ⟨t, n, j, ey⟩ := hy
  rw [val_of ex, val_of ey] at *
  obtain ⟨S, M, P, e1, e2⟩ := dv_sum (s := s) (t := !t) (m := m) (n := n) (i := i) (j := j)
  rw [dv_opp, ← Rat.sub_eq_add_neg] at e2
  rw [← e2] at hb ⊢
  have e : k.format.sub x.bits y.bits = some (k.format.write (.number S M P)) := by
    unfold Ieee.Format.sub; rw [ex, ey]
    show ((Ieee.Datum.number s m i).sum (.number (!t) n j)).map k.format.write = _
    rw [e1]; rfl
  exact op_val (h := fun _ h => k.format.sub_lt h) e hb
theorem dv_mul (s t : Bool) (m n : Nat) (i j : Int) : dv (.number (s ^^ t) (m * n) (i + j)) = dv (.number s m i) * dv (.number t n j) := by
  show (if (s ^^ t) = true then -1 else 1) * (((m * n : Nat) : Rat) * p2 (i + j)) = ((if s = true then -1 else 1) * ((m : Rat) * p2 i)) * ((if t = true then -1 else 1) * ((n : Rat) * p2 j))
  rw [p2_add, Rat.natCast_mul]
  cases s <;> cases t <;> simp only [Bool.false_eq_true, if_false, if_true, Bool.false_xor, Bool.true_xor, Bool.not_false, Bool.not_true] <;> grind
theorem mul_val {k : FloatKind} {x y : Fl k} (hx : Num x) (hy : Num y) (hb : (val x * val y).abs < p2 100) : Num (x.mul y) ∧ (val (x.mul y) - (val x * val y)).abs ≤ er k.format (val x * val y) ∧ (0 ≤ val x * val y → 0 ≤ val (x.mul y)) ∧ (val x * val y ≤ 0 → val (x.mul y) ≤ 0) := by
  obtain ⟨s, m, i, ex⟩ := hx
  obtain ⟨t, n, j, ey⟩ := hy
  rw [val_of ex, val_of ey] at *
  rw [← dv_mul] at hb ⊢
  have e : k.format.mul x.bits y.bits = some (k.format.write (.number (s ^^ t) (m * n) (i + j))) := by unfold Ieee.Format.mul; rw [ex, ey]; rfl
  exact op_val (h := fun _ h => k.format.mul_lt h) e hb
/-! Quotients. -/
theorem abs_le {a b : Rat} (h1 : a ≤ b) (h2 : -b ≤ a) : a.abs ≤ b := by
  rcases abs_cases a with ⟨_, h⟩ | ⟨_, h⟩ <;> rw [h] <;> grind
theorem abs_bounds {a b : Rat} (h : a.abs ≤ b) : a ≤ b ∧ -b ≤ a := by
  rcases abs_cases a with ⟨h0, e⟩ | ⟨h0, e⟩ <;> rw [e] at h <;> grind
theorem mul_abs (a b : Rat) : (a * b).abs = a.abs * b.abs := by
  rcases abs_cases a with ⟨h1, e1⟩ | ⟨h1, e1⟩ <;> rcases abs_cases b with ⟨h2, e2⟩ | ⟨h2, e2⟩ <;> rw [e1, e2]
  · exact Rat.abs_of_nonneg (Rat.mul_nonneg h1 h2)
  · have := Rat.mul_nonneg h1 (show 0 ≤ -b by grind)
    rw [Rat.abs_of_nonpos (by grind)]; grind
  · have := Rat.mul_nonneg (show 0 ≤ -a by grind) h2
    rw [Rat.abs_of_nonpos (by grind)]; grind
  · have := Rat.mul_nonneg (show 0 ≤ -a by grind) (show 0 ≤ -b by grind)
    rw [Rat.abs_of_nonneg (by grind)]; grind
theorem sgn_abs (s : Bool) {a : Rat} (h : 0 ≤ a) : ((if s = true then -1 else 1) * a).abs = a := by
  rw [mul_abs, Rat.abs_of_nonneg h]
  cases s
  · simp only [Bool.false_eq_true, if_false]; rw [show (1 : Rat).abs = 1 by decide]; grind
  · simp only [if_true]; rw [show (-1 : Rat).abs = 1 by decide]; grind
theorem p2_le_one {e : Int} (h : e ≤ 0) : p2 e ≤ 1 := by rw [← p2_zero]; exact p2_mono h
theorem quot_val {m n digits more : Nat} (hn : n ≠ 0) (hmore : digits + n.log2 ≤ m.log2 + more) (i j : Int) :
    (((2 * (m * 2 ^ more / n) + (m * 2 ^ more % n != 0).toNat : Nat) : Rat) * p2 (i - j - (more : Int) - 1) * ((n : Rat) * p2 j) - (m : Rat) * p2 i).abs ≤ (m : Rat) * p2 i * p2 (-(digits : Int)) := by
  have hE : p2 (i - j - (more : Int) - 1) * p2 j = p2 (i - (more : Int) - 1) := by rw [← p2_add]; congr 1; omega
  have hI : p2 i = p2 (i - (more : Int) - 1) * ((2 ^ (more + 1) : Nat) : Rat) := by rw [p2_sub (a := i) (b := i - (more : Int) - 1) (by omega)]; congr 3; omega
  have hu := p2_pos (i - (more : Int) - 1)
  generalize p2 (i - (more : Int) - 1) = u at *
  have hdm := Nat.div_add_mod (m * 2 ^ more) n
  have hml := Nat.mod_lt (m * 2 ^ more) (Nat.pos_of_ne_zero hn)
  by_cases hm : m = 0
  · subst hm
    have z : ((2 * (0 * 2 ^ more / n) + (0 * 2 ^ more % n != 0).toNat : Nat) : Rat) = 0 := by simp
    rw [z]
    have z2 : (((0 : Rat) * p2 (i - j - (more : Int) - 1) * ((n : Rat) * p2 j)) - ((0 : Nat) : Rat) * p2 i).abs = 0 := by
      have : (0 : Rat) * p2 (i - j - (more : Int) - 1) * ((n : Rat) * p2 j) - ((0 : Nat) : Rat) * p2 i = 0 := by simp; exact Rat.sub_self
      rw [this]; exact Rat.abs_zero
    rw [z2]
    simp
  have hD : 2 ^ digits * n ≤ 2 * (m * 2 ^ more) := by
    have h1 : 2 ^ (digits + n.log2) ≤ m * 2 ^ more := by
      refine Nat.le_trans (Nat.pow_le_pow_right (by omega) hmore) ?_
      rw [Nat.pow_add]
      exact Nat.mul_le_mul_right _ (pow_log2_le hm)
    have h2 : 2 ^ digits * n ≤ 2 ^ digits * 2 ^ (n.log2 + 1) := Nat.mul_le_mul_left _ (Nat.le_of_lt log2_lt_pow)
    rw [← Nat.pow_add, ← Nat.add_assoc, Nat.pow_succ] at h2
    omega
  have hb : ∀ b : Bool, b.toNat ≤ 1 := fun b => by cases b <;> decide
  have hN : (2 * (m * 2 ^ more / n) + (m * 2 ^ more % n != 0).toNat) * n ≤ 2 * (m * 2 ^ more) + n ∧ 2 * (m * 2 ^ more) ≤ (2 * (m * 2 ^ more / n) + (m * 2 ^ more % n != 0).toNat) * n + n := by
    have e1 : (2 * (m * 2 ^ more / n) + (m * 2 ^ more % n != 0).toNat) * n = 2 * (n * (m * 2 ^ more / n)) + (m * 2 ^ more % n != 0).toNat * n := by
      rw [Nat.add_mul, Nat.mul_assoc, Nat.mul_comm (m * 2 ^ more / n) n]
    rw [e1]
    generalize n * (m * 2 ^ more / n) = q at *
    by_cases h0 : m * 2 ^ more % n = 0
    · rw [h0]; simp; omega
    · have : (m * 2 ^ more % n != 0) = true := by simpa using h0
      rw [this]; simp; omega
  generalize 2 * (m * 2 ^ more / n) + (m * 2 ^ more % n != 0).toNat = N at hN ⊢
  have c1 : ((N * n : Nat) : Rat) ≤ ((2 * (m * 2 ^ more) + n : Nat) : Rat) := Rat.natCast_le_natCast.2 hN.1
  have c2 : ((2 * (m * 2 ^ more) : Nat) : Rat) ≤ ((N * n + n : Nat) : Rat) := Rat.natCast_le_natCast.2 hN.2
  have c3 : ((2 ^ digits * n : Nat) : Rat) ≤ ((2 * (m * 2 ^ more) : Nat) : Rat) := Rat.natCast_le_natCast.2 hD
  have hp : ((2 ^ (more + 1) : Nat) : Rat) = 2 * ((2 ^ more : Nat) : Rat) := by rw [Nat.pow_succ, Rat.natCast_mul]; grind
  have hd : p2 (-(digits : Int)) * ((2 ^ digits : Nat) : Rat) = 1 := by rw [← p2_nat, ← p2_add, ← p2_zero]; congr 1; omega
  have hdp := p2_pos (-(digits : Int))
  simp only [Rat.natCast_mul, Rat.natCast_add] at c1 c2 c3
  rw [hp] at hI
  rw [hI]
  have e1 : (N : Rat) * p2 (i - j - (more : Int) - 1) * ((n : Rat) * p2 j) = (N : Rat) * (n : Rat) * u := by rw [← hE]; grind
  rw [e1]
  generalize ((2 ^ more : Nat) : Rat) = M at *
  generalize ((2 ^ digits : Nat) : Rat) = G at *
  generalize p2 (-(digits : Int)) = g at *
  generalize (N : Rat) = N at *
  generalize (n : Rat) = n at *
  generalize (m : Rat) = m at *
  have c1' : N * n ≤ 2 * (m * M) + n := by simpa using c1
  have c2' : 2 * (m * M) ≤ N * n + n := by simpa using c2
  have c3' : G * n ≤ 2 * (m * M) := by simpa using c3
  have d3 := Rat.mul_le_mul_of_nonneg_right (Rat.mul_le_mul_of_nonneg_right c3' (Rat.le_of_lt hu)) (Rat.le_of_lt hdp)
  have d4 : n * u ≤ 2 * (m * M) * u * g := by
    have : G * n * u * g = n * u * (g * G) := by grind
    rw [this, hd, Rat.mul_one] at d3
    exact d3
  have d1 := Rat.mul_le_mul_of_nonneg_right c1' (Rat.le_of_lt hu)
  have d2 := Rat.mul_le_mul_of_nonneg_right c2' (Rat.le_of_lt hu)
  refine abs_le ?_ ?_ <;> grind
def er2 (f : Ieee.Format) (v : Rat) : Rat := v.abs * p2 (1 - (f.fractionBits : Int)) + p2 f.leastPlace
theorem div_val {k : FloatKind} {x y : Fl k} (hx : Num x) (hy : Num y) (hy0 : val y ≠ 0) {q : Rat} (hq : q * val y = val x) (hb : q.abs < p2 99) : Num (x.div y) ∧ (val (x.div y) - q).abs ≤ er2 k.format q ∧ (0 ≤ val x → 0 < val y → 0 ≤ val (x.div y)) := by
  obtain ⟨s, m, i, ex⟩ := hx
  obtain ⟨t, n, j, ey⟩ := hy
  have hn : n ≠ 0 := by
    intro h0
    apply hy0
    rw [val_of ey, h0]
    show (if t = true then (-1 : Rat) else 1) * (((0 : Nat) : Rat) * p2 j) = 0
    simp
  generalize hdg : k.format.fractionBits + 2 = dg
  generalize hmore : dg + n.log2 - m.log2 = more
  have e : k.format.div x.bits y.bits = some (k.format.write (.number (s ^^ t) (2 * (m * 2 ^ more / n) + (m * 2 ^ more % n != 0).toNat) (i - j - (more : Int) - 1))) := by
    unfold Ieee.Format.div
    rw [ex, ey]
    show Option.map _ (if n = 0 then _ else _) = _
    rw [if_neg hn]
    simp only [Option.map_some, hdg, hmore, Nat.shiftLeft_eq]
  have hA := quot_val (m := m) (digits := dg) (more := more) hn (by omega) i j
  have hB : 0 < (n : Rat) * p2 j := Rat.mul_pos (Rat.natCast_pos.2 (Nat.pos_of_ne_zero hn)) (p2_pos j)
  have hA0 : 0 ≤ (m : Rat) * p2 i := Rat.mul_nonneg Rat.natCast_nonneg (Rat.le_of_lt (p2_pos i))
  generalize hNN : ((2 * (m * 2 ^ more / n) + (m * 2 ^ more % n != 0).toNat : Nat) : Rat) * p2 (i - j - (more : Int) - 1) = R at *
  have hR0 : 0 ≤ R := by rw [← hNN]; exact Rat.mul_nonneg Rat.natCast_nonneg (Rat.le_of_lt (p2_pos _))
  have hvx : val x = (if s = true then -1 else 1) * ((m : Rat) * p2 i) := val_of ex
  have hvy : val y = (if t = true then -1 else 1) * ((n : Rat) * p2 j) := val_of ey
  have hd : dv (.number (s ^^ t) (2 * (m * 2 ^ more / n) + (m * 2 ^ more % n != 0).toNat) (i - j - (more : Int) - 1)) = (if (s ^^ t) = true then -1 else 1) * R := by rw [← hNN]; rfl
  generalize (m : Rat) * p2 i = A at *
  generalize (n : Rat) * p2 j = B at *
  have hqa : q.abs * B = A := by
    have := congrArg Rat.abs hq
    rw [mul_abs, hvx, hvy, sgn_abs t (Rat.le_of_lt hB), sgn_abs s hA0] at this
    exact this
  have hg := p2_pos (-(dg : Int))
  have hclose : (R - q.abs).abs ≤ q.abs * p2 (-(dg : Int)) := by
    obtain ⟨a1, a2⟩ := abs_bounds hA
    have f1 : (R - q.abs) * B ≤ q.abs * p2 (-(dg : Int)) * B := by grind
    have f2 : (-(q.abs * p2 (-(dg : Int)))) * B ≤ (R - q.abs) * B := by grind
    exact abs_le (Rat.le_of_mul_le_mul_right f1 hB) (Rat.le_of_mul_le_mul_right f2 hB)
  have hsgn : (0 ≤ q ∧ (s ^^ t) = false) ∨ (q ≤ 0 ∧ (s ^^ t) = true) ∨ q = 0 := by
    rw [hvx, hvy] at hq
    rcases abs_cases q with ⟨h0, h1⟩ | ⟨h0, h1⟩
    · rw [h1] at hqa
      cases s <;> cases t <;> simp only [Bool.false_eq_true, if_false, if_true] at hq
      · exact .inl ⟨h0, rfl⟩
      · right; right
        have : q * B = 0 := by grind
        rcases Rat.mul_eq_zero.1 this with h | h
        · exact h
        · rw [h] at hB; exact absurd hB Rat.lt_irrefl
      · right; right
        have : q * B = 0 := by grind
        rcases Rat.mul_eq_zero.1 this with h | h
        · exact h
        · rw [h] at hB; exact absurd hB Rat.lt_irrefl
      · exact .inl ⟨h0, rfl⟩
    · rw [h1] at hqa
      cases s <;> cases t <;> simp only [Bool.false_eq_true, if_false, if_true] at hq
      · right; right
        have : q * B = 0 := by grind
        rcases Rat.mul_eq_zero.1 this with h | h
        · exact h
        · rw [h] at hB; exact absurd hB Rat.lt_irrefl
      · exact .inr (.inl ⟨h0, rfl⟩)
      · exact .inr (.inl ⟨h0, rfl⟩)
      · right; right
        have : q * B = 0 := by grind
        rcases Rat.mul_eq_zero.1 this with h | h
        · exact h
        · rw [h] at hB; exact absurd hB Rat.lt_irrefl
  obtain ⟨a1, a2⟩ := abs_bounds hclose
  have hq0 : 0 ≤ q.abs := Rat.abs_nonneg
  have hg1 : p2 (-(dg : Int)) ≤ 1 := p2_le_one (by omega)
  have hR2 : R ≤ 2 * q.abs := by
    have := Rat.mul_le_mul_of_nonneg_left hg1 hq0
    grind
  have hbig : R < p2 100 := by
    have := p2_half 100
    have e100 : (100 : Int) - 1 = 99 := rfl
    rw [e100] at this
    grind
  have hbnd : (dv (.number (s ^^ t) (2 * (m * 2 ^ more / n) + (m * 2 ^ more % n != 0).toNat) (i - j - (more : Int) - 1))).abs < p2 100 := by
    rw [hd, sgn_abs _ hR0]; exact hbig
  obtain ⟨g1, g2, g3⟩ := op_val (h := fun _ h => k.format.div_lt h) e hbnd
  refine ⟨g1, ?_, ?_⟩
  ·
    have hdq : (dv (.number (s ^^ t) (2 * (m * 2 ^ more / n) + (m * 2 ^ more % n != 0).toNat) (i - j - (more : Int) - 1)) - q).abs ≤ q.abs * p2 (-(dg : Int)) := by
      rw [hd]
      rcases hsgn with ⟨h0, h1⟩ | ⟨h0, h1⟩ | h0
      · rw [h1]; simp only [Bool.false_eq_true, if_false]
        rw [Rat.abs_of_nonneg h0] at hclose ⊢
        rw [Rat.one_mul]; exact hclose
      · rw [h1]; simp only [if_true]
        rw [Rat.abs_of_nonpos h0] at hclose ⊢
        have : -1 * R - q = -(R - -q) := by grind
        rw [this, Rat.abs_neg]; exact hclose
      · rw [h0] at hR2 ⊢
        have z : (0 : Rat).abs = 0 := by decide
        rw [z] at hR2 ⊢
        have : R = 0 := by grind
        rw [this]
        have z2 : ((if (s ^^ t) = true then (-1 : Rat) else 1) * 0 - 0).abs = 0 := by rw [Rat.mul_zero, Rat.sub_self]; exact Rat.abs_zero
        rw [z2, Rat.zero_mul]; exact Rat.le_refl
    have hda : (dv (.number (s ^^ t) (2 * (m * 2 ^ more / n) + (m * 2 ^ more % n != 0).toNat) (i - j - (more : Int) - 1))).abs = R := by rw [hd, sgn_abs _ hR0]
    have g2 : (val (x.div y) - dv (.number (s ^^ t) (2 * (m * 2 ^ more / n) + (m * 2 ^ more % n != 0).toNat) (i - j - (more : Int) - 1))).abs ≤ er k.format (dv (.number (s ^^ t) (2 * (m * 2 ^ more / n) + (m * 2 ^ more % n != 0).toNat) (i - j - (more : Int) - 1))) := g2
    unfold er at g2
    rw [hda] at g2
    generalize dv (.number (s ^^ t) (2 * (m * 2 ^ more / n) + (m * 2 ^ more % n != 0).toNat) (i - j - (more : Int) - 1)) = d at *
    obtain ⟨b1, b2⟩ := abs_bounds hdq
    obtain ⟨b3, b4⟩ := abs_bounds g2
    unfold er2
    have e4 : p2 (-(dg : Int)) * 4 = p2 (-(k.format.fractionBits : Int)) := by
      have : (4 : Rat) = p2 2 := by decide
      rw [this, ← p2_add]; congr 1; omega
    have e5 : p2 (1 - (k.format.fractionBits : Int)) = 2 * p2 (-(k.format.fractionBits : Int)) := by
      rw [← p2_one, ← p2_add]; congr 1
    rw [e5]
    have hf := p2_pos (-(k.format.fractionBits : Int))
    have hf1 : p2 (-(k.format.fractionBits : Int)) ≤ 1 := p2_le_one (by omega)
    generalize p2 (-(k.format.fractionBits : Int)) = F at *
    generalize p2 (-(dg : Int)) = g at *
    generalize val (x.div y) = v at *
    have r1 := Rat.mul_le_mul_of_nonneg_right (show R ≤ q.abs + q.abs * g by grind) (Rat.le_of_lt hf)
    have r2 := Rat.mul_le_mul_of_nonneg_left hf1 (show 0 ≤ q.abs * g by exact Rat.mul_nonneg hq0 (Rat.le_of_lt hg))
    have r3 : q.abs * g * 4 = q.abs * F := by rw [← e4]; grind
    refine abs_le ?_ ?_ <;> grind
  · intro h1 h2
    have hq1 : 0 ≤ q := by
      refine Rat.not_lt.1 fun hneg => ?_
      have := Rat.mul_lt_mul_of_pos_right hneg h2
      rw [Rat.zero_mul, hq] at this
      exact absurd h1 (Rat.not_le.2 this)
    refine g3.1 ?_
    rw [hd]
    rcases hsgn with ⟨h0, h1⟩ | ⟨h0, h1⟩ | h0
    · rw [h1]; simp only [Bool.false_eq_true, if_false]; rw [Rat.one_mul]; exact hR0
    · have : q = 0 := Rat.le_antisymm h0 hq1
      rw [this, Rat.abs_zero] at hR2
      have : R = 0 := by grind
      rw [this, Rat.mul_zero]; exact Rat.le_refl
    · rw [h0, Rat.abs_zero] at hR2
      have : R = 0 := by grind
      rw [this, Rat.mul_zero]; exact Rat.le_refl
/-! Roots. -/
theorem rootFrom_gt (n : Nat) : ∀ (t r : Nat), n < (r + 2 ^ t) * (r + 2 ^ t) → n < (Ieee.Datum.rootFrom n t r + 1) * (Ieee.Datum.rootFrom n t r + 1) := by
  intro t
  induction t with
  | zero => intro r h; exact h
  | succ t ih =>
    intro r h
    unfold Ieee.Datum.rootFrom
    simp only [Nat.one_shiftLeft]
    by_cases hl : (r + 2 ^ t) * (r + 2 ^ t) ≤ n
    · simp only [if_pos hl]
      refine ih _ ?_
      have : r + 2 ^ t + 2 ^ t = r + 2 ^ (t + 1) := by rw [Nat.pow_succ]; omega
      rw [this]; exact h
    · simp only [if_neg hl]
      exact ih _ (by omega)
theorem mul_le_mul' {a b c d : Rat} (h1 : a ≤ b) (h2 : c ≤ d) (h3 : 0 ≤ a) (h4 : 0 ≤ d) : a * c ≤ b * d :=
  Rat.le_trans (Rat.mul_le_mul_of_nonneg_left h2 h3) (Rat.mul_le_mul_of_nonneg_right h1 h4)
theorem lt_of_sq {a b : Rat} (hb : 0 ≤ b) (h : a * a < b * b) : a < b := by
  refine Rat.not_le.1 fun hc => ?_
  have := mul_le_mul' hc hc hb (Rat.le_trans hb hc)
  exact absurd h (Rat.not_lt.2 this)
theorem le_of_sq {a b : Rat} (hb : 0 ≤ b) (h : a * a ≤ b * b) : a ≤ b := by
  refine Rat.not_lt.1 fun hc => ?_
  have h0 : 0 < a := by grind
  have h1 := Rat.mul_lt_mul_of_pos_left hc h0
  have h2 := Rat.mul_le_mul_of_nonneg_right (Rat.le_of_lt hc) hb
  grind
theorem root_val {m n w digits : Nat} {i more : Int} (hn : n = m * 2 ^ more.toNat) (h0 : 0 ≤ more) (h1 : w * w ≤ n) (h2 : n < (w + 1) * (w + 1)) (h3 : 2 ^ (2 * digits) ≤ n) (hpar : (i - more) % 2 = 0) :
    let R := ((2 * w + (w * w != n).toNat : Nat) : Rat) * p2 ((i - more) / 2 - 1)
    (R * R - (m : Rat) * p2 i).abs ≤ (m : Rat) * p2 i * p2 (-(digits : Int)) := by
  intro R
  have hw : 2 ^ digits ≤ w := by
    refine Nat.le_of_not_lt fun hc => ?_
    have := Nat.mul_le_mul (show w + 1 ≤ 2 ^ digits by omega) (show w + 1 ≤ 2 ^ digits by omega)
    rw [← Nat.pow_add, show digits + digits = 2 * digits by omega] at this
    omega
  have hV : (m : Rat) * p2 i = 4 * (n : Rat) * (p2 ((i - more) / 2 - 1) * p2 ((i - more) / 2 - 1)) := by
    have e1 : p2 i = p2 (i - more) * ((2 ^ more.toNat : Nat) : Rat) := by rw [p2_sub (a := i) (b := i - more) (by omega)]; congr 3; omega
    have e2 : p2 (i - more) = 4 * (p2 ((i - more) / 2 - 1) * p2 ((i - more) / 2 - 1)) := by
      rw [← p2_add, show (4 : Rat) = p2 2 by decide, ← p2_add]; congr 1; omega
    rw [e1, e2, hn, Rat.natCast_mul]; grind
  have hR : R * R = ((2 * w + (w * w != n).toNat : Nat) : Rat) * ((2 * w + (w * w != n).toNat : Nat) : Rat) * (p2 ((i - more) / 2 - 1) * p2 ((i - more) / 2 - 1)) := by
    show _ * p2 _ * (_ * p2 _) = _
    grind
  rw [hR, hV]
  have hu : 0 < p2 ((i - more) / 2 - 1) * p2 ((i - more) / 2 - 1) := Rat.mul_pos (p2_pos _) (p2_pos _)
  generalize p2 ((i - more) / 2 - 1) * p2 ((i - more) / 2 - 1) = u at *
  have hN : (2 * w + (w * w != n).toNat) * (2 * w + (w * w != n).toNat) ≤ 4 * n + 4 * w ∧ 4 * n ≤ (2 * w + (w * w != n).toNat) * (2 * w + (w * w != n).toNat) + 4 * w := by
    have e3 : (w + 1) * (w + 1) = w * w + 2 * w + 1 := by grind
    by_cases h : w * w = n
    · have : (w * w != n) = false := by simpa using h
      rw [this]
      have e4 : (2 * w + false.toNat) * (2 * w + false.toNat) = 4 * (w * w) := by simp; grind
      rw [e4]; omega
    · have : (w * w != n) = true := by simpa using h
      rw [this]
      have e4 : (2 * w + true.toNat) * (2 * w + true.toNat) = 4 * (w * w) + 4 * w + 1 := by simp; grind
      rw [e4]; omega
  have hW : 2 ^ digits * w ≤ n := Nat.le_trans (Nat.mul_le_mul_right w hw) h1
  have c1 : ((((2 * w + (w * w != n).toNat) * (2 * w + (w * w != n).toNat) : Nat)) : Rat) ≤ ((4 * n + 4 * w : Nat) : Rat) := Rat.natCast_le_natCast.2 hN.1
  have c2 : ((4 * n : Nat) : Rat) ≤ (((2 * w + (w * w != n).toNat) * (2 * w + (w * w != n).toNat) + 4 * w : Nat) : Rat) := Rat.natCast_le_natCast.2 hN.2
  have c3 : ((2 ^ digits * w : Nat) : Rat) ≤ (n : Rat) := Rat.natCast_le_natCast.2 hW
  generalize 2 * w + (w * w != n).toNat = N at *
  have hd : p2 (-(digits : Int)) * ((2 ^ digits : Nat) : Rat) = 1 := by rw [← p2_nat, ← p2_add, ← p2_zero]; congr 1; omega
  have hdp := p2_pos (-(digits : Int))
  simp only [Rat.natCast_mul, Rat.natCast_add] at c1 c2 c3
  generalize ((2 ^ digits : Nat) : Rat) = G at *
  generalize p2 (-(digits : Int)) = g at *
  generalize (N : Rat) = N at *
  generalize (n : Rat) = n at *
  generalize (w : Rat) = w at *
  have c1' : N * N ≤ 4 * n + 4 * w := by simpa using c1
  have c2' : 4 * n ≤ N * N + 4 * w := by simpa using c2
  have d3 := Rat.mul_le_mul_of_nonneg_right (Rat.mul_le_mul_of_nonneg_right c3 (Rat.le_of_lt hu)) (Rat.le_of_lt hdp)
  have d4 : w * u ≤ n * u * g := by
    have : G * w * u * g = w * u * (g * G) := by grind
    rw [this, hd, Rat.mul_one] at d3
    exact d3
  have d1 := Rat.mul_le_mul_of_nonneg_right c1' (Rat.le_of_lt hu)
  have d2 := Rat.mul_le_mul_of_nonneg_right c2' (Rat.le_of_lt hu)
  refine abs_le ?_ ?_ <;> grind
theorem p2v52 : p2 (-52) = 1 / 4503599627370496 := by decide +kernel
theorem p2v54 : p2 (-54) = 1 / 18014398509481984 := by decide +kernel
theorem sq_near {R v V : Rat} (hR : 0 ≤ R) (hV : 0 ≤ V) (h1 : (v - R).abs ≤ R * (1 / 2251799813685248)) (h2 : (R * R - V).abs ≤ V * (1 / 18014398509481984)) : (v * v - V).abs ≤ V * (1 / 562949953421312) := by
  obtain ⟨a1, a2⟩ := abs_bounds h2
  have hd : (v * v - R * R).abs ≤ R * R * (1 / 1000000000000000) := by
    have e : v * v - R * R = (v - R) * (v + R) := by grind
    rw [e, mul_abs]
    obtain ⟨b1, b2⟩ := abs_bounds h1
    have h3 : (v + R).abs ≤ R * (9 / 4) := by refine abs_le ?_ ?_ <;> grind
    have := mul_le_mul' h1 h3 Rat.abs_nonneg (by grind)
    refine Rat.le_trans this ?_
    have hRR := Rat.mul_nonneg hR hR
    grind
  obtain ⟨b1, b2⟩ := abs_bounds hd
  refine abs_le ?_ ?_ <;> grind
theorem sqrt_val {x : F64} (hx : Num x) (h0 : 0 ≤ val x) (hb : val x < p2 190) (hV : val x = 0 ∨ p2 (-400) ≤ val x) :
    Num x.sqrt ∧ 0 ≤ val x.sqrt ∧ (val x.sqrt * val x.sqrt - val x).abs ≤ val x * (1 / 562949953421312) := by
  obtain ⟨s, m, i, ex⟩ := hx
  by_cases hm : m = 0
  · subst hm
    have hv : val x = 0 := by rw [val_of ex]; show (if s = true then (-1 : Rat) else 1) * (((0 : Nat) : Rat) * p2 i) = 0; simp
    have e : FloatKind.f64.format.sqrt x.bits = some (FloatKind.f64.format.write (.number s 0 i)) := by
      unfold Ieee.Format.sqrt; rw [ex]; rfl
    have hd : dv (.number s 0 i) = 0 := by rw [← hv, val_of ex]
    obtain ⟨g1, g2, g3, g4⟩ := op_val (h := fun _ h => FloatKind.f64.format.sqrt_lt h) e (by rw [hd, Rat.abs_zero]; exact p2_pos _)
    have hz : val x.sqrt = 0 := Rat.le_antisymm (g4 (by rw [hd]; exact Rat.le_refl)) (g3 (by rw [hd]; exact Rat.le_refl))
    refine ⟨g1, by rw [hz]; exact Rat.le_refl, ?_⟩
    rw [hz, hv]
    have : ((0 : Rat) * 0 - 0).abs = 0 := by rw [Rat.mul_zero, Rat.sub_self]; exact Rat.abs_zero
    rw [this, Rat.zero_mul]; exact Rat.le_refl
  · have hmp : 0 < (m : Rat) * p2 i := Rat.mul_pos (Rat.natCast_pos.2 (Nat.pos_of_ne_zero hm)) (p2_pos i)
    have hs : s = false := by
      cases s
      · rfl
      · rw [val_of ex] at h0
        have : 0 ≤ (if true = true then (-1 : Rat) else 1) * ((m : Rat) * p2 i) := h0
        simp only [if_true] at this
        grind
    subst hs
    have hvx : val x = (m : Rat) * p2 i := by rw [val_of ex]; show (if false = true then (-1 : Rat) else 1) * ((m : Rat) * p2 i) = _; simp
    have hV : p2 (-400) ≤ val x := hV.resolve_left (by rw [hvx]; exact Rat.ne_of_gt hmp)
    generalize hmore : 2 * 54 - m.log2 + ((i - ((2 * 54 - m.log2 : Nat) : Int)) % 2).toNat = more
    have hpar : (i - (more : Int)) % 2 = 0 := by omega
    have hge : 2 * 54 ≤ m.log2 + more := by omega
    generalize hw : Ieee.Datum.rootFrom (m * 2 ^ more) ((m * 2 ^ more).log2 / 2 + 1) 0 = w
    have e : FloatKind.f64.format.sqrt x.bits = some (FloatKind.f64.format.write (.number false (2 * w + (w * w != m * 2 ^ more).toNat) ((i - (more : Int)) / 2 - 1))) := by
      unfold Ieee.Format.sqrt
      rw [ex]
      show Option.map _ (if m = 0 then _ else _) = _
      rw [if_neg hm]
      simp only [Bool.false_eq_true, if_false, Option.map_some]
      have e54 : FloatKind.f64.format.fractionBits + 2 = 54 := rfl
      rw [e54, hmore]
      simp only [Nat.shiftLeft_eq, hw]
    have r1 := rootFrom_le (m * 2 ^ more) ((m * 2 ^ more).log2 / 2 + 1) 0 (by omega)
    have r2 := rootFrom_gt (m * 2 ^ more) ((m * 2 ^ more).log2 / 2 + 1) 0 (by
      rw [Nat.zero_add, ← Nat.pow_add]
      refine Nat.lt_of_lt_of_le log2_lt_pow (Nat.pow_le_pow_right (by omega) (by omega)))
    rw [hw] at r1 r2
    have r3 : 2 ^ (2 * 54) ≤ m * 2 ^ more := by
      refine Nat.le_trans (Nat.pow_le_pow_right (by omega) hge) ?_
      rw [Nat.pow_add]
      exact Nat.mul_le_mul_right _ (pow_log2_le hm)
    have hrv := root_val (m := m) (n := m * 2 ^ more) (w := w) (digits := 54) (i := i) (more := (more : Int)) (by simp) (by omega) r1 r2 r3 hpar
    rw [← hvx] at hrv
    have hdv : dv (.number false (2 * w + (w * w != m * 2 ^ more).toNat) ((i - (more : Int)) / 2 - 1)) = ((2 * w + (w * w != m * 2 ^ more).toNat : Nat) : Rat) * p2 ((i - (more : Int)) / 2 - 1) := by
      show (if false = true then (-1 : Rat) else 1) * _ = _
      simp
    generalize hR : ((2 * w + (w * w != m * 2 ^ more).toNat : Nat) : Rat) * p2 ((i - (more : Int)) / 2 - 1) = R at *
    have hR0 : 0 ≤ R := by rw [← hR]; exact Rat.mul_nonneg Rat.natCast_nonneg (Rat.le_of_lt (p2_pos _))
    have e54 : p2 (-((54 : Nat) : Int)) = 1 / 18014398509481984 := p2v54
    have hrv : (R * R - val x).abs ≤ val x * (1 / 18014398509481984) := by rw [← e54]; exact hrv
    obtain ⟨a1, a2⟩ := abs_bounds hrv
    have hRlt : R < p2 100 := by
      refine lt_of_sq (Rat.le_of_lt (p2_pos _)) ?_
      rw [← p2_add]
      have h1 : p2 (100 + 100) = p2 190 * 1024 := by rw [show (1024 : Rat) = p2 10 by decide +kernel, ← p2_add]; rfl
      rw [h1]
      have := p2_pos 190
      grind
    have hRge : p2 (-202) ≤ R := by
      refine le_of_sq hR0 ?_
      rw [← p2_add]
      have h1 : p2 (-202 + -202) * 16 = p2 (-400) := by rw [show (16 : Rat) = p2 4 by decide +kernel, ← p2_add]; rfl
      have := p2_pos (-202 + -202)
      grind
    obtain ⟨g1, g2, g3, g4⟩ := op_val (h := fun _ h => FloatKind.f64.format.sqrt_lt h) e (by rw [hdv, Rat.abs_of_nonneg hR0]; exact hRlt)
    have g1 : Num x.sqrt := g1
    have g3 : 0 ≤ val x.sqrt := g3 (by rw [hdv]; exact hR0)
    refine ⟨g1, g3, ?_⟩
    have g2 : (val x.sqrt - R).abs ≤ er FloatKind.f64.format R := by rw [← hdv]; exact g2
    refine sq_near hR0 h0 (Rat.le_trans g2 ?_) hrv
    unfold er
    rw [Rat.abs_of_nonneg hR0]
    have e1 : p2 (-((FloatKind.f64.format.fractionBits : Nat) : Int)) = 1 / 4503599627370496 := p2v52
    have e2 : p2 FloatKind.f64.format.leastPlace ≤ p2 (-202) * (1 / 4503599627370496) := by rw [← p2v52, ← p2_add]; exact p2_mono (by decide)
    rw [e1]
    grind
/-! Signs. -/
theorem read_opp {f : Ieee.Format} {a b : Nat} (h1 : b % f.signWeight = a % f.signWeight) (h2 : (b / f.signWeight % 2 == 1) = !(a / f.signWeight % 2 == 1)) : f.read b = (f.read a).opposite := by
  unfold Ieee.Format.read
  dsimp only
  rw [h1, h2]
  split
  · rfl
  · split
    · rfl
    · split <;> rfl
theorem xor_sign (b n : Nat) : ((b ^^^ 2 ^ n) / 2 ^ n % 2 == 1) = !(b / 2 ^ n % 2 == 1) := by
  have e : ∀ a : Nat, (a / 2 ^ n % 2 == 1) = a.testBit n := by
    intro a
    rw [Nat.testBit_eq_decide_div_mod_eq]
    rfl
  rw [e, e, Nat.testBit_xor, Nat.testBit_two_pow_self, Bool.xor_true]
theorem neg_read {k : FloatKind} {x : Fl k} {s : Bool} {m : Nat} {p : Int} (h : k.format.read x.bits = .number s m p) : k.format.read x.neg.bits = .number (!s) m p := by
  have hm : Op.negFloat k x.bits % k.format.signWeight = x.bits % k.format.signWeight := by
    unfold Op.negFloat Ieee.Format.signWeight
    exact xor_top _ _
  have hs : (Op.negFloat k x.bits / k.format.signWeight % 2 == 1) = !(x.bits / k.format.signWeight % 2 == 1) := by
    unfold Op.negFloat Ieee.Format.signWeight
    exact xor_sign _ _
  have hr := read_opp hm hs
  rw [h] at hr
  show k.format.read (canonF k (Op.negFloat k x.bits)) = _
  rw [canonF_num (by unfold nanB; show (k.format.read _).isNaN = false; rw [hr]; rfl), hr]
  rfl
theorem neg_val {k : FloatKind} {x : Fl k} (hx : Num x) : Num x.neg ∧ val x.neg = -val x := by
  obtain ⟨s, m, p, h⟩ := hx
  have := neg_read h
  refine ⟨.of this, ?_⟩
  rw [val_of this, val_of h, dv_opp]
theorem dv_false (s : Bool) (m : Nat) (p : Int) : dv (.number false m p) = (dv (.number s m p)).abs := by
  have h0 : 0 ≤ (m : Rat) * p2 p := Rat.mul_nonneg Rat.natCast_nonneg (Rat.le_of_lt (p2_pos p))
  show (if false = true then (-1 : Rat) else 1) * ((m : Rat) * p2 p) = ((if s = true then (-1 : Rat) else 1) * ((m : Rat) * p2 p)).abs
  rw [sgn_abs s h0]; simp
theorem abs_val {x : F64} (hx : Num x) : Num x.abs ∧ val x.abs = (val x).abs := by
  obtain ⟨s, m, p, h⟩ := hx
  have := read_abs h
  refine ⟨.of (k := .f64) this, ?_⟩
  rw [val_of (k := .f64) this, val_of h, dv_false s]
theorem abs32_val {x : F32} (hx : Num x) : Num x.abs32 ∧ val x.abs32 = (val x).abs := by
  obtain ⟨s, m, p, h⟩ := hx
  have hm : x.bits % 2147483648 % Ieee.single.signWeight = x.bits % Ieee.single.signWeight := by rw [s_sw]; omega
  have h' : Ieee.single.read x.bits = .number s m p := h
  have hr : Ieee.single.read (x.bits % 2147483648) = .number false m p := by
    unfold Ieee.Format.read at h' ⊢
    dsimp only at h' ⊢
    rw [hm]
    rw [show (x.bits % 2147483648 / Ieee.single.signWeight % 2 == 1) = false by rw [s_sw, Nat.div_eq_of_lt (Nat.mod_lt _ (by omega))]; rfl]
    by_cases h1 : x.bits % Ieee.single.signWeight < Ieee.single.binade
    · rw [if_pos h1] at h' ⊢; cases h'; rfl
    · rw [if_neg h1] at h' ⊢
      by_cases h2 : x.bits % Ieee.single.signWeight < Ieee.single.infRung
      · rw [if_pos h2] at h' ⊢; cases h'; rfl
      · rw [if_neg h2] at h'
        split at h' <;> cases h'
  have hr2 : FloatKind.f32.format.read x.abs32.bits = .number false m p := by
    show Ieee.single.read (canonF .f32 (x.bits % 2147483648)) = _
    rw [canonF_num (show nanB .f32 _ = false by unfold nanB; show (Ieee.single.read _).isNaN = false; rw [hr]; rfl)]
    exact hr
  refine ⟨.of hr2, ?_⟩
  rw [val_of hr2, val_of h, dv_false s]
/-! From one kind to the other. -/
theorem narrow_val {x : F64} (hx : Num x) (hb : (val x).abs < p2 100) : (convBits .f64 x.bits .f32).isSome = true ∧ Num (Fl.cv .f64 .f32 x) ∧ (val (Fl.cv .f64 .f32 x) - val x).abs ≤ er Ieee.single (val x) ∧ (0 ≤ val x → 0 ≤ val (Fl.cv .f64 .f32 x)) ∧ (val x ≤ 0 → val (Fl.cv .f64 .f32 x) ≤ 0) := by
  obtain ⟨s, m, p, h⟩ := hx
  rw [val_of h] at hb ⊢
  obtain ⟨m', p', e1, e2, e3, e4⟩ := write_val .f32 hb
  have hc := cvn_number (h : Ieee.double.read x.bits = _) (r := Ieee.single.nearest s m p) rfl ⟨s, m', p', e1⟩
  have hr : FloatKind.f32.format.read (Fl.cv .f64 .f32 x).bits = .number s m' p' := by
    show Ieee.single.read ((convBits .f64 x.bits .f32).getD 0) = _
    rw [hc]; exact e1
  refine ⟨by rw [hc]; rfl, .of hr, ?_⟩
  rw [val_of hr]
  exact ⟨e2, e3, e4⟩
theorem same_val {m M : Nat} {p E : Int} (h : SameV m p M E) : (m : Rat) * p2 p = (M : Rat) * p2 E := by
  unfold SameV at h
  rw [p2_sub (Int.min_le_left p E), p2_sub (Int.min_le_right p E)]
  have := congrArg (fun n : Nat => (n : Rat)) h
  simp only [Rat.natCast_mul] at this
  generalize ((2 ^ (p - min p E).toNat : Nat) : Rat) = a at *
  generalize ((2 ^ (E - min p E).toNat : Nat) : Rat) = b at *
  grind
theorem widen_val {x : F32} (hx : Num x) : Num (Fl.cv .f32 .f64 x) ∧ val (Fl.cv .f32 .f64 x) = val x := by
  obtain ⟨s0, m0, p0, e0⟩ := hx
  have e0' : Ieee.single.read x.bits = .number s0 m0 p0 := e0
  rcases wide x with ⟨h, h2⟩ | ⟨s, h, h2⟩ | ⟨s, h, h2⟩ | ⟨s, r, R, m, M, p, E, h0, h1, h2, h3, h4, h5, h6, h7, h7', h8, h9, h10, h11, h12, h13, h14, h15⟩
  · have : nanB .f32 x.bits = false := by unfold nanB; show (FloatKind.f32.format.read x.bits).isNaN = false; rw [e0]; rfl
    rw [h] at this; cases this
  · rw [h] at e0'
    have : Ieee.single.read (Ieee.single.word s 2139095040) = .infinity s := by cases s <;> decide
    rw [this] at e0'; cases e0'
  · have q1 : Ieee.single.read (Ieee.single.word s 0) = .number s 0 (-149) := by cases s <;> decide
    have q2 := word_zero s
    have r1 : FloatKind.f32.format.read x.bits = .number s 0 (-149) := by rw [h]; exact q1
    have r2 : FloatKind.f64.format.read (Fl.cv .f32 .f64 x).bits = .number s 0 (-1074) := by rw [h2]; exact q2
    refine ⟨.of r2, ?_⟩
    rw [val_of r1, val_of r2]
    show (if s = true then (-1 : Rat) else 1) * (((0 : Nat) : Rat) * p2 (-1074)) = (if s = true then (-1 : Rat) else 1) * (((0 : Nat) : Rat) * p2 (-149))
    simp
  · have r2 : FloatKind.f64.format.read (Fl.cv .f32 .f64 x).bits = .number s M E := h15
    refine ⟨.of r2, ?_⟩
    obtain ⟨m', p', q1, q2, q3, q4, q5, q6⟩ := s_read (s := s) h1
    have hmp : m' = m ∧ p' = p := by
      have k1 : p' = p := by
        rcases q5 with q5 | q5 <;> rcases h7 with h7 | h7 <;> omega
      subst k1
      exact ⟨by omega, rfl⟩
    rw [hmp.1, hmp.2] at q1
    have r1 : FloatKind.f32.format.read x.bits = .number s m p := by rw [h2]; exact q1
    rw [val_of r1, val_of r2]
    show (if s = true then (-1 : Rat) else 1) * ((M : Rat) * p2 E) = (if s = true then (-1 : Rat) else 1) * ((m : Rat) * p2 p)
    rw [same_val h12]
/-! Comparisons. -/
theorem cmp_lt {a b : Int} (h : a < b) : compare a b = .lt := Int.compare_eq_lt.2 h
theorem cmp_gt {a b : Int} (h : b < a) : compare a b = .gt := Int.compare_eq_gt.2 h
theorem cmp_eq (a : Int) : compare a a = .eq := by simp
theorem order_val {k : FloatKind} {x y : Fl k} (hx : Num x) (hy : Num y) : ∃ o, k.format.order x.bits y.bits = some o ∧ (o = .lt ↔ val x < val y) ∧ (o = .eq ↔ val x = val y) ∧ (o = .gt ↔ val y < val x) := by
  obtain ⟨s, m, i, ex⟩ := hx
  obtain ⟨t, n, j, ey⟩ := hy
  refine ⟨compare (Ieee.signed s m (i - min i j).toNat) (Ieee.signed t n (j - min i j).toNat), by unfold Ieee.Format.order; rw [ex, ey]; rfl, ?_⟩
  rw [val_of ex, val_of ey, dv_signed (Int.min_le_left i j), dv_signed (Int.min_le_right i j)]
  have hp := p2_pos (min i j)
  generalize p2 (min i j) = u at *
  generalize Ieee.signed s m (i - min i j).toNat = a
  generalize Ieee.signed t n (j - min i j).toNat = b
  have hlt : ∀ a b : Int, a < b → (a : Rat) * u < (b : Rat) * u := fun a b h => Rat.mul_lt_mul_of_pos_right (Rat.intCast_lt_intCast.2 h) hp
  rcases Int.lt_trichotomy a b with h | h | h
  · rw [cmp_lt h]
    have := hlt _ _ h
    refine ⟨by simp [this], ?_, ?_⟩
    · simp; exact Rat.ne_of_lt this
    · simp; exact Rat.not_lt.2 (Rat.le_of_lt this)
  · subst h
    rw [cmp_eq]
    exact ⟨by simp [Rat.lt_irrefl], by simp, by simp [Rat.lt_irrefl]⟩
  · rw [cmp_gt h]
    have := hlt _ _ h
    refine ⟨?_, ?_, by simp [this]⟩
    · simp; exact Rat.not_lt.2 (Rat.le_of_lt this)
    · simp; exact Rat.ne_of_gt this
theorem lt_val {k : FloatKind} {x y : Fl k} (hx : Num x) (hy : Num y) : x.lt' y = true ↔ val x < val y := by
  obtain ⟨o, e, h1, h2, h3⟩ := order_val hx hy
  show (k.format.order x.bits y.bits == some .lt) = true ↔ _
  rw [e, ← h1]; cases o <;> simp
theorem gt_val {k : FloatKind} {x y : Fl k} (hx : Num x) (hy : Num y) : x.gt y = true ↔ val y < val x := by
  obtain ⟨o, e, h1, h2, h3⟩ := order_val hx hy
  show (k.format.order x.bits y.bits == some .gt) = true ↔ _
  rw [e, ← h3]; cases o <;> simp
theorem eq_val {k : FloatKind} {x y : Fl k} (hx : Num x) (hy : Num y) : x.eq y = true ↔ val x = val y := by
  obtain ⟨o, e, h1, h2, h3⟩ := order_val hx hy
  show (k.format.order x.bits y.bits == some .eq) = true ↔ _
  rw [e, ← h2]; cases o <;> simp
theorem ne_val {k : FloatKind} {x y : Fl k} (hx : Num x) (hy : Num y) : x.ne y = true ↔ val x ≠ val y := by
  rw [show x.ne y = !x.eq y from rfl, Bool.not_eq_true', ← Bool.not_eq_true, eq_val hx hy]
theorem le_val {k : FloatKind} {x y : Fl k} (hx : Num x) (hy : Num y) : x.le y = true ↔ val x ≤ val y := by
  obtain ⟨o, e, h1, h2, h3⟩ := order_val hx hy
  show (k.format.order x.bits y.bits == some .lt || k.format.order x.bits y.bits == some .eq) = true ↔ _
  rw [e]
  rw [← Rat.not_lt, ← h3]; cases o <;> simp
theorem ge_val {k : FloatKind} {x y : Fl k} (hx : Num x) (hy : Num y) : x.ge y = true ↔ val y ≤ val x := by
  obtain ⟨o, e, h1, h2, h3⟩ := order_val hx hy
  show (k.format.order x.bits y.bits == some .gt || k.format.order x.bits y.bits == some .eq) = true ↔ _
  rw [e]
  rw [← Rat.not_lt, ← h1]; cases o <;> simp
/-! What is no number. -/
end Go.Fw
