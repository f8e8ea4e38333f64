/- The order of floats is that of their rungs with their signs. -/
import Derived.Test.YtldifaphfgmbiaaFwLW
import Derived.Test.YtldifaphfgmbiaaFwFC
namespace Go.Fw
open Go

/-- The rung of a word with its sign. -/
def keyW (f : Ieee.Format) (x : Nat) : Int := if x / f.signWeight % 2 == 1 then -((x % f.signWeight : Nat) : Int) else ((x % f.signWeight : Nat) : Int)
theorem read_kind {f : Ieee.Format} {x : Nat} (h : (f.read x).isNaN = false) :
    (∃ (m e : Nat), f.read x = .number (x / f.signWeight % 2 == 1) m (f.leastPlace + (e : Int)) ∧ m < 2 * f.binade ∧ (e = 0 ∨ f.binade ≤ m) ∧ x % f.signWeight = e * f.binade + m ∧ (x % f.signWeight < f.binade ∨ x % f.signWeight < f.infRung)) ∨
    (f.read x = .infinity (x / f.signWeight % 2 == 1) ∧ x % f.signWeight = f.infRung ∧ f.binade ≤ f.infRung) := by
  have hb : 0 < f.binade := Nat.two_pow_pos _
  unfold Ieee.Format.read at h ⊢
  dsimp only at h ⊢
  by_cases h1 : x % f.signWeight < f.binade
  · rw [if_pos h1]
    exact .inl ⟨x % f.signWeight, 0, by simp, by omega, .inl rfl, by simp, .inl h1⟩
  rw [if_neg h1] at h ⊢
  by_cases h2 : x % f.signWeight < f.infRung
  · rw [if_pos h2]
    refine .inl ⟨f.binade + x % f.signWeight % f.binade, x % f.signWeight / f.binade - 1, rfl, ?_, .inr (Nat.le_add_right _ _), ?_, .inr h2⟩
    · have := Nat.mod_lt (x % f.signWeight) hb; omega
    · have h3 := Nat.div_add_mod (x % f.signWeight) f.binade
      have hd : 1 ≤ x % f.signWeight / f.binade := (Nat.one_le_div_iff hb).2 (by omega)
      obtain ⟨q, hq⟩ : ∃ q, x % f.signWeight / f.binade = q + 1 := ⟨x % f.signWeight / f.binade - 1, by omega⟩
      rw [hq] at h3 ⊢
      rw [Nat.add_sub_cancel]
      rw [Nat.mul_add, Nat.mul_one, Nat.mul_comm] at h3
      omega
  rw [if_neg h2] at h ⊢
  by_cases h3 : x % f.signWeight = f.infRung
  · rw [if_pos h3]
    exact .inr ⟨rfl, h3, by omega⟩
  · rw [if_neg h3] at h; cases h
theorem rung_step {B m n e d : Nat} (hm : m < 2 * B) (hn : B ≤ n) (h : e < d) : m * 2 ^ e < n * 2 ^ d ∧ e * B + m < d * B + n := by
  obtain ⟨k, rfl⟩ : ∃ k, d = e + 1 + k := ⟨d - (e + 1), by omega⟩
  constructor
  · have h1 : m * 2 ^ e < 2 * B * 2 ^ e := Nat.mul_lt_mul_of_pos_right hm (Nat.two_pow_pos e)
    have h2 : 2 * B * 2 ^ e = B * 2 ^ (e + 1) := by rw [Nat.pow_succ, Nat.mul_comm 2 B, Nat.mul_assoc, Nat.mul_comm 2]
    have h3 : B * 2 ^ (e + 1) ≤ n * 2 ^ (e + 1 + k) := Nat.mul_le_mul hn (Nat.pow_le_pow_right (by omega) (by omega))
    omega
  · have h1 : (e + 1 + k) * B = e * B + B + k * B := by rw [Nat.add_mul, Nat.add_mul, Nat.one_mul]
    omega
theorem rung_cmp {B m n e d : Nat} (hm : m < 2 * B) (hn : n < 2 * B) (he : e = 0 ∨ B ≤ m) (hd : d = 0 ∨ B ≤ n) :
    (e * B + m < d * B + n → m * 2 ^ e < n * 2 ^ d) ∧ (e * B + m = d * B + n → m * 2 ^ e = n * 2 ^ d) := by
  rcases Nat.lt_trichotomy e d with h | h | h
  · have := rung_step hm (by omega : B ≤ n) h
    exact ⟨fun _ => this.1, fun h => by omega⟩
  · subst h
    exact ⟨fun h => Nat.mul_lt_mul_of_pos_right (by omega) (Nat.two_pow_pos e), fun h => by rw [show m = n by omega]⟩
  · have := rung_step hn (by omega : B ≤ m) h
    exact ⟨fun h => by omega, fun h => by omega⟩
theorem compare_lt' {a b : Int} (h : a < b) : compare a b = .lt := Int.compare_eq_lt.2 h
theorem compare_gt' {a b : Int} (h : b < a) : compare a b = .gt := Int.compare_eq_gt.2 h
theorem compare_eq' {a b : Int} (h : a = b) : compare a b = .eq := by subst h; simp
theorem compare_congr {a b c d : Int} (h1 : c < d → a < b) (h2 : c = d → a = b) (h3 : d < c → b < a) : compare a b = compare c d := by
  rcases Int.lt_trichotomy c d with h | h | h
  · rw [compare_lt' h, compare_lt' (h1 h)]
  · rw [compare_eq' h, compare_eq' (h2 h)]
  · rw [compare_gt' h, compare_gt' (h3 h)]
/-- Two floats that are numbers stand as their rungs do. -/
theorem order_key {f : Ieee.Format} (hI : f.binade ≤ f.infRung) {x y : Nat} (hx : (f.read x).isNaN = false) (hy : (f.read y).isNaN = false) : f.order x y = some (compare (keyW f x) (keyW f y)) := by
  have hb : 0 < f.binade := Nat.two_pow_pos _
  unfold Ieee.Format.order keyW
  rcases read_kind hx with ⟨m, e, r1, r2, r3, r4, r5⟩ | ⟨r1, r2, _⟩ <;> rcases read_kind hy with ⟨n, d, q1, q2, q3, q4, q5⟩ | ⟨q1, q2, _⟩ <;> rw [r1, q1]
  · generalize (x / f.signWeight % 2 == 1) = s at *
    generalize (y / f.signWeight % 2 == 1) = t at *
    generalize x % f.signWeight = r at *
    generalize y % f.signWeight = q at *
    show some (compare (Ieee.signed s m (f.leastPlace + (e : Int) - min (f.leastPlace + (e : Int)) (f.leastPlace + (d : Int))).toNat) (Ieee.signed t n (f.leastPlace + (d : Int) - min (f.leastPlace + (e : Int)) (f.leastPlace + (d : Int))).toNat)) = _
    rw [show (f.leastPlace + (e : Int) - min (f.leastPlace + (e : Int)) (f.leastPlace + (d : Int))).toNat = e - min e d by omega, show (f.leastPlace + (d : Int) - min (f.leastPlace + (e : Int)) (f.leastPlace + (d : Int))).toNat = d - min e d by omega]
    have hc : ∀ (a : Nat) (k : Nat), min e d ≤ k → a * 2 ^ k = a * 2 ^ (k - min e d) * 2 ^ min e d := by
      intro a k hk
      rw [Nat.mul_assoc, ← Nat.pow_add, Nat.sub_add_cancel hk]
    have c1 := rung_cmp r2 q2 r3 q3
    have c2 := rung_cmp q2 r2 q3 r3
    rw [hc m e (Nat.min_le_left ..), hc n d (Nat.min_le_right ..)] at c1 c2
    have hp := Nat.two_pow_pos (min e d)
    have z1 : r = 0 ∨ 0 < m * 2 ^ (e - min e d) := by
      by_cases h : m = 0
      · left
        rcases r3 with r3 | r3
        · subst r3; subst h; simpa using r4
        · omega
      · right; exact Nat.mul_pos (by omega) (Nat.two_pow_pos _)
    have z2 : q = 0 ∨ 0 < n * 2 ^ (d - min e d) := by
      by_cases h : n = 0
      · left
        rcases q3 with q3 | q3
        · subst q3; subst h; simpa using q4
        · omega
      · right; exact Nat.mul_pos (by omega) (Nat.two_pow_pos _)
    have z3 : r = 0 → m * 2 ^ (e - min e d) = 0 := fun h => by rw [show m = 0 by omega, Nat.zero_mul]
    have z4 : q = 0 → n * 2 ^ (d - min e d) = 0 := fun h => by rw [show n = 0 by omega, Nat.zero_mul]
    unfold Ieee.signed
    rw [Nat.shiftLeft_eq, Nat.shiftLeft_eq]
    rw [← r4, ← q4] at c1 c2
    generalize m * 2 ^ (e - min e d) = a at *
    generalize n * 2 ^ (d - min e d) = b at *
    have d1 : r < q → a < b := fun h => Nat.lt_of_mul_lt_mul_right (c1.1 h)
    have d2 : r = q → a = b := fun h => Nat.eq_of_mul_eq_mul_right hp (c1.2 h)
    have d3 : q < r → b < a := fun h => Nat.lt_of_mul_lt_mul_right (c2.1 h)
    congr 1
    cases s <;> cases t <;> simp only [Bool.false_eq_true, if_false, if_true] <;> apply compare_congr <;> omega
  · show some (if (y / f.signWeight % 2 == 1) = true then Ordering.gt else Ordering.lt) = _
    congr 1
    cases (x / f.signWeight % 2 == 1) <;> cases (y / f.signWeight % 2 == 1) <;> simp only [Bool.false_eq_true, if_false, if_true] <;> symm <;> first | (apply compare_lt'; omega) | (apply compare_gt'; omega)
  · show some (if (x / f.signWeight % 2 == 1) = true then Ordering.lt else Ordering.gt) = _
    congr 1
    cases (x / f.signWeight % 2 == 1) <;> cases (y / f.signWeight % 2 == 1) <;> simp only [Bool.false_eq_true, if_false, if_true] <;> symm <;> first | (apply compare_lt'; omega) | (apply compare_gt'; omega)
  · rw [r2, q2]
    cases (x / f.signWeight % 2 == 1) <;> cases (y / f.signWeight % 2 == 1) <;> simp only [Bool.false_eq_true, if_false, if_true]
    · rw [compare_eq' rfl]; rfl
    · rw [compare_gt' (by omega)]; rfl
    · rw [compare_lt' (by omega)]; rfl
    · rw [compare_eq' rfl]; rfl

/-- The key of a single float. -/
def key (x : F32) : Int := keyW Ieee.single x.bits
def isN (x : F32) : Bool := nanB .f32 x.bits
theorem order_nan (x y : F32) (h : isN x = true ∨ isN y = true) : FloatKind.f32.format.order x.bits y.bits = none := by
  unfold Ieee.Format.order
  rcases h with h | h
  · obtain ⟨s, t, h⟩ := read_nan h
    rw [h]; rfl
  · obtain ⟨s, t, h⟩ := read_nan h
    rw [h]; exact order_nan_right _ _ _
theorem order_f32 {x y : F32} (hx : isN x = false) (hy : isN y = false) : FloatKind.f32.format.order x.bits y.bits = some (compare (key x) (key y)) := by
  exact order_key (f := Ieee.single) (by decide) hx hy
theorem gt_key {x y : F32} : x.gt y = true ↔ isN x = false ∧ isN y = false ∧ key y < key x := by
  show (FloatKind.f32.format.order x.bits y.bits == some .gt) = true ↔ _
  cases hx : isN x
  · cases hy : isN y
    · rw [order_f32 hx hy]
      rcases Int.lt_trichotomy (key x) (key y) with h | h | h
      · rw [compare_lt' h]; simp; omega
      · rw [compare_eq' h]; simp; omega
      · rw [compare_gt' h]; simp; exact h
    · rw [order_nan x y (.inr hy)]; simp
  · rw [order_nan x y (.inl hx)]; simp
theorem lt_key {x y : F32} : x.lt' y = true ↔ isN x = false ∧ isN y = false ∧ key x < key y := by
  show (FloatKind.f32.format.order x.bits y.bits == some .lt) = true ↔ _
  cases hx : isN x
  · cases hy : isN y
    · rw [order_f32 hx hy]
      rcases Int.lt_trichotomy (key x) (key y) with h | h | h
      · rw [compare_lt' h]; simp; exact h
      · rw [compare_eq' h]; simp; omega
      · rw [compare_gt' h]; simp; omega
    · rw [order_nan x y (.inr hy)]; simp
  · rw [order_nan x y (.inl hx)]; simp
theorem eq_key {x y : F32} : x.eq y = true ↔ isN x = false ∧ isN y = false ∧ key x = key y := by
  show (FloatKind.f32.format.order x.bits y.bits == some .eq) = true ↔ _
  cases hx : isN x
  · cases hy : isN y
    · rw [order_f32 hx hy]
      rcases Int.lt_trichotomy (key x) (key y) with h | h | h
      · rw [compare_lt' h]; simp; omega
      · rw [compare_eq' h]; simp; exact h
      · rw [compare_gt' h]; simp; omega
    · rw [order_nan x y (.inr hy)]; simp
  · rw [order_nan x y (.inl hx)]; simp
theorem ge_key {x y : F32} : x.ge y = true ↔ isN x = false ∧ isN y = false ∧ key y ≤ key x := by
  show (FloatKind.f32.format.order x.bits y.bits == some .gt || FloatKind.f32.format.order x.bits y.bits == some .eq) = true ↔ _
  cases hx : isN x
  · cases hy : isN y
    · rw [order_f32 hx hy]
      rcases Int.lt_trichotomy (key x) (key y) with h | h | h
      · rw [compare_lt' h]; simp; omega
      · rw [compare_eq' h]; simp; omega
      · rw [compare_gt' h]; simp; omega
    · rw [order_nan x y (.inr hy)]; simp
  · rw [order_nan x y (.inl hx)]; simp

theorem key_sign (x : F32) : key x = if 2147483648 ≤ x.bits then -((x.bits - 2147483648 : Nat) : Int) else (x.bits : Int) := by
  have h := x.lt
  have e : 2 ^ FloatKind.f32.format.width = 4294967296 := by decide
  unfold key keyW
  rw [s_sw]
  by_cases g : 2147483648 ≤ x.bits
  · rw [if_pos g, if_pos (by rw [show x.bits / 2147483648 = 1 by omega]; rfl)]; omega
  · rw [if_neg g, if_neg (by rw [show x.bits / 2147483648 = 0 by omega]; decide)]; omega
theorem key_zero {z : F32} (h : z.bits = 0) : key z = 0 ∧ isN z = false := by
  refine ⟨by rw [key_sign, h]; rfl, ?_⟩
  unfold isN; rw [h]; decide
theorem nan_mod {b : Nat} (_ : b < 4294967296) : nanB .f32 (b % 2147483648) = nanB .f32 b := by
  unfold nanB
  show (Ieee.single.read (b % 2147483648)).isNaN = (Ieee.single.read b).isNaN
  unfold Ieee.Format.read
  rw [s_sw, s_bin, s_inf, Nat.mod_mod]
  dsimp only
  split
  · rfl
  · split
    · rfl
    · split <;> rfl
theorem bits_lt (x : F32) : x.bits < 4294967296 := by
  have h := x.lt
  have e : 2 ^ FloatKind.f32.format.width = 4294967296 := by decide
  omega
theorem key_abs {x : F32} (h : isN x = false) : isN x.abs32 = false ∧ key x.abs32 = if key x < 0 then -key x else key x := by
  have e2 : x.abs32.bits = canonF .f32 (x.bits % 2147483648) := rfl
  have hx := bits_lt x
  have hn : nanB .f32 (x.bits % 2147483648) = false := by rw [nan_mod hx]; exact h
  rw [canonF_num hn] at e2
  refine ⟨by unfold isN; rw [e2]; exact hn, ?_⟩
  rw [key_sign, key_sign, e2, if_neg (by omega)]
  by_cases g : 2147483648 ≤ x.bits
  · rw [if_pos g]; split <;> omega
  · rw [if_neg g]; split <;> omega
theorem abs_nan {x : F32} (h : isN x = true) : isN x.abs32 = true := by
  have e2 : x.abs32.bits = canonF .f32 (x.bits % 2147483648) := rfl
  unfold isN at h ⊢
  rw [e2, nanB_canonF, nan_mod (bits_lt x)]; exact h
theorem neg_word {b : Nat} (hb : b < 4294967296) : Op.negFloat .f32 b = if 2147483648 ≤ b then b - 2147483648 else b + 2147483648 := by
  have e : Op.negFloat .f32 b = b ^^^ 2 ^ 31 := rfl
  rw [e]
  apply Nat.eq_of_testBit_eq
  intro i
  by_cases g : 2147483648 ≤ b
  · rw [if_pos g]
    obtain ⟨r, rfl⟩ : ∃ r, b = 2 ^ 31 + r := ⟨b - 2 ^ 31, by omega⟩
    have hr : r < 2 ^ 31 := by omega
    rw [show 2 ^ 31 + r - 2147483648 = r by omega, Nat.testBit_xor]
    by_cases hi : i = 31
    · subst hi
      rw [Nat.testBit_two_pow_add_eq, Nat.testBit_lt_two_pow hr, Nat.testBit_two_pow_self]; rfl
    · rw [Nat.testBit_two_pow_of_ne (by omega), Bool.xor_false]
      by_cases hi2 : i < 31
      · rw [Nat.testBit_two_pow_add_gt hi2]
      · have h1 : r < 2 ^ i := Nat.lt_of_lt_of_le hr (Nat.pow_le_pow_right (by omega) (by omega))
        have h2 : 2 ^ 31 + r < 2 ^ i := by
          have : 2 ^ 32 ≤ 2 ^ i := Nat.pow_le_pow_right (by omega) (by omega)
          omega
        rw [Nat.testBit_lt_two_pow h1, Nat.testBit_lt_two_pow h2]
  · rw [if_neg g]
    have hr : b < 2 ^ 31 := by omega
    rw [show b + 2147483648 = 2 ^ 31 + b by omega, Nat.testBit_xor]
    by_cases hi : i = 31
    · subst hi
      rw [Nat.testBit_two_pow_add_eq, Nat.testBit_lt_two_pow hr, Nat.testBit_two_pow_self]; rfl
    · rw [Nat.testBit_two_pow_of_ne (by omega), Bool.xor_false]
      by_cases hi2 : i < 31
      · rw [Nat.testBit_two_pow_add_gt hi2]
      · have h1 : b < 2 ^ i := Nat.lt_of_lt_of_le hr (Nat.pow_le_pow_right (by omega) (by omega))
        have h2 : 2 ^ 31 + b < 2 ^ i := by
          have : 2 ^ 32 ≤ 2 ^ i := Nat.pow_le_pow_right (by omega) (by omega)
          omega
        rw [Nat.testBit_lt_two_pow h1, Nat.testBit_lt_two_pow h2]
theorem key_neg {x : F32} (h : isN x = false) : isN x.neg = false ∧ key x.neg = -key x := by
  have hx := bits_lt x
  have e2 : x.neg.bits = canonF .f32 (Op.negFloat .f32 x.bits) := rfl
  have hw := neg_word hx
  have hm : Op.negFloat .f32 x.bits % 2147483648 = x.bits % 2147483648 := by rw [hw]; split <;> omega
  have hl : Op.negFloat .f32 x.bits < 4294967296 := by rw [hw]; split <;> omega
  have hn : nanB .f32 (Op.negFloat .f32 x.bits) = false := by rw [← nan_mod hl, hm, nan_mod hx]; exact h
  rw [canonF_num hn] at e2
  refine ⟨by unfold isN; rw [e2]; exact hn, ?_⟩
  rw [key_sign, key_sign, e2, hw]
  by_cases g : 2147483648 ≤ x.bits
  · rw [if_pos g, if_pos g, if_neg (by omega)]; omega
  · rw [if_neg g, if_neg g, if_pos (by omega)]; omega
end Go.Fw
