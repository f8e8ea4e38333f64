/- The order of floats is that of their rungs with their signs. -/
import Derived.Test.YtcgakaboochpaaeDoorFwLW
import Derived.Test.YtcgakaboochpaaeDoorFwFC
namespace Go.Fw
open Go

/-- The rung of a word with its sign. -/
def keyW (f : Ieee.Format) (x : Nat) : Int := if x / f.signWeight % 2 == 1 then -((x % f.signWeight : Nat) : Int) else ((x % f.signWeight : Nat) : Int)
theorem read_kind {f : Ieee.Format} {x : Nat} (h : (f.read x).isNaN = false) :
    (∃ (m e : Nat), f.read x = .number (x / f.signWeight % 2 == 1) m (f.leastPlace + (e : Int)) ∧ m < 2 * f.binade ∧ (e = 0 ∨ f.binade ≤ m) ∧ x % f.signWeight = e * f.binade + m ∧ (x % f.signWeight < f.binade ∨ x % f.signWeight < f.infRung)) ∨
    (f.read x = .infinity (x / f.signWeight % 2 == 1) ∧ x % f.signWeight = f.infRung ∧ f.binade ≤ f.infRung) := by
  have hb : 0 < f.binade := Nat.two_pow_pos _
  unfold Ieee.Format.read at h ⊢
  dsimp only at h ⊢
  by_cases h1 : x % f.signWeight < f.binade
  · rw [if_pos h1]
    exact .inl ⟨x % f.signWeight, 0, by simp, by omega, .inl rfl, by simp, .inl h1⟩
  rw [if_neg h1] at h ⊢
  by_cases h2 : x % f.signWeight < f.infRung
  · rw [if_pos h2]
    refine .inl ⟨f.binade + x % f.signWeight % f.binade, x % f.signWeight / f.binade - 1, rfl, ?_, .inr (Nat.le_add_right _ _), ?_, .inr h2⟩
    · have := Nat.mod_lt (x % f.signWeight) hb; omega
    · have h3 := Nat.div_add_mod (x % f.signWeight) f.binade
      have hd : 1 ≤ x % f.signWeight / f.binade := (Nat.one_le_div_iff hb).2 (by omega)
      obtain ⟨q, hq⟩ : ∃ q, x % f.signWeight / f.binade = q + 1 := ⟨x % f.signWeight / f.binade - 1, by omega⟩
      rw [hq] at h3 ⊢
      rw [Nat.add_sub_cancel]
      rw [Nat.mul_add, Nat.mul_one, Nat.mul_comm] at h3
      omega
  rw [if_neg h2] at h ⊢
  by_cases h3 : x % f.signWeight = f.infRung
  · rw [if_pos h3]
    exact .inr ⟨rfl, h3, by omega⟩
  · rw [if_neg h3] at h; cases h
theorem rung_step {B m n e d : Nat} (hm : m < 2 * B) (hn : B ≤ n) (h : e < d) : m * 2 ^ e < n * 2 ^ d ∧ e * B + m < d * B + n := by
  obtain ⟨k, rfl⟩ : ∃ k, d = e + 1 + k := ⟨d - (e + 1), by omega⟩
  constructor
  · have h1 : m * 2 ^ e < 2 * B * 2 ^ e := Nat.mul_lt_mul_of_pos_right hm (Nat.two_pow_pos e)
    have h2 : 2 * B * 2 ^ e = B * 2 ^ (e + 1) := by rw [Nat.pow_succ, Nat.mul_comm 2 B, Nat.mul_assoc, Nat.mul_comm 2]
    have h3 : B * 2 ^ (e + 1) ≤ n * 2 ^ (e + 1 + k) := Nat.mul_le_mul hn (Nat.pow_le_pow_right (by omega) (by omega))
    omega
  · have h1 : (e + 1 + k) * B = e * B + B + k * B := by rw [Nat.add_mul, Nat.add_mul, Nat.one_mul]
    omega
theorem rung_cmp {B m n e d : Nat} (hm : m < 2 * B) (hn : n < 2 * B) (he : e = 0 ∨ B ≤ m) (hd : d = 0 ∨ B ≤ n) :
    (e * B + m < d * B + n → m * 2 ^ e < n * 2 ^ d) ∧ (e * B + m = d * B + n → m * 2 ^ e = n * 2 ^ d) := by
  rcases Nat.lt_trichotomy e d with h | h | h
  · have := rung_step hm (by omega : B ≤ n) h
    exact ⟨fun _ => this.1, fun h => by omega⟩
  · subst h
    exact ⟨fun h => Nat.mul_lt_mul_of_pos_right (by omega) (Nat.two_pow_pos e), fun h => by rw [show m = n by omega]⟩
  · have := rung_step hn (by omega : B ≤ m) h
    exact ⟨fun h => by omega, fun h => by omega⟩
theorem compare_lt' {a b : Int} (h : a < b) : compare a b = .lt := Int.compare_eq_lt.2 h
theorem compare_gt' {a b : Int} (h : b < a) : compare a b = .gt := Int.compare_eq_gt.2 h
theorem compare_eq' {a b : Int} (h : a = b) : compare a b = .eq := by subst h; simp
theorem compare_congr {a b c d : Int} (h1 : c < d → a < b) (h2 : c = d → a = b) (h3 : d < c → b < a) : compare a b = compare c d := by
  rcases Int.lt_trichotomy c d with h | h | h
  · rw [compare_lt' h, compare_lt' (h1 h)]
  · rw [compare_eq' h, compare_eq' (h2 h)]
  · rw [compare_gt' h, compare_gt' (h3 h)]
/-- Two floats that are numbers stand as their rungs do. -/
theorem order_key {f : Ieee.Format} (hI : f.binade ≤ f.infRung) {x y : Nat} (hx : (f.read x).isNaN = false) (hy : (f.read y).isNaN = false) : f.order x y = some (compare (keyW f x) (keyW f y)) := by
  have hb : 0 < f.binade := Nat.two_pow_pos _
  unfold Ieee.Format.order keyW
  rcases read_kind hx with ⟨m, e, r1, r2, r3, r4, r5⟩ | ⟨r1, r2, _⟩ <;> rcases read_kind hy with ⟨n, d, q1, q2, q3, q4, q5⟩ | ⟨q1, q2, _⟩ <;> rw [r1, q1]
  · generalize (x / f.signWeight % 2 == 1) = s at *
    generalize (y / f.signWeight % 2 == 1) = t at *
    generalize x % f.signWeight = r at *
    generalize y % f.signWeight = q at *
    show some (compare (Ieee.signed s m (f.leastPlace + (e : Int) - min (f.leastPlace + (e : Int)) (f.leastPlace + (d : Int))).toNat) (Ieee.signed t n (f.leastPlace + (d : Int) - min (f.leastPlace + (e : Int)) (f.leastPlace + (d : Int))).toNat)) = _
    rw [show (f.leastPlace + (e : Int) - min (f.leastPlace + (e : Int)) (f.leastPlace + (d : Int))).toNat = e - min e d by omega, show (f.leastPlace + (d : Int) - min (f.leastPlace + (e : Int)) (f.leastPlace + (d : Int))).toNat = d - min e d by omega]
    have hc : ∀ (a : Nat) (k : Nat), min e d ≤ k → a * 2 ^ k = a * 2 ^ (k - min e d) * 2 ^ min e d := by
      intro a k hk
      rw [Nat.mul_assoc, ← Nat.pow_add, Nat.sub_add_cancel hk]
    have c1 := rung_cmp r2 q2 r3 q3
    have c2 := rung_cmp q2 r2 q3 r3
    rw [hc m e (Nat.min_le_left ..), hc n d (Nat.min_le_right ..)] at c1 c2
    have hp := Nat.two_pow_pos (min e d)
    have z1 : r = 0 ∨ 0 < m * 2 ^ (e - min e d) := by
      by_cases h : m = 0
      · left
        rcases r3 with r3 | r3
        · subst r3; subst h; simpa using r4
        · omega
      · right; exact Nat.mul_pos (by omega) (Nat.two_pow_pos _)
    have z2 : q = 0 ∨ 0 < n * 2 ^ (d - min e d) := by
      by_cases h : n = 0
      · left
        rcases q3 with q3 | q3
        · subst q3; subst h; simpa using q4
        · omega
      · right; exact Nat.mul_pos (by omega) (Nat.two_pow_pos _)
    have z3 : r = 0 → m * 2 ^ (e - min e d) = 0 := fun h => by rw [show m = 0 by omega, Nat.zero_mul]
    have z4 : q = 0 → n * 2 ^ (d - min e d) = 0 := fun h => by rw [show n = 0 by omega, Nat.zero_mul]
    unfold Ieee.signed
    rw [Nat.shiftLeft_eq, Nat.shiftLeft_eq]
    rw [← r4, ← q4] at c1 c2
    generalize m * 2 ^ (e - min e d) = a at *
    generalize n * 2 ^ (d - min e d) = b at *
    have d1 : r < q → a < b := fun h => Nat.lt_of_mul_lt_mul_right (c1.1 h)
    have d2 : r = q → a = b := fun h => Nat.eq_of_mul_eq_mul_right hp (c1.2 h)
    have d3 : q < r → b < a := fun h => Nat.lt_of_mul_lt_mul_right (c2.1 h)
    congr 1
    cases s <;> cases t <;> simp only [Bool.false_eq_true, if_false, if_true] <;> apply compare_congr <;> omega
  · show some (if (y / f.signWeight % 2 == 1) = true then Ordering.gt else Ordering.lt) = _
    congr 1
    cases (x / f.signWeight % 2 == 1) <;> cases (y / f.signWeight % 2 == 1) <;> simp only [Bool.false_eq_true, if_false, if_true] <;> symm <;> first | (apply compare_lt'; omega) | (apply compare_gt'; omega)
  · show some (if (x / f.signWeight % 2 == 1) = true then Ordering.lt else Ordering.gt) = _
    congr 1
    cases (x / f.signWeight % 2 == 1) <;> cases (y / f.signWeight % 2 == 1) <;> simp only [Bool.false_eq_true, if_false, if_true] <;> symm <;> first | (apply compare_lt'; omega) | (apply compare_gt'; omega)
  · rw [r2, q2]
    cases (x / f.signWeight % 2 == 1) <;> cases (y / f.signWeight % 2 == 1) <;> simp only [Bool.false_eq_true, if_false, if_true]
    · rw [compare_eq' rfl]; rfl
    · rw [compare_gt' (by omega)]; rfl
    · rw [compare_lt' (by omega)]; rfl
    · rw [compare_eq' rfl]; rfl

/-- The key of a single float. -/
def key (x : F32) : Int := keyW Ieee.single x.bits
def isN (x : F32) : Bool := nanB .f32 x.bits
theorem order_nan (x y : F32) (h : isN x = true ∨ isN y = true) : FloatKind.f32.format.order x.bits y.bits = none := by
  unfold Ieee.Format.order
  rcases h with h | h
  · obtain ⟨s, t, h⟩ := read_nan h
    rw [h]; rfl
  · obtain ⟨s, t, h⟩ := read_nan h
    rw [h]; exact order_nan_right _ _ _
theorem order_f32 {x y : F32} (hx : isN x = false) (hy : isN y = false) : FloatKind.f32.format.order x.bits y.bits = some (compare (key x) (key y)) := by
  exact order_key (f := Ieee.single) (by decide) hx hy
theorem gt_key {x y : F32} : x.gt y = true ↔ isN x = false ∧ isN y = false ∧ key y < key x := by
  show (FloatKind.f32.format.order x.bits y.bits == some .gt) = true ↔ _
  cases hx : isN x
  · cases hy : isN y
    · rw [order_f32 hx hy]
      rcases Int.lt_trichotomy (key x) (key y) with h | h | h
      · rw [compare_lt' h]; simp; omega
      · rw [compare_eq' h]; simp; omega
      · rw [compare_gt' h]; simp; exact h
    · rw [order_nan x y (.inr hy)]; simp
  · rw [order_nan x y (.inl hx)]; simp
theorem lt_key {x y : F32} : x.lt' y = true ↔ isN x = false ∧ isN y = false ∧ key x < key y := by
  show (FloatKind.f32.format.order x.bits y.bits == some .lt) = true ↔ _
  cases hx : isN x
  · cases hy : isN y
    · rw [order_f32 hx hy]
      rcases Int.lt_trichotomy (key x) (key y) with h | h | h
      · rw [compare_lt' h]; simp; exact h
      · rw [compare_eq' h]; simp; omega
      · rw [compare_gt' h]; simp; omega
    · rw [order_nan x y (.inr hy)]; simp
  · rw [order_nan x y (.inl hx)]; simp
theorem eq_key {x y : F32} : x.eq y = true ↔ isN x = false ∧ isN y = false ∧ key x = key y := by
  show (FloatKind.f32.format.order x.bits y.bits == some .eq) = true ↔ _
  cases hx : isN x
  · cases hy : isN y
    · rw [order_f32 hx hy]
      rcases Int.lt_trichotomy (key x) (key y) with h | h | h
      · rw [compare_lt' h]; simp; omega
      · rw [compare_eq' h]; simp; exact h
      · rw [compare_gt' h]; simp; omega
    · rw [order_nan x y (.inr hy)]; simp
  · rw [order_nan x y (.inl hx)]; simp
theorem ge_key {x y : F32} : x.ge y = true ↔ isN x = false ∧ isN y = false ∧ key y ≤ key x := by
  show (FloatKind.f32.format.order x.bits y.bits == some .gt || FloatKind.f32.format.order x.bits y.bits == some .eq) = true ↔ _
  cases hx : isN x
  · cases hy : isN y
    · rw [order_f32 hx hy]
      rcases Int.lt_trichotomy (key x) (key y) with h | h | h
      · rw [compare_lt' h]; simp; omega
      · rw [compare_eq' h]; simp; omega
      · rw [compare_gt' h]; simp; omega
    · rw [order_nan x y (.inr hy)]; simp
  · rw [order_nan x y (.inl hx)]; simp

theorem key_sign (x : F32) : key x = if 2147483648 ≤ x.bits then -((x.bits - 2147483648 : Nat) : Int) else (x.bits : Int) := by
  have h := x.lt
  have e : 2 ^ FloatKind.f32.format.width = 4294967296 := by decide
  unfold key keyW
  rw [s_sw]
  by_cases g : 2147483648 ≤ x.bits
  · rw [if_pos g, if_pos (by rw [show x.bits / 2147483648 = 1 by omega]; rfl)]; omega
  · rw [if_neg g, if_neg (by rw [show x.bits / 2147483648 = 0 by omega]; decide)]; omega
theorem key_zero {z : F32} (h : z.bits = 0) : key z = 0 ∧ isN z = false := by
  refine ⟨by rw [key_sign, h]; rfl, ?_⟩
  unfold isN; rw [h]; decide
theorem nan_mod {b : Nat} (_ : b < 4294967296) : nanB .f32 (b % 2147483648) = nanB .f32 b := by
  unfold nanB
  show (Ieee.single.read (b % 2147483648)).isNaN = (Ieee.single.read b).isNaN
  unfold Ieee.Format.read
  rw [s_sw, s_bin, s_inf, Nat.mod_mod]
  dsimp only
  split
  · rfl
  · split
    · rfl
    · split <;> rfl
theorem bits_lt (x : F32) : x.bits < 4294967296 := by
  have h := x.lt
  have e : 2 ^ FloatKind.f32.format.width = 4294967296 := by decide
  omega
theorem key_abs {x : F32} (h : isN x = false) : isN x.abs32 = false ∧ key x.abs32 = if key x < 0 then -key x else key x := by
  have e2 : x.abs32.bits = canonF .f32 (x.bits % 2147483648) := rfl
  have hx := bits_lt x
  have hn : nanB .f32 (x.bits % 2147483648) = false := by rw [nan_mod hx]; exact h
  rw [canonF_num hn] at e2
  refine ⟨by unfold isN; rw [e2]; exact hn, ?_⟩
  rw [key_sign, key_sign, e2, if_neg (by omega)]
  by_cases g : 2147483648 ≤ x.bits
  · rw [if_pos g]; split <;> omega
  · rw [if_neg g]; split <;> omega
theorem abs_nan {x : F32} (h : isN x = true) : isN x.abs32 = true := by
  have e2 : x.abs32.bits = canonF .f32 (x.bits % 2147483648) := rfl
  unfold isN at h ⊢
  rw [e2, nanB_canonF, nan_mod (bits_lt x)]; exact h
theorem neg_word {b : Nat} (hb : b < 4294967296) : Op.negFloat .f32 b = if 2147483648 ≤ b then b - 2147483648 else b + 2147483648 := by
  have e : Op.negFloat .f32 b = b ^^^ 2 ^ 31 := rfl
  rw [e]
  apply Nat.eq_of_testBit_eq
  intro i
  by_cases g : 2147483648 ≤ b
  · rw [if_pos g]
    obtain ⟨r, rfl⟩ : ∃ r, b = 2 ^ 31 + r := ⟨b - 2 ^ 31, by omega⟩
    have hr : r < 2 ^ 31 := by omega
    rw [show 2 ^ 31 + r - 2147483648 = r by omega, Nat.testBit_xor]
    by_cases hi : i = 31
    · subst hi
      rw [Nat.testBit_two_pow_add_eq, Nat.testBit_lt_two_pow hr, Nat.testBit_two_pow_self]; rfl
    · rw [Nat.testBit_two_pow_of_ne (by omega), Bool.xor_false]
      by_cases hi2 : i < 31
      · rw [Nat.testBit_two_pow_add_gt hi2]
      · have h1 : r < 2 ^ i := Nat.lt_of_lt_of_le hr (Nat.pow_le_pow_right (by omega) (by omega))
        have h2 : 2 ^ 31 + r < 2 ^ i := by
          have : 2 ^ 32 ≤ 2 ^ i := Nat.pow_le_pow_right (by omega) (by omega)
          omega
        rw [Nat.testBit_lt_two_pow h1, Nat.testBit_lt_two_pow h2]
  · rw [if_neg g]
    have hr : b < 2 ^ 31 := by omega
    rw [show b + 2147483648 = 2 ^ 31 + b by omega, Nat.testBit_xor]
    by_cases hi : i = 31
    · subst hi
      rw [Nat.testBit_two_pow_add_eq, Nat.testBit_lt_two_pow hr, Nat.testBit_two_pow_self]; rfl
    · rw [Nat.testBit_two_pow_of_ne (by omega), Bool.xor_false]
      by_cases hi2 : i < 31
      · rw [Nat.testBit_two_pow_add_gt hi2]
      · have h1 : b < 2 ^ i := Nat.lt_of_lt_of_le hr (Nat.pow_le_pow_right (by omega) (by omega))
        have h2 : 2 ^ 31 + b < 2 ^ i := by
          have : 2 ^ 32 ≤ 2 ^ i := Nat.pow_le_pow_right (by omega) (by omega)
          omega
        rw [Nat.testBit_lt_two_pow h1, Nat.testBit_lt_two_pow h2]
theorem key_neg {x : F32} (h : isN x = false) : isN x.neg = false ∧ key x.neg = -key x := by
  have hx := bits_lt x
  have e2 : x.neg.bits = canonF .f32 (Op.negFloat .f32 x.bits) := rfl
  have hw := neg_word hx
  have hm : Op.negFloat .f32 x.bits % 2147483648 = x.bits % 2147483648 := by rw [hw]; split <;> omega
  have hl : Op.negFloat .f32 x.bits < 4294967296 := by rw [hw]; split <;> omega
  have hn : nanB .f32 (Op.negFloat .f32 x.bits) = false := by rw [← nan_mod hl, hm, nan_mod hx]; exact h
  rw [canonF_num hn] at e2
  refine ⟨by unfold isN; rw [e2]; exact hn, ?_⟩
  rw [key_sign, key_sign, e2, hw]
  by_cases g : 2147483648 ≤ x.bits
  · rw [if_pos g, if_pos g, if_neg (by omega)]; omega
  · rw [if_neg g, if_neg g, if_pos (by omega)]; omega
end Go.Fw

/-! Exact arithmetic: small numbers of the form n / 2^k add, subtract and multiply as they are. -/
namespace Go.Fw
open Go

/-- A magnitude with its sign. -/
def sg (s : Bool) (m : Nat) : Int := if s then -(m : Int) else (m : Int)
/-- s m 2^i is n / 2^k. -/
def VV (s : Bool) (m : Nat) (i : Int) (k : Nat) (n : Int) : Prop := ∃ a b : Nat, i + (k : Int) = (a : Int) - (b : Int) ∧ sg s m * 2 ^ a = n * 2 ^ b
theorem two_pos (a : Nat) : (0 : Int) < 2 ^ a := Int.pow_pos (by omega)
theorem VV.all {s : Bool} {m : Nat} {i : Int} {k : Nat} {n : Int} (h : VV s m i k n) (a b : Nat) (e : i + (k : Int) = (a : Int) - (b : Int)) : sg s m * 2 ^ a = n * 2 ^ b := by
  obtain ⟨a', b', e', h'⟩ := h
  have hab : a + b' = a' + b := by omega
  have h1 : sg s m * 2 ^ a * 2 ^ b' = n * 2 ^ b * 2 ^ b' := by
    rw [Int.mul_assoc, ← Int.pow_add, hab, Int.pow_add, ← Int.mul_assoc, h', Int.mul_assoc, Int.mul_assoc, Int.mul_comm (2 ^ b') (2 ^ b)]
  exact Int.eq_of_mul_eq_mul_right (Int.ne_of_gt (two_pos b')) h1
theorem signed_sg (s : Bool) (m up : Nat) : Ieee.signed s m up = sg s m * 2 ^ up := by
  unfold Ieee.signed sg
  rw [Nat.shiftLeft_eq]
  cases s
  · simp only [Bool.false_eq_true, if_false]; rw [Int.natCast_mul, Int.natCast_pow]; rfl
  · simp only [if_true]; rw [Int.natCast_mul, Int.natCast_pow, Int.neg_mul]; rfl
/-- A datum that is n / 2^k. -/
def Val (d : Ieee.Datum) (k : Nat) (n : Int) : Prop := ∃ s m i, d = .number s m i ∧ VV s m i k n
theorem Val.sum {d e : Ieee.Datum} {k : Nat} {p q : Int} (hd : Val d k p) (he : Val e k q) : ∃ r, d.sum e = some r ∧ Val r k (p + q) := by
  obtain ⟨s, m, i, rfl, h1⟩ := hd
  obtain ⟨t, n, j, rfl, h2⟩ := he
  refine ⟨_, rfl, _, _, _, rfl, ?_⟩
  have hi : min i j ≤ i := Int.min_le_left ..
  have hj : min i j ≤ j := Int.min_le_right ..
  generalize min i j = base at *
  have e1 := h1.all ((i - base).toNat + (base + (k : Int)).toNat) (-(base + (k : Int))).toNat (by omega)
  have e2 := h2.all ((j - base).toNat + (base + (k : Int)).toNat) (-(base + (k : Int))).toNat (by omega)
  rw [Int.pow_add, ← Int.mul_assoc, ← signed_sg] at e1 e2
  refine ⟨(base + (k : Int)).toNat, (-(base + (k : Int))).toNat, by omega, ?_⟩
  generalize Ieee.signed s m (i - base).toNat = u at *
  generalize Ieee.signed t n (j - base).toNat = v at *
  have e3 : sg (if u + v = 0 then s && t else decide (u + v < 0)) (u + v).natAbs = u + v := by
    unfold sg
    by_cases h : u + v = 0
    · rw [if_pos h, h]; cases s <;> cases t <;> rfl
    · rw [if_neg h]
      by_cases h3 : u + v < 0
      · rw [decide_eq_true h3, if_pos rfl]; omega
      · rw [decide_eq_false h3, if_neg (by simp)]; omega
  rw [e3, Int.add_mul, e1, e2, Int.add_mul]
theorem sg_mul (s t : Bool) (m n : Nat) : sg (s ^^ t) (m * n) = sg s m * sg t n := by
  unfold sg
  cases s <;> cases t <;> simp [Int.natCast_mul, Int.neg_mul, Int.mul_neg]
theorem Val.product {d e : Ieee.Datum} {k l : Nat} {p q : Int} (hd : Val d k p) (he : Val e l q) : ∃ r, d.product e = some r ∧ Val r (k + l) (p * q) := by
  obtain ⟨s, m, i, rfl, a, b, h1, h2⟩ := hd
  obtain ⟨t, n, j, rfl, a', b', h3, h4⟩ := he
  refine ⟨_, rfl, _, _, _, rfl, a + a', b + b', by omega, ?_⟩
  rw [sg_mul, Int.pow_add, Int.pow_add, show sg s m * sg t n * (2 ^ a * 2 ^ a') = (sg s m * 2 ^ a) * (sg t n * 2 ^ a') by ac_rfl, h2, h4]
  ac_rfl
theorem Val.opposite {d : Ieee.Datum} {k : Nat} {p : Int} (hd : Val d k p) : Val d.opposite k (-p) := by
  obtain ⟨s, m, i, rfl, a, b, h1, h2⟩ := hd
  refine ⟨_, _, _, rfl, a, b, h1, ?_⟩
  have : sg (!s) m = -sg s m := by cases s <;> simp [sg]
  rw [this, Int.neg_mul, h2, Int.neg_mul]
theorem Val.num {d : Ieee.Datum} {k : Nat} {p : Int} (hd : Val d k p) : d.isNaN = false := by
  obtain ⟨s, m, i, rfl, _⟩ := hd; rfl
theorem Val.up {d : Ieee.Datum} {k : Nat} {p : Int} (hd : Val d k p) (j : Nat) : Val d (k + j) (p * 2 ^ j) := by
  obtain ⟨s, m, i, rfl, a, b, h1, h2⟩ := hd
  refine ⟨_, _, _, rfl, a + j, b, by omega, ?_⟩
  rw [Int.pow_add, ← Int.mul_assoc, h2]; ac_rfl
theorem VV.abs {s : Bool} {m : Nat} {i : Int} {k : Nat} {n : Int} (h : VV s m i k n) (a b : Nat) (e : i + (k : Int) = (a : Int) - (b : Int)) : m * 2 ^ a = n.natAbs * 2 ^ b := by
  have := congrArg Int.natAbs (h.all a b e)
  rw [Int.natAbs_mul, Int.natAbs_mul, Int.natAbs_pow, Int.natAbs_pow] at this
  have e2 : (sg s m).natAbs = m := by unfold sg; split <;> omega
  rw [e2] at this
  exact this
theorem VV.sign {s : Bool} {m : Nat} {i : Int} {k : Nat} {n : Int} (h : VV s m i k n) : n = sg s n.natAbs := by
  obtain ⟨a, b, e, h2⟩ := h
  have ha := two_pos a
  have hb := two_pos b
  unfold sg at h2 ⊢
  cases s
  · simp only [Bool.false_eq_true, if_false] at h2 ⊢
    have : 0 ≤ n := by
      apply Classical.byContradiction; intro hn
      have h3 : n * 2 ^ b < 0 := Int.mul_neg_of_neg_of_pos (by omega) hb
      have h4 : 0 ≤ (m : Int) * 2 ^ a := Int.mul_nonneg (by omega) (by omega)
      omega
    omega
  · simp only [if_true] at h2 ⊢
    have : n ≤ 0 := by
      apply Classical.byContradiction; intro hn
      have h3 : 0 < n * 2 ^ b := Int.mul_pos (by omega) hb
      have h4 : 0 ≤ (m : Int) * 2 ^ a := Int.mul_nonneg (by omega) (by omega)
      rw [Int.neg_mul] at h2
      omega
    omega
theorem VV.same {s : Bool} {m : Nat} {i : Int} {k M : Nat} {E : Int} {n : Int} (h : VV s m i k n) (h2 : VV s M E k n) : SameV m i M E := by
  unfold SameV
  have h1 : min i E ≤ i := Int.min_le_left ..
  have h3 : min i E ≤ E := Int.min_le_right ..
  generalize min i E = base at *
  have e1 := h.abs ((i - base).toNat + (base + (k : Int)).toNat) (-(base + (k : Int))).toNat (by omega)
  have e2 := h2.abs ((E - base).toNat + (base + (k : Int)).toNat) (-(base + (k : Int))).toNat (by omega)
  rw [Nat.pow_add, ← Nat.mul_assoc] at e1 e2
  exact Nat.eq_of_mul_eq_mul_right (Nat.two_pow_pos _) (e1.trans e2.symm)
/-- A small number is written as it is. -/
theorem Val.write {d : Ieee.Datum} {k : Nat} {n : Int} (hd : Val d k n) (hn : n.natAbs < 16777216) (hk : k ≤ 149) : Val (Ieee.single.read (Ieee.single.write d)) k n := by
  obtain ⟨s, m, i, rfl, h⟩ := hd
  show Val (Ieee.single.read (Ieee.single.nearest s m i)) k n
  by_cases hm : m = 0
  · subst hm
    have hn0 : n.natAbs = 0 := by
      have := h.abs (i + (k : Int)).toNat (-(i + (k : Int))).toNat (by omega)
      rw [Nat.zero_mul] at this
      rcases Nat.mul_eq_zero.1 this.symm with h0 | h0
      · exact h0
      · exact absurd h0 (Nat.pos_iff_ne_zero.1 (Nat.two_pow_pos _))
    have : Ieee.single.nearest s 0 i = Ieee.single.word s 0 := by unfold Ieee.Format.nearest; rfl
    rw [this]
    have e : Ieee.single.read (Ieee.single.word s 0) = .number s 0 (-149) := by cases s <;> decide
    rw [e]
    refine ⟨_, _, _, rfl, (-149 + (k : Int)).toNat, (-(-149 + (k : Int))).toNat, by omega, ?_⟩
    rw [show n = 0 by omega]; cases s <;> simp [sg]
  · have hN : n.natAbs ≠ 0 := by
      intro h0
      have := h.abs (i + (k : Int)).toNat (-(i + (k : Int))).toNat (by omega)
      rw [h0, Nat.zero_mul] at this
      rcases Nat.mul_eq_zero.1 this with h1 | h1
      · exact hm h1
      · exact absurd h1 (Nat.pos_iff_ne_zero.1 (Nat.two_pow_pos _))
    have hs := h.sign
    have hlog : n.natAbs.log2 ≤ 23 := by
      have := (Nat.log2_lt hN).2 (show n.natAbs < 2 ^ 24 from hn)
      omega
    have hle := pow_log2_le hN
    have hlt := @log2_lt_pow n.natAbs
    -- the number as it is kept
    obtain ⟨sh, M, E, hM, hE, hE2, hM1, hM2, hsh⟩ : ∃ (sh M : Nat) (E : Int), M = n.natAbs * 2 ^ sh ∧ E = -(k : Int) - (sh : Int) ∧ -149 ≤ E ∧ M < 16777216 ∧ (8388608 ≤ M ∨ E = -149) ∧ sh ≤ 23 := by
      by_cases hc : (k : Int) + (23 - n.natAbs.log2 : Nat) ≤ 149
      · refine ⟨23 - n.natAbs.log2, _, _, rfl, rfl, by omega, ?_, .inl ?_, by omega⟩
        · have : n.natAbs * 2 ^ (23 - n.natAbs.log2) < 2 ^ (n.natAbs.log2 + 1) * 2 ^ (23 - n.natAbs.log2) := Nat.mul_lt_mul_of_pos_right hlt (Nat.two_pow_pos _)
          rw [← Nat.pow_add, show n.natAbs.log2 + 1 + (23 - n.natAbs.log2) = 24 by omega] at this
          exact this
        · have : 2 ^ n.natAbs.log2 * 2 ^ (23 - n.natAbs.log2) ≤ n.natAbs * 2 ^ (23 - n.natAbs.log2) := Nat.mul_le_mul_right _ hle
          rw [← Nat.pow_add, show n.natAbs.log2 + (23 - n.natAbs.log2) = 23 by omega] at this
          exact this
      · refine ⟨149 - k, _, _, rfl, rfl, by omega, ?_, .inr (by omega), by omega⟩
        have h1 : n.natAbs * 2 ^ (149 - k) < 2 ^ (n.natAbs.log2 + 1) * 2 ^ (149 - k) := Nat.mul_lt_mul_of_pos_right hlt (Nat.two_pow_pos _)
        rw [← Nat.pow_add] at h1
        have h2 : 2 ^ (n.natAbs.log2 + 1 + (149 - k)) ≤ 2 ^ 24 := Nat.pow_le_pow_right (by omega) (by omega)
        omega
    have hv2 : VV s M E k n := by
      refine ⟨0, sh, by omega, ?_⟩
      rw [Int.pow_zero, Int.mul_one, hM]
      have : sg s (n.natAbs * 2 ^ sh) = sg s n.natAbs * 2 ^ sh := by
        unfold sg; cases s
        · simp [Int.natCast_mul]
        · simp [Int.natCast_mul, Int.neg_mul]
      rw [this, ← hs]
    have hM0 : M ≠ 0 := by rw [hM]; exact Nat.mul_ne_zero hN (Nat.pos_iff_ne_zero.1 (Nat.two_pow_pos _))
    have hnear := nearest_exact Ieee.single s (h.same hv2) hm hM0 (by rw [s_lp]; exact hE2) (by rw [s_bin]; omega) (by rw [s_bin, s_lp]; exact hM2)
    rw [s_lp, s_bin, s_inf, show E - -149 = E + 149 by omega] at hnear
    have hr : (E + 149).toNat * 8388608 + M < 2139095040 := by
      have := Nat.mul_le_mul_right 8388608 (show (E + 149).toNat ≤ 149 by omega)
      omega
    rw [Nat.min_eq_left (by omega)] at hnear
    rw [hnear]
    obtain ⟨m', p', q1, q2, q3, q4, q5, q6⟩ := s_read (s := s) hr
    rw [q1]
    have : m' = M ∧ p' = E := by
      rcases Int.lt_trichotomy p' E with hlt | heq | hgt
      · have := Nat.mul_le_mul_right 8388608 (show (p' + 149).toNat + 1 ≤ (E + 149).toNat by omega)
        rw [Nat.add_mul] at this
        rcases hM2 with hM2 | hM2 <;> omega
      · rw [heq] at q2; exact ⟨by omega, heq⟩
      · have := Nat.mul_le_mul_right 8388608 (show (E + 149).toNat + 1 ≤ (p' + 149).toNat by omega)
        rw [Nat.add_mul] at this
        rcases q5 with q5 | q5 <;> omega
    rw [this.1, this.2]
    exact ⟨_, _, _, rfl, hv2⟩

/-- A single float that is n / 2^k. -/
def Dy (k : Nat) (n : Int) (x : F32) : Prop := Val (Ieee.single.read x.bits) k n
theorem Dy.isN {k : Nat} {n : Int} {x : F32} (h : Dy k n x) : isN x = false := h.num
theorem Dy.up {k : Nat} {n : Int} {x : F32} (h : Dy k n x) (j : Nat) : Dy (k + j) (n * 2 ^ j) x := Val.up h j
theorem opt_val {o : Option Nat} {h : ∀ r, o = some r → r < 2 ^ FloatKind.f32.format.width} {k : Nat} {n : Int} {r : Nat} (ho : o = some r) (hv : Val (Ieee.single.read r) k n) : Dy k n (Fl.opt .f32 o h) := by
  subst ho
  show Val (Ieee.single.read (canonF .f32 r)) k n
  rw [canonF_num (show nanB .f32 r = false from hv.num)]
  exact hv
theorem Dy.add {k : Nat} {a b : Int} {x y : F32} (hx : Dy k a x) (hy : Dy k b y) (hn : (a + b).natAbs < 16777216) (hk : k ≤ 149) : Dy k (a + b) (x.add y) := by
  obtain ⟨r, r1, r2⟩ := Val.sum hx hy
  refine opt_val (r := Ieee.single.write r) ?_ (r2.write hn hk)
  show Ieee.single.add x.bits y.bits = _
  unfold Ieee.Format.add
  rw [r1]; rfl
theorem Dy.sub {k : Nat} {a b : Int} {x y : F32} (hx : Dy k a x) (hy : Dy k b y) (hn : (a - b).natAbs < 16777216) (hk : k ≤ 149) : Dy k (a - b) (x.sub y) := by
  obtain ⟨r, r1, r2⟩ := Val.sum hx (Val.opposite hy)
  rw [Int.sub_eq_add_neg] at hn ⊢
  refine opt_val (r := Ieee.single.write r) ?_ (r2.write hn hk)
  show Ieee.single.sub x.bits y.bits = _
  unfold Ieee.Format.sub
  rw [r1]; rfl
theorem Dy.mul {k l : Nat} {a b : Int} {x y : F32} (hx : Dy k a x) (hy : Dy l b y) (hn : (a * b).natAbs < 16777216) (hk : k + l ≤ 149) : Dy (k + l) (a * b) (x.mul y) := by
  obtain ⟨r, r1, r2⟩ := Val.product hx hy
  refine opt_val (r := Ieee.single.write r) ?_ (r2.write hn hk)
  show Ieee.single.mul x.bits y.bits = _
  unfold Ieee.Format.mul
  rw [r1]; rfl
theorem Dy.order {k : Nat} {a b : Int} {x y : F32} (hx : Dy k a x) (hy : Dy k b y) : FloatKind.f32.format.order x.bits y.bits = some (compare a b) := by
  unfold Dy at hx hy
  show (Ieee.single.read x.bits).order (Ieee.single.read y.bits) = _
  obtain ⟨s, m, i, e1, h1⟩ := hx
  obtain ⟨t, n, j, e2, h2⟩ := hy
  rw [e1, e2]
  show some (compare (Ieee.signed s m (i - min i j).toNat) (Ieee.signed t n (j - min i j).toNat)) = _
  have hi : min i j ≤ i := Int.min_le_left ..
  have hj : min i j ≤ j := Int.min_le_right ..
  generalize min i j = base at *
  have q1 := h1.all ((i - base).toNat + (base + (k : Int)).toNat) (-(base + (k : Int))).toNat (by omega)
  have q2 := h2.all ((j - base).toNat + (base + (k : Int)).toNat) (-(base + (k : Int))).toNat (by omega)
  rw [Int.pow_add, ← Int.mul_assoc, ← signed_sg] at q1 q2
  generalize Ieee.signed s m (i - base).toNat = u at *
  generalize Ieee.signed t n (j - base).toNat = v at *
  have pa := two_pos (base + (k : Int)).toNat
  have pb := two_pos (-(base + (k : Int))).toNat
  congr 1
  refine compare_congr (fun h => ?_) (fun h => ?_) (fun h => ?_)
  · have := Int.mul_lt_mul_of_pos_right h pb
    rw [← q1, ← q2] at this
    exact Int.lt_of_mul_lt_mul_right this (by omega)
  · rw [h, ← q2] at q1
    exact Int.eq_of_mul_eq_mul_right (Int.ne_of_gt pa) q1
  · have := Int.mul_lt_mul_of_pos_right h pb
    rw [← q1, ← q2] at this
    exact Int.lt_of_mul_lt_mul_right this (by omega)
theorem Dy.eq {k : Nat} {a b : Int} {x y : F32} (hx : Dy k a x) (hy : Dy k b y) : x.eq y = decide (a = b) := by
  show (FloatKind.f32.format.order x.bits y.bits == some .eq) = _
  rw [hx.order hy]
  rcases Int.lt_trichotomy a b with h | h | h
  · rw [compare_lt' h, decide_eq_false (by omega)]; rfl
  · rw [compare_eq' h, decide_eq_true h]; rfl
  · rw [compare_gt' h, decide_eq_false (by omega)]; rfl
theorem Dy.gt {k : Nat} {a b : Int} {x y : F32} (hx : Dy k a x) (hy : Dy k b y) : x.gt y = decide (b < a) := by
  show (FloatKind.f32.format.order x.bits y.bits == some .gt) = _
  rw [hx.order hy]
  rcases Int.lt_trichotomy a b with h | h | h
  · rw [compare_lt' h, decide_eq_false (by omega)]; rfl
  · rw [compare_eq' h, decide_eq_false (by omega)]; rfl
  · rw [compare_gt' h, decide_eq_true h]; rfl
theorem Dy.lt {k : Nat} {a b : Int} {x y : F32} (hx : Dy k a x) (hy : Dy k b y) : x.lt' y = decide (a < b) := by
  show (FloatKind.f32.format.order x.bits y.bits == some .lt) = _
  rw [hx.order hy]
  rcases Int.lt_trichotomy a b with h | h | h
  · rw [compare_lt' h, decide_eq_true h]; rfl
  · rw [compare_eq' h, decide_eq_false (by omega)]; rfl
  · rw [compare_gt' h, decide_eq_false (by omega)]; rfl
theorem Dy.ofInt {n : Int} (hn : n.natAbs < 16777216) : Dy 0 n (Fl.ofInt .f32 n) := by
  have hv : Val (.number (decide (n < 0)) n.natAbs 0) 0 n := by
    refine ⟨_, _, _, rfl, 0, 0, rfl, ?_⟩
    unfold sg
    by_cases h : n < 0
    · rw [decide_eq_true h, if_pos rfl]; omega
    · rw [decide_eq_false h, if_neg (by simp)]; omega
  have hw := hv.write hn (by omega)
  show Val (Ieee.single.read (canonF .f32 (Ieee.single.write (.number (decide (n < 0)) n.natAbs 0)))) 0 n
  rw [canonF_num (show nanB .f32 _ = false from hw.num)]
  exact hw
theorem Dy.neg {k : Nat} {n : Int} {x : F32} (h : Dy k n x) : Dy k (-n) x.neg := by
  have hN := h.isN
  have hx := bits_lt x
  have e2 : x.neg.bits = canonF .f32 (Op.negFloat .f32 x.bits) := rfl
  have hw := neg_word hx
  have hm : Op.negFloat .f32 x.bits % 2147483648 = x.bits % 2147483648 := by rw [hw]; split <;> omega
  have hl : Op.negFloat .f32 x.bits < 4294967296 := by rw [hw]; split <;> omega
  have hn : nanB .f32 (Op.negFloat .f32 x.bits) = false := by rw [← nan_mod hl, hm, nan_mod hx]; exact hN
  rw [canonF_num hn] at e2
  have hsign : (Op.negFloat .f32 x.bits / 2147483648 % 2 == 1) = !(x.bits / 2147483648 % 2 == 1) := by
    rw [hw]
    by_cases g : 2147483648 ≤ x.bits
    · rw [if_pos g, show (x.bits - 2147483648) / 2147483648 = 0 by omega, show x.bits / 2147483648 = 1 by omega]; rfl
    · rw [if_neg g, show (x.bits + 2147483648) / 2147483648 = 1 by omega, show x.bits / 2147483648 = 0 by omega]; rfl
  have hread : Ieee.single.read (Op.negFloat .f32 x.bits) = (Ieee.single.read x.bits).opposite := by
    unfold Ieee.Format.read
    dsimp only
    rw [s_sw, hm, hsign]
    split
    · rfl
    · split
      · rfl
      · split <;> rfl
  unfold Dy
  rw [e2, hread]
  exact Val.opposite h
/-- A quotient by a power of two. -/
theorem Dy.div {k j : Nat} {n : Int} {x y : F32} (hx : Dy k n x) (hy : Ieee.single.read y.bits = .number false 8388608 ((j : Int) - 23)) (hn : n.natAbs < 16777216) (hk : k + j ≤ 149) : Dy (k + j) n (x.div y) := by
  obtain ⟨s, m, i, e1, a, b, h1, h2⟩ := hx
  have hl : Nat.log2 8388608 = 23 := by decide
  have hmm : m.log2 ≤ 23 ∨ 16777216 ≤ m := by
    by_cases hm : m = 0
    · left; subst hm; decide
    · by_cases h : m < 16777216
      · left; have := (Nat.log2_lt hm).2 (show m < 2 ^ 24 from h); omega
      · right; omega
  have hlt : m < 16777216 := by
    have hr : (Ieee.single.read x.bits).isNaN = false := by rw [e1]; rfl
    rcases read_kind hr with ⟨m', e', r1, r2, _⟩ | ⟨r1, _⟩
    · rw [e1] at r1; cases r1; rw [s_bin] at r2; omega
    · rw [e1] at r1; cases r1
  have hlog : m.log2 ≤ 23 := by omega
  obtain ⟨q, hq⟩ : ∃ q, Ieee.single.fractionBits + 2 + 23 - m.log2 = 23 + q := ⟨Ieee.single.fractionBits + 2 + 23 - m.log2 - 23, by have : Ieee.single.fractionBits = 23 := rfl; omega⟩
  have hdiv : m <<< (23 + q) = m * 2 ^ q * 8388608 := by
    rw [Nat.shiftLeft_eq, Nat.pow_add, show (8388608 : Nat) = 2 ^ 23 by decide]; ac_rfl
  have hquo : (Ieee.Datum.number s m i).quotient (Ieee.single.fractionBits + 2) (.number false 8388608 ((j : Int) - 23)) = some (.number (s ^^ false) (2 * (m * 2 ^ q)) (i - ((j : Int) - 23) - ((23 + q : Nat) : Int) - 1)) := by
    show (if (8388608 : Nat) = 0 then (if m = 0 then none else some (Ieee.Datum.infinity (s ^^ false))) else some (.number (s ^^ false) (2 * ((m <<< (Ieee.single.fractionBits + 2 + Nat.log2 8388608 - m.log2)) / 8388608) + ((m <<< (Ieee.single.fractionBits + 2 + Nat.log2 8388608 - m.log2)) % 8388608 != 0).toNat) (i - ((j : Int) - 23) - ((Ieee.single.fractionBits + 2 + Nat.log2 8388608 - m.log2 : Nat) : Int) - 1))) = _
    rw [if_neg (by decide), hl, hq, hdiv, Nat.mul_div_cancel _ (by omega), Nat.mul_mod_left]
    rfl
  have hv : Val (.number (s ^^ false) (2 * (m * 2 ^ q)) (i - ((j : Int) - 23) - ((23 + q : Nat) : Int) - 1)) (k + j) n := by
    refine ⟨_, _, _, rfl, a, b + q + 1, by omega, ?_⟩
    rw [Bool.xor_false]
    have : sg s (2 * (m * 2 ^ q)) = sg s m * 2 ^ (q + 1) := by
      unfold sg
      rw [show 2 * (m * 2 ^ q) = m * 2 ^ (q + 1) by rw [Nat.pow_succ]; ac_rfl]
      cases s
      · simp [Int.natCast_mul]
      · simp [Int.natCast_mul, Int.neg_mul]
    rw [this, show sg s m * 2 ^ (q + 1) * 2 ^ a = sg s m * 2 ^ a * 2 ^ (q + 1) by ac_rfl, h2, Int.mul_assoc, ← Int.pow_add, Nat.add_assoc]
  refine opt_val (r := Ieee.single.write _) ?_ (hv.write hn hk)
  show Ieee.single.div x.bits y.bits = _
  unfold Ieee.Format.div
  rw [e1, hy, hquo]; rfl
end Go.Fw

/-! Exact arithmetic without a negative zero: such numbers are told by their values. -/
namespace Go.Fw
open Go

/-- Not the negative zero. -/
def NZ (d : Ieee.Datum) : Prop := ∀ i, d ≠ .number true 0 i
theorem sum_nz {d e r : Ieee.Datum} (hd : NZ d) (h : d.sum e = some r) (hk : ∃ s m i, d = .number s m i) (he : ∃ s m i, e = .number s m i) : NZ r := by
  obtain ⟨s, m, i, rfl⟩ := hk
  obtain ⟨t, n, j, rfl⟩ := he
  intro i' hr
  subst hr
  have h2 := Option.some.inj h
  injection h2 with h3 h4 h5
  generalize hu : Ieee.signed s m (i - min i j).toNat = u at *
  generalize hv : Ieee.signed t n (j - min i j).toNat = v at *
  have e0 : u + v = 0 := by omega
  rw [if_pos e0] at h3
  simp only [Bool.and_eq_true] at h3
  obtain ⟨rfl, rfl⟩ := h3
  rw [signed_sg] at hu hv
  have p1 := two_pos (i - min i j).toNat
  have p2 := two_pos (j - min i j).toNat
  have q1 : 0 ≤ (m : Int) * 2 ^ (i - min i j).toNat := Int.mul_nonneg (by omega) (by omega)
  have q2 : 0 ≤ (n : Int) * 2 ^ (j - min i j).toNat := Int.mul_nonneg (by omega) (by omega)
  have r1 : u = -((m : Int) * 2 ^ (i - min i j).toNat) := by rw [← hu]; simp [sg, Int.neg_mul]
  have r2 : v = -((n : Int) * 2 ^ (j - min i j).toNat) := by rw [← hv]; simp [sg, Int.neg_mul]
  have hm : (m : Int) * 2 ^ (i - min i j).toNat = 0 := by omega
  rcases Int.mul_eq_zero.1 hm with h0 | h0
  · have : m = 0 := by omega
    subst this
    exact hd i rfl
  · omega
theorem val_zero {d : Ieee.Datum} {k : Nat} {n : Int} (hd : Val d k n) : ∃ s m i, d = .number s m i ∧ (m = 0 ↔ n = 0) := by
  obtain ⟨s, m, i, rfl, h⟩ := hd
  refine ⟨s, m, i, rfl, ?_⟩
  have := h.abs (i + (k : Int)).toNat (-(i + (k : Int))).toNat (by omega)
  have p1 : 2 ^ (i + (k : Int)).toNat ≠ 0 := Nat.pos_iff_ne_zero.1 (Nat.two_pow_pos _)
  have p2 : 2 ^ (-(i + (k : Int))).toNat ≠ 0 := Nat.pos_iff_ne_zero.1 (Nat.two_pow_pos _)
  constructor
  · intro h0
    rw [h0, Nat.zero_mul] at this
    rcases Nat.mul_eq_zero.1 this.symm with h1 | h1
    · omega
    · exact absurd h1 p2
  · intro h0
    rw [h0] at this
    simp only [Int.natAbs_zero, Nat.zero_mul] at this
    rcases Nat.mul_eq_zero.1 this with h1 | h1
    · exact h1
    · exact absurd h1 p1
theorem val_nz {d : Ieee.Datum} {k : Nat} {n : Int} (hd : Val d k n) (hn : n ≠ 0) : NZ d := by
  obtain ⟨s, m, i, rfl, h⟩ := val_zero hd
  intro i' h2
  injection h2 with _ h3 _
  exact hn (h.1 h3)
theorem near_zero (f : Ieee.Format) (s : Bool) (i : Int) : f.nearest s 0 i = f.word s 0 := by unfold Ieee.Format.nearest; rfl
theorem write_num (s : Bool) (m : Nat) (i : Int) (f : Ieee.Format) : f.write (.number s m i) = f.nearest s m i := rfl
theorem write_zero (s : Bool) (i : Int) : Ieee.single.write (.number s 0 i) = Ieee.single.word s 0 := (write_num s 0 i _).trans (near_zero _ s i)
theorem write_nz {d : Ieee.Datum} {k : Nat} {n : Int} (hd : Val d k n) (hz : NZ d) (hn : n.natAbs < 16777216) (hk : k ≤ 149) : NZ (Ieee.single.read (Ieee.single.write d)) := by
  by_cases h0 : n = 0
  · obtain ⟨s, m, i, rfl, h⟩ := val_zero hd
    have hm := h.2 h0
    subst hm
    cases s
    · rw [write_zero false i, word_false]
      have : Ieee.single.read 0 = .number false 0 (-149) := by decide
      rw [this]
      intro i' h2; cases h2
    · exact absurd rfl (hz i)
  · exact val_nz (hd.write hn hk) h0

/-- A single float that is n / 2^k, and not the negative zero. -/
def Dz (k : Nat) (n : Int) (x : F32) : Prop := Dy k n x ∧ NZ (Ieee.single.read x.bits)
theorem Dy.nz {k : Nat} {n : Int} {x : F32} (h : Dy k n x) (hn : n ≠ 0) : Dz k n x := ⟨h, val_nz h hn⟩
theorem opt_nz {o : Option Nat} {h : ∀ r, o = some r → r < 2 ^ FloatKind.f32.format.width} {k : Nat} {n : Int} {r : Nat} (ho : o = some r) (hv : Val (Ieee.single.read r) k n) (hz : NZ (Ieee.single.read r)) : NZ (Ieee.single.read (Fl.opt .f32 o h).bits) := by
  subst ho
  show NZ (Ieee.single.read (canonF .f32 r))
  rw [canonF_num (show nanB .f32 r = false from hv.num)]
  exact hz
theorem Val.isn {d : Ieee.Datum} {k : Nat} {n : Int} (hd : Val d k n) : ∃ s m i, d = .number s m i := by
  obtain ⟨s, m, i, h, _⟩ := hd
  exact ⟨s, m, i, h⟩
theorem Dz.add {k : Nat} {a b : Int} {x y : F32} (hx : Dz k a x) (hy : Dy k b y) (hn : (a + b).natAbs < 16777216) (hk : k ≤ 149) : Dz k (a + b) (x.add y) := by
  refine ⟨hx.1.add hy hn hk, ?_⟩
  obtain ⟨r, r1, r2⟩ := Val.sum hx.1 hy
  refine opt_nz (r := Ieee.single.write r) ?_ (r2.write hn hk) (write_nz r2 (sum_nz hx.2 r1 (Val.isn hx.1) (Val.isn hy)) hn hk)
  show Ieee.single.add x.bits y.bits = _
  unfold Ieee.Format.add
  rw [r1]; rfl
theorem Dz.sub {k : Nat} {a b : Int} {x y : F32} (hx : Dz k a x) (hy : Dy k b y) (hn : (a - b).natAbs < 16777216) (hk : k ≤ 149) : Dz k (a - b) (x.sub y) := by
  refine ⟨hx.1.sub hy hn hk, ?_⟩
  obtain ⟨r, r1, r2⟩ := Val.sum hx.1 (Val.opposite hy)
  rw [Int.sub_eq_add_neg] at hn
  refine opt_nz (r := Ieee.single.write r) ?_ (r2.write hn hk) (write_nz r2 (sum_nz hx.2 r1 (Val.isn hx.1) (Val.isn (Val.opposite hy))) hn hk)
  show Ieee.single.sub x.bits y.bits = _
  unfold Ieee.Format.sub
  rw [r1]; rfl
theorem Dz.uniq {k : Nat} {a : Int} {x y : F32} (hx : Dz k a x) (hy : Dz k a y) : x = y := by
  have h := hx.1.eq hy.1
  rw [decide_eq_true rfl] at h
  obtain ⟨_, _, h3⟩ := eq_key.1 h
  have b1 := bits_lt x
  have b2 := bits_lt y
  have n1 : x.bits ≠ 2147483648 := fun e => by
    have := hx.2 (-149)
    rw [e] at this
    exact this (by decide)
  have n2 : y.bits ≠ 2147483648 := fun e => by
    have := hy.2 (-149)
    rw [e] at this
    exact this (by decide)
  rw [key_sign, key_sign] at h3
  refine Fl.ext ?_
  split at h3 <;> split at h3 <;> omega
theorem Dy.zero {k : Nat} {x : F32} (h : Dy k 0 x) (l : Nat) : Dy l 0 x := by
  obtain ⟨s, m, i, e, h2⟩ := val_zero h
  have hm := h2.2 rfl
  subst hm
  refine ⟨s, 0, i, e, (i + (l : Int)).toNat, (-(i + (l : Int))).toNat, by omega, ?_⟩
  cases s <;> simp [sg]
theorem Dz.zero {k : Nat} {x : F32} (h : Dz k 0 x) (l : Nat) : Dz l 0 x := ⟨h.1.zero l, h.2⟩
theorem Dz.up {k : Nat} {n : Int} {x : F32} (h : Dz k n x) (j : Nat) : Dz (k + j) (n * 2 ^ j) x := ⟨h.1.up j, h.2⟩
theorem Dz.add0 {k : Nat} {a : Int} {x z : F32} (hx : Dz k a x) (hz : Dy k 0 z) (hn : a.natAbs < 16777216) (hk : k ≤ 149) : x.add z = x :=
  Dz.uniq (k := k) (a := a) (by have := hx.add hz (by omega) hk; rwa [Int.add_zero] at this) hx
theorem Dz.sub0 {k : Nat} {a : Int} {x z : F32} (hx : Dz k a x) (hz : Dy k 0 z) (hn : a.natAbs < 16777216) (hk : k ≤ 149) : x.sub z = x :=
  Dz.uniq (k := k) (a := a) (by have := hx.sub hz (by omega) hk; rwa [Int.sub_zero] at this) hx
theorem Dz.ofInt {n : Int} (hn : n.natAbs < 16777216) : Dz 0 n (Fl.ofInt .f32 n) := by
  by_cases h : n = 0
  · subst h
    refine ⟨Dy.ofInt hn, ?_⟩
    have e : Ieee.single.read (Fl.ofInt .f32 0).bits = .number false 0 (-149) := by decide +kernel
    rw [e]
    intro i h; cases h
  · exact (Dy.ofInt hn).nz h
/-- The quarter of an integer. -/
def Qr (n : Int) : F32 := (Fl.ofInt .f32 n).div (Fl.mk (k := .f32) 1082130432 (by decide))
theorem Qr.dz {n : Int} (hn : n.natAbs < 16777216) : Dz 2 n (Qr n) := by
  have hd : Dy (0 + 2) n (Qr n) := (Dy.ofInt hn).div (j := 2) (by decide) hn (by omega)
  by_cases h : n = 0
  · subst h
    refine ⟨hd, ?_⟩
    have e : Ieee.single.read (Qr 0).bits = .number false 0 (-149) := by decide +kernel
    rw [e]
    intro i h; cases h
  · exact hd.nz h
theorem Dz.of_zero {x : F32} (h : x.bits = 0) (k : Nat) : Dz k 0 x := by
  have e : Ieee.single.read x.bits = .number false 0 (-149) := by rw [h]; decide
  refine ⟨⟨false, 0, -149, e, (-149 + (k : Int)).toNat, (-(-149 + (k : Int))).toNat, by omega, by simp [sg]⟩, ?_⟩
  rw [e]
  intro i h; cases h
theorem Dz.bits0 {k : Nat} {x : F32} (h : Dz k 0 x) (z : F32) (hz : z.bits = 0) : x = z := h.uniq (Dz.of_zero hz k)

end Go.Fw
