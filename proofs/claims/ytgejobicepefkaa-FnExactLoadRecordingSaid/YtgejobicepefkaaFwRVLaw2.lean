/- The laws of recordings, in plain Lean: the words of floats. -/
import Derived.Test.YtgejobicepefkaaFwRVLaw
namespace Go.Fw
open Go


/-! Not-a-numbers. -/
theorem ne_self {k : FloatKind} (x : Fl k) : x.ne x = nanB k x.bits := by
  show (k.format.order x.bits x.bits != some .eq) = _
  unfold Ieee.Format.order nanB
  cases h : k.format.read x.bits with
  | number s m i => simp [Ieee.Datum.order, Ieee.Datum.isNaN]
  | infinity s => simp [Ieee.Datum.order, Ieee.Datum.isNaN]
  | nan s t => simp [Ieee.Datum.order, Ieee.Datum.isNaN]
/-- The word of a number, one word for all that are none. -/
def bitsN (a : F32) : Nat := if a.ne a then 2143289344 else a.bits
theorem bitsN_lt (a : F32) : bitsN a < 4294967296 := by
  unfold bitsN
  split
  · omega
  · have h := a.lt
    have e : 2 ^ FloatKind.f32.format.width = 4294967296 := by decide
    omega
theorem bits_spec (K : Nat) (a : F32) : spec_l01Bits K a = some (bitsN a : Int) := by
  unfold spec_l01Bits bitsN math_Float32bits Fl.toBits
  rw [ne_self]
  cases h : nanB .f32 a.bits
  · have hl := a.lt
    have e : 2 ^ FloatKind.f32.format.width = 4294967296 := by decide
    rw [ite2_false]
    simp only [Bool.false_eq_true, if_false, bind_of]
    rw [wrap_in (by omega) (by omega)]
  · rw [ite2_true, if_pos rfl]; rfl
theorem bits_impl (K : Nat) (a : F32) : impl_BitsOf K a = some (bitsN a : Int) := bits_spec K a
/-! The word tells the number. -/
theorem read_pos {f : Ieee.Format} {x : Nat} {s : Bool} {m : Nat} {i : Int} (h : f.read x = .number s m i) : s = (x / f.signWeight % 2 == 1) ∧ ∃ e : Nat, i = f.leastPlace + (e : Int) ∧
    ((e = 0 ∧ m < f.binade ∧ x % f.signWeight = m) ∨ (f.binade ≤ m ∧ m < 2 * f.binade ∧ x % f.signWeight = (e + 1) * f.binade + (m - f.binade))) := by
  unfold Ieee.Format.read at h
  have hb : 0 < f.binade := Nat.two_pow_pos _
  dsimp only at h
  split at h
  · rename_i h1
    cases h
    exact ⟨rfl, 0, by simp, .inl ⟨rfl, h1, rfl⟩⟩
  · rename_i h1
    split at h
    · cases h
      have hd : 1 ≤ x % f.signWeight / f.binade := (Nat.one_le_div_iff hb).2 (by omega)
      refine ⟨rfl, x % f.signWeight / f.binade - 1, rfl, .inr ⟨Nat.le_add_right _ _, ?_, ?_⟩⟩
      · have := Nat.mod_lt (x % f.signWeight) hb; omega
      · have h2 := Nat.div_add_mod (x % f.signWeight) f.binade
        rw [Nat.sub_add_cancel hd, Nat.add_sub_cancel_left, Nat.mul_comm]
        exact h2.symm
    · split at h <;> cases h
theorem pow_split {a b c : Nat} (h : a < b) : ∃ d, 2 ^ (c + b) = 2 ^ (c + a) * (2 * 2 ^ d) := by
  refine ⟨b - a - 1, ?_⟩
  rw [← Nat.pow_succ', ← Nat.pow_add]
  congr 1
  omega
theorem mant_eq {B m n e d : Nat} (hm : m < 2 * B) (hn : n < 2 * B) (h1 : e = 0 ∧ m < B ∨ B ≤ m) (h2 : d = 0 ∧ n < B ∨ B ≤ n) (h : m * 2 ^ e = n * 2 ^ d) : e = d ∧ m = n := by
  have key : ∀ {m n e d : Nat}, m < 2 * B → B ≤ n → e < d → m * 2 ^ e = n * 2 ^ d → False := by
    intro m n e d hm hn hlt h
    obtain ⟨c, hc⟩ := pow_split (c := 0) hlt
    rw [Nat.zero_add, Nat.zero_add] at hc
    have hp : 0 < 2 ^ e := Nat.two_pow_pos _
    have hq : 0 < 2 ^ c := Nat.two_pow_pos _
    rw [hc, Nat.mul_left_comm, Nat.mul_comm] at h
    have h' := Nat.eq_of_mul_eq_mul_left hp h
    have : n * 2 ≤ n * (2 * 2 ^ c) := Nat.mul_le_mul_left _ (by omega)
    omega
  rcases Nat.lt_trichotomy e d with hlt | heq | hlt
  · rcases h2 with ⟨h0, _⟩ | h2
    · omega
    · exact (key hm h2 hlt h).elim
  · subst heq
    exact ⟨rfl, Nat.eq_of_mul_eq_mul_right (Nat.two_pow_pos e) h⟩
  · rcases h1 with ⟨h0, _⟩ | h1
    · omega
    · exact (key hn h1 hlt h.symm).elim
theorem read_inj {f : Ieee.Format} {x y : Nat} (hx : x < 2 ^ f.width) (hy : y < 2 ^ f.width) (hs : (x / f.signWeight % 2 == 1) = (y / f.signWeight % 2 == 1)) (h : f.order x y = some .eq) : x = y := by
  have two : 2 ^ f.width = 2 * f.signWeight := by
    unfold Ieee.Format.width Ieee.Format.signWeight
    rw [Nat.add_assoc, Nat.add_comm 1, Nat.pow_succ, Nat.mul_comm]
  have hsw : 0 < f.signWeight := Nat.two_pow_pos _
  have hb : 0 < f.binade := Nat.two_pow_pos _
  have hdiv : ∀ {z : Nat}, z < 2 ^ f.width → z / f.signWeight < 2 := fun hz => by
    rw [Nat.div_lt_iff_lt_mul hsw]; omega
  have hd : x / f.signWeight = y / f.signWeight := by
    have h1 := hdiv hx
    have h2 := hdiv hy
    have e1 : x / f.signWeight % 2 = x / f.signWeight := Nat.mod_eq_of_lt h1
    have e2 : y / f.signWeight % 2 = y / f.signWeight := Nat.mod_eq_of_lt h2
    rw [e1, e2] at hs
    by_cases c1 : x / f.signWeight = 1
    · rw [c1] at hs
      have := (beq_iff_eq.1 hs.symm : y / f.signWeight = 1)
      omega
    · have : (x / f.signWeight == 1) = false := by simpa using c1
      rw [this] at hs
      have : y / f.signWeight ≠ 1 := by
        intro c; rw [c] at hs; cases hs
      omega
  suffices hr : x % f.signWeight = y % f.signWeight by
    rw [← Nat.div_add_mod x f.signWeight, ← Nat.div_add_mod y f.signWeight, hd, hr]
  unfold Ieee.Format.order at h
  cases ex : f.read x with
  | nan s t => rw [ex] at h; cases h
  | infinity s =>
    cases ey : f.read y with
    | nan s t => rw [ex, ey] at h; cases h
    | number t n j => rw [ex, ey] at h; simp only [Ieee.Datum.order] at h; split at h <;> cases h
    | infinity t =>
      have inf : ∀ {z : Nat} {s : Bool}, f.read z = .infinity s → z % f.signWeight = f.infRung := by
        intro z s hz
        unfold Ieee.Format.read at hz
        dsimp only at hz
        split at hz
        · cases hz
        · split at hz
          · cases hz
          · split at hz
            · assumption
            · cases hz
      rw [inf ex, inf ey]
  | number s m i =>
    cases ey : f.read y with
    | nan s t => rw [ex, ey] at h; cases h
    | infinity t => rw [ex, ey] at h; simp only [Ieee.Datum.order] at h; split at h <;> cases h
    | number t n j =>
      rw [ex, ey] at h
      obtain ⟨hs1, e, rfl, hm⟩ := read_pos ex
      obtain ⟨hs2, d, rfl, hn⟩ := read_pos ey
      have hst : s = t := by rw [hs1, hs2]; exact hs
      subst hst
      simp only [Ieee.Datum.order, Option.some.injEq, Int.compare_eq_eq] at h
      have hmin : min (f.leastPlace + (e : Int)) (f.leastPlace + (d : Int)) = f.leastPlace + (min e d : Nat) := by omega
      rw [hmin] at h
      have p1 : (f.leastPlace + (e : Int) - (f.leastPlace + (min e d : Nat))).toNat = e - min e d := by omega
      have p2 : (f.leastPlace + (d : Int) - (f.leastPlace + (min e d : Nat))).toNat = d - min e d := by omega
      rw [p1, p2] at h
      have hval : m * 2 ^ (e - min e d) = n * 2 ^ (d - min e d) := by
        unfold Ieee.signed at h
        cases s <;> simp [Nat.shiftLeft_eq] at h <;> first | exact_mod_cast h | (have h' := Int.neg_inj.1 h; exact_mod_cast h')
      have hval2 : m * 2 ^ e = n * 2 ^ d := by
        have e1 : 2 ^ e = 2 ^ (e - min e d) * 2 ^ (min e d) := by rw [← Nat.pow_add]; congr 1; omega
        have e2 : 2 ^ d = 2 ^ (d - min e d) * 2 ^ (min e d) := by rw [← Nat.pow_add]; congr 1; omega
        rw [e1, e2, ← Nat.mul_assoc, ← Nat.mul_assoc, hval]
      have hm' : m < 2 * f.binade := by rcases hm with h | h <;> omega
      have hn' : n < 2 * f.binade := by rcases hn with h | h <;> omega
      obtain ⟨rfl, rfl⟩ := mant_eq hm' hn' (by rcases hm with h | h; exact .inl ⟨h.1, h.2.1⟩; exact .inr h.1) (by rcases hn with h | h; exact .inl ⟨h.1, h.2.1⟩; exact .inr h.1) hval2
      rcases hm with hm | hm <;> rcases hn with hn | hn
      · rw [hm.2.2, hn.2.2]
      · omega
      · omega
      · rw [hm.2.2, hn.2.2]
theorem nearest_word (f : Ieee.Format) (neg : Bool) (m : Nat) (p : Int) : ∃ r, r ≤ f.infRung ∧ f.nearest neg m p = f.word neg r := by
  unfold Ieee.Format.nearest
  dsimp only
  split
  · exact ⟨0, Nat.zero_le _, rfl⟩
  · exact ⟨_, Nat.min_le_right .., rfl⟩
theorem word_sign (f : Ieee.Format) (neg : Bool) {r : Nat} (h : r ≤ f.infRung) : (f.word neg r / f.signWeight % 2 == 1) = neg := by
  have h' := Nat.lt_of_le_of_lt h f.infRung_lt
  have hs : 0 < f.signWeight := Nat.two_pow_pos _
  unfold Ieee.Format.word
  cases neg
  · rw [if_neg (by simp), Nat.div_eq_of_lt h']; rfl
  · rw [if_pos rfl, Nat.add_div_left _ hs, Nat.div_eq_of_lt h']; rfl
theorem read_sign {f : Ieee.Format} {x : Nat} {s : Bool} (h : f.read x = .infinity s) : s = (x / f.signWeight % 2 == 1) := by
  unfold Ieee.Format.read at h
  dsimp only at h
  split at h
  · cases h
  · split at h
    · cases h
    · split at h
      · cases h; rfl
      · cases h
theorem cv_sign (x : F32) (h : nanB .f32 x.bits = false) : nanB .f64 (Fl.cv .f32 .f64 x).bits = false ∧ ((Fl.cv .f32 .f64 x).bits / Ieee.double.signWeight % 2 == 1) = (x.bits / Ieee.single.signWeight % 2 == 1) := by
  have hs := cv_wide x
  show nanB .f64 ((convBits .f32 x.bits .f64).getD 0) = false ∧ ((convBits .f32 x.bits .f64).getD 0 / Ieee.double.signWeight % 2 == 1) = _
  have key : ∃ s r, r ≤ Ieee.double.infRung ∧ convBits .f32 x.bits .f64 = some (canonF .f64 (Ieee.double.word s r)) ∧ s = (x.bits / Ieee.single.signWeight % 2 == 1) := by
    unfold convBits at hs ⊢
    rw [h] at hs ⊢
    simp only [Bool.false_eq_true, if_false] at hs ⊢
    unfold floatToFloatBits at hs ⊢
    have hne : ¬ (FloatKind.f32 = FloatKind.f64) := by decide
    rw [if_neg hne] at hs ⊢
    have hnan : (FloatKind.f32.decode x.bits).isNaN = false := h
    split
    · rename_i e; rw [e] at hnan; simp [Ieee.Datum.isNaN] at hnan
    · rename_i s e
      exact ⟨s, Ieee.double.infRung, Nat.le_refl _, rfl, read_sign (f := Ieee.single) e⟩
    · rename_i s m p e
      obtain ⟨r, hr, hw⟩ := nearest_word Ieee.double s m p
      obtain ⟨b1, b2, b3⟩ := read_single x.bits e
      obtain ⟨r', hr', hw'⟩ := nearest_small s b1 b2 b3
      have hfin : (FloatKind.f64.decode (FloatKind.f64.encode (.number s m p))).isInfinity = false := by
        show (Ieee.double.read (Ieee.double.nearest s m p)).isInfinity = false
        rw [hw']
        exact read_word_fin s hr'
      rw [hfin]
      refine ⟨s, r, hr, ?_, (read_pos (f := Ieee.single) e).1⟩
      show some (canonF .f64 (Ieee.double.nearest s m p)) = _
      rw [hw]
  obtain ⟨s, r, hr, hc, hsg⟩ := key
  have hn : nanB .f64 (Ieee.double.word s r) = false := read_word_num Ieee.double s hr
  rw [hc]
  show nanB .f64 (canonF .f64 (Ieee.double.word s r)) = false ∧ (canonF .f64 (Ieee.double.word s r) / _ % 2 == 1) = _
  rw [canonF_num hn]
  exact ⟨hn, by rw [word_sign _ _ hr, hsg]⟩
theorem signbit_cv (K : Nat) (x : F32) (h : nanB .f32 x.bits = false) : math_Signbit K (Fl.cv .f32 .f64 x) = some (x.bits / Ieee.single.signWeight % 2 == 1) := by
  obtain ⟨h1, h2⟩ := cv_sign x h
  unfold math_Signbit math_Float64bits Fl.toBits
  rw [h1]
  simp only [Bool.false_eq_true, if_false, bind_of]
  have hl := (Fl.cv .f32 .f64 x).lt
  have e : 2 ^ FloatKind.f64.format.width = 18446744073709551616 := by decide
  have e2 : Ieee.double.signWeight = 9223372036854775808 := by decide
  rw [← h2, e2]
  generalize (Fl.cv .f32 .f64 x).bits = b at *
  rw [e] at hl
  rw [IntKind.wrap_i64]
  refine congrArg some ?_
  have h3 : b / 9223372036854775808 < 2 := by omega
  by_cases hb : b < 9223372036854775808
  · rw [Nat.div_eq_of_lt hb, decide_eq_false (by omega)]; rfl
  · have : b / 9223372036854775808 = 1 := by omega
    rw [this, decide_eq_true (by omega)]; rfl
/-- TWO NUMBERS ARE THE SAME, said in two ways. -/
theorem same_impl (K : Nat) (a b : F32) : impl_SameNumber K a b = some (bitsN a == bitsN b) := by
  unfold impl_SameNumber
  rw [ne_self a, ne_self b]
  have nb : ∀ (x : F32), nanB .f32 x.bits = false → (x.bits == 2143289344) = false := by
    intro x hx
    rw [beq_eq_false_iff_ne]
    intro h
    rw [h] at hx
    revert hx
    decide
  unfold bitsN
  rw [ne_self a, ne_self b]
  cases ha : nanB .f32 a.bits
  · cases hb : nanB .f32 b.bits
    · simp only [ite2_false, bind_of, Bool.false_eq_true, if_false, signbit_cv K a ha, signbit_cv K b hb]
      by_cases h : a.bits = b.bits
      · have he : a.eq b = true := by
          show (FloatKind.f32.format.order a.bits b.bits == some .eq) = true
          rw [← h]
          have : FloatKind.f32.format.order a.bits a.bits = some .eq := order_self ha
          rw [this]; rfl
        rw [he, h]
        simp [ite2]
      · have hne : (a.bits == b.bits) = false := by simpa using h
        rw [hne]
        cases he : a.eq b
        · rfl
        · have ho : FloatKind.f32.format.order a.bits b.bits = some .eq := by
            have : (FloatKind.f32.format.order a.bits b.bits == some .eq) = true := he
            simpa using this
          have : ((a.bits / Ieee.single.signWeight % 2 == 1) == (b.bits / Ieee.single.signWeight % 2 == 1)) = false := by
            rw [beq_eq_false_iff_ne]
            intro hs
            exact h (read_inj a.lt b.lt hs ho)
          simp only [ite2_true, bind_of, this]
    · have := nb a ha
      simp [ite2, this]
  · cases hb : nanB .f32 b.bits
    · have := nb b hb
      have h2 : (2143289344 == b.bits) = false := by
        rw [beq_eq_false_iff_ne] at this ⊢
        exact fun e => this e.symm
      simp [ite2, h2]
    · simp [ite2]
theorem same_spec (K : Nat) (a b : F32) : spec_l01Same K a b = some (bitsN a == bitsN b) := by
  unfold spec_l01Same
  rw [bits_spec, bits_spec, bind_of, bind_of]
  refine congrArg some ?_
  by_cases h : bitsN a = bitsN b
  · rw [h]; simp
  · have h1 : (bitsN a == bitsN b) = false := by simpa using h
    have h2 : ((bitsN a : Int) == (bitsN b : Int)) = false := by
      rw [beq_eq_false_iff_ne]; omega
    rw [h1, h2]
theorem strOf_append (a b : List Int) : strOf (a ++ b) = strOf a ++ strOf b := by
  apply ByteArray.ext
  simp [strOf]
theorem strOf_size (a : List Int) : (strOf a).size = a.length := by simp [strOf, ByteArray.size]
def InB (l : List Int) : Prop := ∀ x ∈ l, 0 ≤ x ∧ x < 256
theorem InB.append {a b : List Int} (ha : InB a) (hb : InB b) : InB (a ++ b) := fun x hx => by
  rcases List.mem_append.1 hx with h | h
  · exact ha x h
  · exact hb x h
/-- The lowest bytes of a number. -/
def Wl (v n : Nat) : List Int := (List.range n).map fun i => ((v / 2 ^ (8 * i) % 256 : Nat) : Int)
theorem Wl_in (v n : Nat) : InB (Wl v n) := fun x hx => by
  obtain ⟨i, _, rfl⟩ := List.mem_map.1 hx
  have := Nat.mod_lt (v / 2 ^ (8 * i)) (show 0 < 256 by omega)
  omega
theorem Wl_length (v n : Nat) : (Wl v n).length = n := by simp [Wl]
theorem Wl_succ (v n : Nat) : Wl v (n + 1) = Wl v n ++ [((v / 2 ^ (8 * n) % 256 : Nat) : Int)] := by simp [Wl, List.range_succ]
theorem word_loop (K v n : Nat) (hv : v < 4611686018427387904) (hn : n ≤ 4) : ∀ (k i : Nat), i ≤ n → n - i < k → spec_l10Word_l1 K (v : Int) (n : Int) k (i : Int) (Wl v i) = some (strOf (Wl v n)) := by
  intro k
  induction k with
  | zero => intro i _ h; omega
  | succ k ih =>
    intro i hi hk
    rw [spec_l10Word_l1, ite2_dec]
    by_cases h : i < n
    · have w1 : IntKind.i64.wrap ((8 : Int) * (i : Int)) = ((8 * i : Nat) : Int) := by rw [wrap_in (by omega) (by omega)]; omega
      have w2 : IntKind.u64.wrap ((8 * i : Nat) : Int) = ((8 * i : Nat) : Int) := by
        have : ∀ n : Int, IntKind.u64.wrap n = n % 18446744073709551616 := fun n => by simp [IntKind.wrap, IntKind.bits, IntKind.signed]
        rw [this]; omega
      have w5 : IntKind.i64.wrap ((i : Int) + 1) = ((i + 1 : Nat) : Int) := by rw [wrap_in (by omega) (by omega)]; omega
      have hmin : min (8 * i) (IntKind.bits .i64) = 8 * i := Nat.min_eq_left (by show 8 * i ≤ 64; omega)
      have hdiv : (v : Int).fdiv (2 ^ (8 * i)) = ((v / 2 ^ (8 * i) : Nat) : Int) := by
        rw [Int.fdiv_eq_ediv_of_nonneg _ (Int.le_of_lt (Int.pow_pos (by decide)))]
        push_cast
        rfl
      have hmask : bits .and .i64 ((v / 2 ^ (8 * i) : Nat) : Int) 255 = ((v / 2 ^ (8 * i) % 256 : Nat) : Int) := by
        have hlt : v / 2 ^ (8 * i) < 4611686018427387904 := Nat.lt_of_le_of_lt (Nat.div_le_self _ _) hv
        have := bits_mask .i64 62 (by decide) (fun n h0 h1 => wrap_in (by omega) (by omega)) 8 (by decide) ((v / 2 ^ (8 * i) : Nat) : Int) (Int.natCast_nonneg _) (by
          generalize v / 2 ^ (8 * i) = q at hlt
          omega)
        have e : ((2 : Int) ^ 8 - 1) = 255 := by decide
        rw [e] at this
        rw [this]
        omega
      have hw8 : IntKind.u8.wrap ((v / 2 ^ (8 * i) % 256 : Nat) : Int) = ((v / 2 ^ (8 * i) % 256 : Nat) : Int) := by rw [IntKind.wrap_u8]; omega
      rw [if_pos (by omega), w1, w2, w5, chk_pos (by omega), Int.toNat_natCast, hmin, hdiv, hmask, hw8, chk_pos (by rw [Wl_length]; simp; omega), ← Wl_succ]
      exact ih (i + 1) (by omega) (by omega)
    · have e : i = n := by omega
      rw [if_neg (by omega), e, chk_pos (show ∀ x ∈ Wl v n, 0 ≤ x ∧ x < 256 from Wl_in v n)]
theorem word_eq {K v n : Nat} (hv : v < 4611686018427387904) (hn : n ≤ 4) (hK : 4 < K) : spec_l10Word K (v : Int) (n : Int) = some (strOf (Wl v n)) :=
  word_loop K v n hv hn K 0 (by omega) (by omega)
theorem check_loop (K : Nat) (s : ByteArray) (hs : s.size < 2000000) : ∀ (k i c : Nat), c < 65003 → i ≤ s.size → s.size - i < k → ∃ d : Nat, d < 65003 ∧ spec_l01Check_l1 K s k (c : Int) (i : Int) = some (d : Int) ∧ impl_check_l1 K s k (c : Int) (i : Int) = some (d : Int) := by
  intro k
  induction k with
  | zero => intro i c _ _ h; omega
  | succ k ih =>
    intro i c hc hi hk
    rw [spec_l01Check_l1, impl_check_l1, ite2_dec, ite2_dec]
    by_cases h : i < s.size
    · have hb : ∃ b : Nat, b < 256 ∧ bt s i = (b : Int) := ⟨((s.data.toList[i]?).getD 0).toNat, UInt8.toNat_lt _, rfl⟩
      obtain ⟨b, hb1, hb2⟩ := hb
      have w5 : IntKind.i64.wrap ((i : Int) + 1) = ((i + 1 : Nat) : Int) := by rw [wrap_in (by omega) (by omega)]; omega
      have v1 : IntKind.i64.wrap ((613 : Int) * (c : Int)) = 613 * (c : Int) := wrap_in (by omega) (by omega)
      have v2 : IntKind.i64.wrap (b : Int) = (b : Int) := wrap_in (by omega) (by omega)
      have v3 : IntKind.i64.wrap (613 * (c : Int) + (b : Int)) = 613 * (c : Int) + (b : Int) := wrap_in (by omega) (by omega)
      have v4 : IntKind.i64.wrap (613 * (c : Int) + (b : Int) + 23) = ((613 * c + b + 23 : Nat) : Int) := by rw [wrap_in (by omega) (by omega)]; omega
      have v5 : ((613 * c + b + 23 : Nat) : Int).tmod (65003 : Int) = (((613 * c + b + 23) % 65003 : Nat) : Int) := by
        rw [Int.tmod_eq_emod_of_nonneg (by omega)]; omega
      rw [if_pos (by omega), if_pos (by omega), chk_pos (by omega), chk_pos (by omega), chk_pos (by omega), chk_pos (by omega), Int.toNat_natCast, hb2, v1, v2, v3, v4, v5, w5]
      exact ih (i + 1) _ (Nat.mod_lt _ (by omega)) (by omega) (by omega)
    · rw [if_neg (by omega), if_neg (by omega)]
      exact ⟨c, hc, rfl, rfl⟩
theorem check_eq {K : Nat} {s : ByteArray} (hs : s.size < 2000000) (hK : s.size < K) : ∃ d : Nat, d < 65003 ∧ spec_l01Check K 0 s = some (d : Int) ∧ impl_check K 0 s = some (d : Int) :=
  check_loop K s hs K 0 0 (by omega) (by omega) (by omega)
theorem changed_eq (K : Nat) (a b : List F32) : ∀ (k : Nat) (i : Int) (xs : List Int), spec_l10Changed_l1 K a b k i xs = impl_changed_l1 K a b k i xs := by
  intro k
  induction k with
  | zero => intro i xs; rw [spec_l10Changed_l1, impl_changed_l1]
  | succ k ih =>
    intro i xs
    rw [spec_l10Changed_l1, impl_changed_l1]
    simp only [same_spec, same_impl, bind_of, ih]
theorem changed_loop (K : Nat) (a b : List F32) (hl : a.length = b.length) (ha : a.length ≤ 51) : ∀ (k i : Nat) (xs : List Int), i ≤ a.length → xs.length ≤ i → (∀ x ∈ xs, 0 ≤ x ∧ x < (a.length : Int)) → a.length - i < k →
    ∃ ys, impl_changed_l1 K a b k (i : Int) xs = some ys ∧ ys.length ≤ a.length ∧ ∀ x ∈ ys, 0 ≤ x ∧ x < (a.length : Int) := by
  intro k
  induction k with
  | zero => intro i xs _ _ _ h; omega
  | succ k ih =>
    intro i xs hi hx hr hk
    rw [impl_changed_l1, ite2_dec]
    by_cases h : i < a.length
    · have w5 : IntKind.i64.wrap ((i : Int) + 1) = ((i + 1 : Nat) : Int) := by rw [wrap_in (by omega) (by omega)]; omega
      rw [if_pos (by omega), chk_pos (by omega), chk_pos (by omega), same_impl, bind_of, w5]
      cases (bitsN (a.getD (i : Int).toNat default) == bitsN (b.getD (i : Int).toNat default))
      · rw [Bool.not_false, ite2_true, chk_pos (by simp; omega)]
        refine ih (i + 1) _ (by omega) (by simp; omega) (fun x hx' => ?_) (by omega)
        rcases List.mem_append.1 hx' with g | g
        · exact hr x g
        · rw [List.mem_singleton.1 g]; omega
      · rw [Bool.not_true, ite2_false]
        exact ih (i + 1) _ (by omega) (by omega) hr (by omega)
    · rw [if_neg (by omega)]
      exact ⟨xs, rfl, by omega, hr⟩
theorem changed_some {K : Nat} {a b : List F32} (hl : a.length = b.length) (ha : a.length ≤ 51) (hK : 51 < K) : ∃ ys, impl_changed K a b = some ys ∧ spec_l10Changed K a b = some ys ∧ ys.length ≤ a.length ∧ ∀ x ∈ ys, 0 ≤ x ∧ x < (a.length : Int) := by
  obtain ⟨ys, h1, h2, h3⟩ := changed_loop K a b hl ha K 0 [] (by omega) (by simp) (by simp) (by omega)
  exact ⟨ys, h1, (changed_eq K a b K 0 []).trans h1, h2, h3⟩
theorem wrap_u8_nat (n : Nat) : IntKind.u8.wrap (n : Int) = ((n % 256 : Nat) : Int) := by rw [IntKind.wrap_u8]; omega
theorem fdiv_nat (n m : Nat) : (n : Int).fdiv (2 ^ m) = ((n / 2 ^ m : Nat) : Int) := by
  rw [Int.fdiv_eq_ediv_of_nonneg _ (Int.le_of_lt (Int.pow_pos (by decide)))]
  push_cast
  rfl
theorem Wl1 (v : Nat) : Wl v 1 = [IntKind.u8.wrap (v : Int)] := by
  rw [wrap_u8_nat]
  simp [Wl, List.range_succ]
theorem Wl2 (v : Nat) : Wl v 2 = [IntKind.u8.wrap (v : Int), IntKind.u8.wrap ((v : Int).fdiv (2 ^ 8))] := by
  rw [fdiv_nat, wrap_u8_nat, wrap_u8_nat]
  simp [Wl, List.range_succ]
theorem Wl4 (v : Nat) : Wl v 4 = [IntKind.u8.wrap (v : Int), IntKind.u8.wrap ((v : Int).fdiv (2 ^ 8)), IntKind.u8.wrap ((v : Int).fdiv (2 ^ 16)), IntKind.u8.wrap ((v : Int).fdiv (2 ^ 24))] := by
  rw [fdiv_nat, fdiv_nat, fdiv_nat, wrap_u8_nat, wrap_u8_nat, wrap_u8_nat, wrap_u8_nat]
  simp [Wl, List.range_succ]
theorem min8 : min (8 : Int).toNat (IntKind.bits .i64) = 8 := by decide
theorem min16 : min (16 : Int).toNat (IntKind.bits .i64) = 16 := by decide
theorem min24 : min (24 : Int).toNat (IntKind.bits .i64) = 24 := by decide

end Go.Fw
