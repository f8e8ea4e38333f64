/- Two numbers are the same just if their words are. (A template.) -/
import Derived.Test.YtcgakaboochpaadGreatFwGK
import Derived.Test.YtcgakaboochpaadGreatFwLW
namespace Go.Fw
open Go

theorem zfb {k : FloatKind} (x : Fl k) : x.ne x = nanB k x.bits := by
 show (k.format.order x.bits x.bits != some .eq) = _
 unfold Ieee.Format.order nanB
 cases h : k.format.read x.bits with
 | number s m i => simp [Ieee.Datum.order, Ieee.Datum.isNaN]
 | infinity s => simp [Ieee.Datum.order, Ieee.Datum.isNaN]
 | nan s t => simp [Ieee.Datum.order, Ieee.Datum.isNaN]

def bitsN (a : F32) : Nat := if a.ne a then 2143289344 else a.bits
theorem bitsN_lt (a : F32) : bitsN a < 4294967296 := by
 unfold bitsN
 split
 ·omega
 ·have h := a.lt
  have e : 2 ^ FloatKind.f32.format.width = 4294967296 := by decide
  omega
theorem zfm {f : Ieee.Format} {x : Nat} {s : Bool} {m : Nat} {i : Int} (h : f.read x = .number s m i) : s = (x / f.signWeight % 2 == 1) ∧ ∃ e : Nat, i = f.leastPlace + (e : Int) ∧
  ((e = 0 ∧ m < f.binade ∧ x % f.signWeight = m) ∨ (f.binade ≤ m ∧ m < 2 * f.binade ∧ x % f.signWeight = (e + 1) * f.binade + (m - f.binade))) := by
 unfold Ieee.Format.read at h
 have hb : 0 < f.binade := Nat.two_pow_pos _
 dsimp only at h
 split at h
 ·rename_i h1
  cases h
  exact ⟨rfl, 0, by simp, .inl ⟨rfl, h1, rfl⟩⟩
 ·rename_i h1
  split at h
  ·cases h
   have hd : 1 ≤ x % f.signWeight / f.binade := (Nat.one_le_div_iff hb).2 (by omega)
   refine ⟨rfl, x % f.signWeight / f.binade - 1, rfl, .inr ⟨Nat.le_add_right _ _, ?_, ?_⟩⟩
   ·have := Nat.mod_lt (x % f.signWeight) hb; omega
   ·have h2 := Nat.div_add_mod (x % f.signWeight) f.binade
    rw [Nat.sub_add_cancel hd, Nat.add_sub_cancel_left, Nat.mul_comm]
    exact h2.symm
  ·split at h <;> cases h
theorem pow_split {a b c : Nat} (h : a < b) : ∃ d, 2 ^ (c + b) = 2 ^ (c + a) * (2 * 2 ^ d) := by
 refine ⟨b - a - 1, ?_⟩
 rw [← Nat.pow_succ', ← Nat.pow_add]
 congr 1
 omega
theorem mant_eq {B m n e d : Nat} (hm : m < 2 * B) (hn : n < 2 * B) (h1 : e = 0 ∧ m < B ∨ B ≤ m) (h2 : d = 0 ∧ n < B ∨ B ≤ n) (h : m * 2 ^ e = n * 2 ^ d) : e = d ∧ m = n := by
 have key : ∀ {m n e d : Nat}, m < 2 * B → B ≤ n → e < d → m * 2 ^ e = n * 2 ^ d → False := by
  intro m n e d hm hn hlt h
  obtain ⟨c, hc⟩ := pow_split (c := 0) hlt
  rw [Nat.zero_add, Nat.zero_add] at hc
  have hp : 0 < 2 ^ e := Nat.two_pow_pos _
  have hq : 0 < 2 ^ c := Nat.two_pow_pos _
  rw [hc, Nat.mul_left_comm, Nat.mul_comm] at h
  have h' := Nat.eq_of_mul_eq_mul_left hp h
  have : n * 2 ≤ n * (2 * 2 ^ c) := Nat.mul_le_mul_left _ (by omega)
  omega
 rcases Nat.lt_trichotomy e d with hlt | heq | hlt
 ·rcases h2 with ⟨h0, _⟩ | h2
  ·omega
  ·exact (key hm h2 hlt h).elim
 ·subst heq
  exact ⟨rfl, Nat.eq_of_mul_eq_mul_right (Nat.two_pow_pos e) h⟩
 ·rcases h1 with ⟨h0, _⟩ | h1
  ·omega
  ·exact (key hn h1 hlt h.symm).elim

theorem read_inj {f : Ieee.Format} {x y : Nat} (hx : x < 2 ^ f.width) (hy : y < 2 ^ f.width) (hs : (x / f.signWeight % 2 == 1) = (y / f.signWeight % 2 == 1)) (h : f.order x y = some .eq) : x = y := by
 have two : 2 ^ f.width = 2 * f.signWeight := by
  unfold Ieee.Format.width Ieee.Format.signWeight
  rw [Nat.add_assoc, Nat.add_comm 1, Nat.pow_succ, Nat.mul_comm]
 have hsw : 0 < f.signWeight := Nat.two_pow_pos _
 have hb : 0 < f.binade := Nat.two_pow_pos _
 have hdiv : ∀ {z : Nat}, z < 2 ^ f.width → z / f.signWeight < 2 := fun hz => by
  rw [Nat.div_lt_iff_lt_mul hsw]; omega
 have hd : x / f.signWeight = y / f.signWeight := by
  have h1 := hdiv hx
  have h2 := hdiv hy
  have e1 : x / f.signWeight % 2 = x / f.signWeight := Nat.mod_eq_of_lt h1
  have e2 : y / f.signWeight % 2 = y / f.signWeight := Nat.mod_eq_of_lt h2
  rw [e1, e2] at hs
  by_cases c1 : x / f.signWeight = 1
  ·rw [c1] at hs
   have := (beq_iff_eq.1 hs.symm : y / f.signWeight = 1)
   omega
  ·have : (x / f.signWeight == 1) = false := by simpa using c1
   rw [this] at hs
   have : y / f.signWeight ≠ 1 := by
    intro c; rw [c] at hs; cases hs
   omega
 suffices hr : x % f.signWeight = y % f.signWeight by
  rw [← Nat.div_add_mod x f.signWeight, ← Nat.div_add_mod y f.signWeight, hd, hr]
 unfold Ieee.Format.order at h
 cases ex : f.read x with
 | nan s t => rw [ex] at h; cases h
 | infinity s =>
  cases ey : f.read y with
  | nan s t => rw [ex, ey] at h; cases h
  | number t n j => rw [ex, ey] at h; simp only [Ieee.Datum.order] at h; split at h <;> cases h
  | infinity t =>
   have inf : ∀ {z : Nat} {s : Bool}, f.read z = .infinity s → z % f.signWeight = f.infRung := by
    intro z s hz
    unfold Ieee.Format.read at hz
    dsimp only at hz
    split at hz
    ·cases hz
    ·split at hz
     ·cases hz
     ·split at hz
      ·assumption
      ·cases hz
   rw [inf ex, inf ey]
 | number s m i =>
  cases ey : f.read y with
  | nan s t => rw [ex, ey] at h; cases h
  | infinity t => rw [ex, ey] at h; simp only [Ieee.Datum.order] at h; split at h <;> cases h
  | number t n j =>
   rw [ex, ey] at h
   obtain ⟨hs1, e, rfl, hm⟩ := zfm ex
   obtain ⟨hs2, d, rfl, hn⟩ := zfm ey
   have hst : s = t := by rw [hs1, hs2]; exact hs
   subst hst
   simp only [Ieee.Datum.order, Option.some.injEq, Int.compare_eq_eq] at h
   have hmin : min (f.leastPlace + (e : Int)) (f.leastPlace + (d : Int)) = f.leastPlace + (min e d : Nat) := by omega
   rw [hmin] at h
   have p1 : (f.leastPlace + (e : Int) - (f.leastPlace + (min e d : Nat))).toNat = e - min e d := by omega
   have p2 : (f.leastPlace + (d : Int) - (f.leastPlace + (min e d : Nat))).toNat = d - min e d := by omega
   rw [p1, p2] at h
   have hval : m * 2 ^ (e - min e d) = n * 2 ^ (d - min e d) := by
    unfold Ieee.signed at h
    cases s <;> simp [Nat.shiftLeft_eq] at h <;> first | exact_mod_cast h | (have h' := Int.neg_inj.1 h; exact_mod_cast h')
   have hval2 : m * 2 ^ e = n * 2 ^ d := by
    have e1 : 2 ^ e = 2 ^ (e - min e d) * 2 ^ (min e d) := by rw [← Nat.pow_add]; congr 1; omega
    have e2 : 2 ^ d = 2 ^ (d - min e d) * 2 ^ (min e d) := by rw [← Nat.pow_add]; congr 1; omega
    rw [e1, e2, ← Nat.mul_assoc, ← Nat.mul_assoc, hval]
   have hm' : m < 2 * f.binade := by rcases hm with h | h <;> omega
   have hn' : n < 2 * f.binade := by rcases hn with h | h <;> omega
   obtain ⟨rfl, rfl⟩ := mant_eq hm' hn' (by rcases hm with h | h; exact .inl ⟨h.1, h.2.1⟩; exact .inr h.1) (by rcases hn with h | h; exact .inl ⟨h.1, h.2.1⟩; exact .inr h.1) hval2
   rcases hm with hm | hm <;> rcases hn with hn | hn
   ·rw [hm.2.2, hn.2.2]
   ·omega
   ·omega
   ·rw [hm.2.2, hn.2.2]

theorem nearest_word (f : Ieee.Format) (neg : Bool) (m : Nat) (p : Int) : ∃ r, r ≤ f.infRung ∧ f.nearest neg m p = f.word neg r := by
 unfold Ieee.Format.nearest
 dsimp only
 split
 ·exact ⟨0, Nat.zero_le _, rfl⟩
 ·exact ⟨_, Nat.min_le_right .., rfl⟩
theorem word_sign (f : Ieee.Format) (neg : Bool) {r : Nat} (h : r ≤ f.infRung) : (f.word neg r / f.signWeight % 2 == 1) = neg := by
 have h' := Nat.lt_of_le_of_lt h f.infRung_lt
 have hs : 0 < f.signWeight := Nat.two_pow_pos _
 unfold Ieee.Format.word
 cases neg
 ·rw [if_neg (by simp), Nat.div_eq_of_lt h']; rfl
 ·rw [if_pos rfl, Nat.add_div_left _ hs, Nat.div_eq_of_lt h']; rfl
theorem read_sign {f : Ieee.Format} {x : Nat} {s : Bool} (h : f.read x = .infinity s) : s = (x / f.signWeight % 2 == 1) := by
 unfold Ieee.Format.read at h
 dsimp only at h
 split at h
 ·cases h
 ·split at h
  ·cases h
  ·split at h
   ·cases h; rfl
   ·cases h
theorem cv_sign (x : F32) (h : nanB .f32 x.bits = false) : nanB .f64 (Fl.cv .f32 .f64 x).bits = false ∧ ((Fl.cv .f32 .f64 x).bits / Ieee.double.signWeight % 2 == 1) = (x.bits / Ieee.single.signWeight % 2 == 1) := by
 have hs := zbb x
 show nanB .f64 ((zqw .f32 x.bits .f64).getD 0) = false ∧ ((zqw .f32 x.bits .f64).getD 0 / Ieee.double.signWeight % 2 == 1) = _
 have key : ∃ s r, r ≤ Ieee.double.infRung ∧ zqw .f32 x.bits .f64 = some (zq2 .f64 (Ieee.double.word s r)) ∧ s = (x.bits / Ieee.single.signWeight % 2 == 1) := by
  unfold zqw at hs ⊢
  rw [h] at hs ⊢
  simp only [Bool.false_eq_true, if_false] at hs ⊢
  unfold floatToFloatBits at hs ⊢
  have hne : ¬ (FloatKind.f32 = FloatKind.f64) := by decide
  rw [if_neg hne] at hs ⊢
  have hnan : (FloatKind.f32.decode x.bits).isNaN = false := h
  split
  ·rename_i e; rw [e] at hnan; simp [Ieee.Datum.isNaN] at hnan
  ·rename_i s e
   exact ⟨s, Ieee.double.infRung, Nat.le_refl _, rfl, read_sign (f := Ieee.single) e⟩
  ·rename_i s m p e
   obtain ⟨r, hr, hw⟩ := nearest_word Ieee.double s m p
   obtain ⟨b1, b2, b3⟩ := zcj x.bits e
   obtain ⟨r', hr', hw'⟩ := zbo s b1 b2 b3
   have hfin : (FloatKind.f64.decode (FloatKind.f64.encode (.number s m p))).isInfinity = false := by
    show (Ieee.double.read (Ieee.double.nearest s m p)).isInfinity = false
    rw [hw']
    exact zbd s hr'
   rw [hfin]
   refine ⟨s, r, hr, ?_, (zfm (f := Ieee.single) e).1⟩
   show some (zq2 .f64 (Ieee.double.nearest s m p)) = _
   rw [hw]
 obtain ⟨s, r, hr, hc, hsg⟩ := key
 have hn : nanB .f64 (Ieee.double.word s r) = false := read_word_num Ieee.double s hr
 rw [hc]
 show nanB .f64 (zq2 .f64 (Ieee.double.word s r)) = false ∧ (zq2 .f64 (Ieee.double.word s r) / _ % 2 == 1) = _
 rw [zwh hn]
 exact ⟨hn, by rw [word_sign _ _ hr, hsg]⟩
theorem signbit_cv (K : Nat) (x : F32) (h : nanB .f32 x.bits = false) : zv9 K (Fl.cv .f32 .f64 x) = some (x.bits / Ieee.single.signWeight % 2 == 1) := by
 obtain ⟨h1, h2⟩ := cv_sign x h
 unfold zv9 zyc Fl.toBits
 rw [h1]
 simp only [Bool.false_eq_true, if_false, zqf]
 have hl := (Fl.cv .f32 .f64 x).lt
 have e : 2 ^ FloatKind.f64.format.width = 18446744073709551616 := by decide
 have e2 : Ieee.double.signWeight = 9223372036854775808 := by decide
 rw [← h2, e2]
 generalize (Fl.cv .f32 .f64 x).bits = b at *
 rw [e] at hl
 rw [IntKind.wrap_i64]
 refine congrArg some ?_
 have h3 : b / 9223372036854775808 < 2 := by omega
 by_cases hb : b < 9223372036854775808
 ·rw [Nat.div_eq_of_lt hb, decide_eq_false (by omega)]; rfl
 ·have : b / 9223372036854775808 = 1 := by omega
  rw [this, decide_eq_true (by omega)]; rfl

theorem same_impl (K : Nat) (a b : F32) : zwr K a b = some (bitsN a == bitsN b) := by
 unfold zwr
 rw [zfb a, zfb b]
 have nb : ∀ (x : F32), nanB .f32 x.bits = false → (x.bits == 2143289344) = false := by
  intro x hx
  rw [beq_eq_false_iff_ne]
  intro h
  rw [h] at hx
  revert hx
  decide
 unfold bitsN
 rw [zfb a, zfb b]
 cases ha : nanB .f32 a.bits
 ·cases hb : nanB .f32 b.bits
  ·simp only [zql, zqf, Bool.false_eq_true, if_false, signbit_cv K a ha, signbit_cv K b hb]
   by_cases h : a.bits = b.bits
   ·have he : a.eq b = true := by
     show (FloatKind.f32.format.order a.bits b.bits == some .eq) = true
     rw [← h]
     have : FloatKind.f32.format.order a.bits a.bits = some .eq := order_self ha
     rw [this]; rfl
    rw [he, h]
    simp [ite2]
   ·have hne : (a.bits == b.bits) = false := by simpa using h
    rw [hne]
    cases he : a.eq b
    ·rfl
    ·have ho : FloatKind.f32.format.order a.bits b.bits = some .eq := by
      have : (FloatKind.f32.format.order a.bits b.bits == some .eq) = true := he
      simpa using this
     have : ((a.bits / Ieee.single.signWeight % 2 == 1) == (b.bits / Ieee.single.signWeight % 2 == 1)) = false := by
      rw [beq_eq_false_iff_ne]
      intro hs
      exact h (read_inj a.lt b.lt hs ho)
     simp only [zq6, zqf, this]
  ·have := nb a ha
   simp [ite2, this]
 ·cases hb : nanB .f32 b.bits
  ·have := nb b hb
   have h2 : (2143289344 == b.bits) = false := by
    rw [beq_eq_false_iff_ne] at this ⊢
    exact fun e => this e.symm
   simp [ite2, h2]
  ·simp [ite2]

end Go.Fw
