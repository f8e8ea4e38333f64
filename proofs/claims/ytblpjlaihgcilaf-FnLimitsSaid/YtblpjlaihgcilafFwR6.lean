
import Derived.Test.YtblpjlaihgcilafFwR5
namespace Go.Fw
open Go Go.RowKit
def csI (k : IntKind) (x : Int) : List C := [.int k x]
def csL {α : Type} [Inhabited α] (sz : Nat) (cs : α → List C) (xs : List α) : List C := [sl sz cs xs]
def ScalarT {α : Type} (sz : Nat) (cs : α → List C) : Prop := ∀ x j, j < sz → scalarC ((cs x).getD j .nilptr)
theorem gl_scalar {α : Type} [Inhabited α] {sz : Nat} {cs : α → List C} {n : Nat} (h : ScalarT sz cs) (xs : List α) : ∀ i j, i < n → j < sz → scalarC (gl cs xs i j) := fun _ j _ hj => h _ j hj
theorem convBits_ok (s k : FloatKind) (x : Fl s) : okF k ((convBits s x.bits k).getD 0) = true := by
  have h0 : okF k 0 = true := by cases k <;> decide
  cases h : convBits s x.bits k with
  | none => exact h0
  | some r =>
    unfold convBits at h
    split at h
    · cases h; exact okF_nanBits k
    · simp only [Option.map_eq_some_iff] at h
      obtain ⟨b, hb, rfl⟩ := h
      refine okF_canonF ?_
      have := floatToFloatBits_wf (wf_of_lt s x.bits x.lt) hb
      cases k <;> (simp [Lit.wf] at this; exact this)
def Fl.cv (s k : FloatKind) (x : Fl s) : Fl k := ⟨(convBits s x.bits k).getD 0, convBits_ok s k x⟩
theorem read_word_fin (neg : Bool) {r : Nat} (h : r < 9218868437227405312) : (Ieee.double.read (Ieee.double.word neg r)).isInfinity = false := by
  have e : Ieee.double.word neg r % Ieee.double.signWeight = r := by
    have hs : Ieee.double.signWeight = 9223372036854775808 := by decide
    unfold Ieee.Format.word
    rw [hs]
    split <;> omega
  have hb : Ieee.double.infRung = 9218868437227405312 := by decide
  unfold Ieee.Format.read
  simp only [e, hb]
  split
  · rfl
  · first
    | rfl
    | (split
       · rfl
       · first
         | omega
         | (split
            · omega
            · rfl))
theorem nearest_small (neg : Bool) {m : Nat} {p : Int} (hm : m < 16777216) (h1 : -149 ≤ p) (h2 : p ≤ 104) : ∃ r, r < 9218868437227405312 ∧ Ieee.double.nearest neg m p = Ieee.double.word neg r := by
  unfold Ieee.Format.nearest
  by_cases h0 : m = 0
  · rw [if_pos h0]; exact ⟨0, by omega, rfl⟩
  · rw [if_neg h0]
    have hfb : Ieee.double.fractionBits = 52 := rfl
    have hlp : Ieee.double.leastPlace = -1074 := by decide
    have hbn : Ieee.double.binade = 4503599627370496 := by decide
    have hir : Ieee.double.infRung = 9218868437227405312 := by decide
    have hL : m.log2 < 24 := (Nat.log2_lt h0).2 (by omega)
    have hmL : m < 2 ^ (m.log2 + 1) := Nat.lt_log2_self
    refine ⟨_, ?_, rfl⟩
    simp only [hfb, hlp, hbn, hir]
    have hmax : max (p + (m.log2 : Int) - (52 : Nat)) (-1074) = p + (m.log2 : Int) - 52 := by omega
    rw [hmax]
    have e1 : (p - (p + (m.log2 : Int) - 52)).toNat = 52 - m.log2 := by omega
    have e2 : (p + (m.log2 : Int) - 52 - p).toNat = 0 := by omega
    rw [e1, e2]
    have hcut : ∀ n : Nat, Ieee.Toward.even.cut neg n 0 = n := by
      intro n
      unfold Ieee.Toward.cut
      simp [Nat.mod_one]
    rw [hcut, Nat.shiftLeft_eq]
    have hk : m * 2 ^ (52 - m.log2) < 9007199254740992 := by
      have : 2 ^ (m.log2 + 1) * 2 ^ (52 - m.log2) = 9007199254740992 := by
        rw [← Nat.pow_add]
        have : m.log2 + 1 + (52 - m.log2) = 53 := by omega
        rw [this]
      rw [← this]
      exact Nat.mul_lt_mul_of_pos_right hmL (Nat.two_pow_pos _)
    generalize m * 2 ^ (52 - m.log2) = q at hk ⊢
    have ht : (p + (m.log2 : Int) - 52 - -1074).toNat ≤ 1149 := by omega
    generalize (p + (m.log2 : Int) - 52 - -1074).toNat = t at ht ⊢
    have hle : t * 4503599627370496 ≤ 1149 * 4503599627370496 := Nat.mul_le_mul_right _ ht
    have hlt : t * 4503599627370496 + q < 9218868437227405312 := Nat.lt_of_lt_of_le (Nat.add_lt_add_of_le_of_lt hle hk) (Nat.le_of_ble_eq_true rfl)
    exact Nat.lt_of_le_of_lt (Nat.min_le_left _ _) hlt
theorem read_single (b : Nat) {neg : Bool} {m : Nat} {p : Int} (h : Ieee.single.read b = .number neg m p) : m < 16777216 ∧ -149 ≤ p ∧ p ≤ 104 := by
  have hs : Ieee.single.signWeight = 2147483648 := by decide
  have hb : Ieee.single.binade = 8388608 := by decide
  have hi : Ieee.single.infRung = 2139095040 := by decide
  have hl : Ieee.single.leastPlace = -149 := by decide
  unfold Ieee.Format.read at h
  simp only [hs, hb, hi, hl] at h
  split at h
  · cases h; omega
  · split at h
    · cases h; omega
    · split at h <;> cases h
theorem cv_wide (x : F32) : (convBits .f32 x.bits .f64).isSome = true := by
  unfold convBits
  split
  · rfl
  · rename_i hn
    rw [Option.isSome_map]
    unfold floatToFloatBits
    have hne : ¬ (FloatKind.f32 = FloatKind.f64) := by decide
    rw [if_neg hne]
    have hnan : (FloatKind.f32.decode x.bits).isNaN = false := by
      have : nanB .f32 x.bits = false := by simpa using hn
      exact this
    split
    · rename_i e; rw [e] at hnan; simp [Ieee.Datum.isNaN] at hnan
    · rfl
    · rename_i sg mm ee e
      obtain ⟨b1, b2, b3⟩ := read_single x.bits e
      obtain ⟨r, hr, hw⟩ := nearest_small sg b1 b2 b3
      have : (FloatKind.f64.decode (FloatKind.f64.encode (.number sg mm ee))).isInfinity = false := by
        show (Ieee.double.read (Ieee.double.nearest sg mm ee)).isInfinity = false
        rw [hw]
        exact read_word_fin sg hr
      rw [this]
      rfl
theorem lt_of_bound {i : Int} {n : Nat} (h : 0 ≤ i ∧ i < (n : Int)) : i.toNat < n := by omega
theorem Sub.keep {cx : Cx} {s s' : St} (ts ids : List Nat) (h : okRestr ids (Fw.restr ts ids s) = true) (he : Fw.restr ts ids s = s') : Sub cx s s' := he ▸ Sub.restr ts ids h
end Go.Fw
