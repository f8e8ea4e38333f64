/- Cells of values, by type; numbers turned into another kind. -/
import Derived.Test.YtblpjlaihgcilacFwR5
namespace Go.Fw
open Go Go.RowKit

def csI (k : IntKind) (x : Int) : List C := [.int k x]
def csB (x : Bool) : List C := [.bool x]
def csF (k : FloatKind) (x : Fl k) : List C := [.flt k x.bits]
def csS (x : ByteArray) : List C := [.str x]
def csL {α : Type} [Inhabited α] (sz : Nat) (cs : α → List C) (xs : List α) : List C := [sl sz cs xs]

/-- The cells are scalars. -/
def ScalarT {α : Type} (sz : Nat) (cs : α → List C) : Prop := ∀ x j, j < sz → scalarC ((cs x).getD j .nilptr)
theorem scOne {α : Type} {cs : α → List C} (h : ∀ x, scalarC ((cs x).getD 0 .nilptr)) : ScalarT 1 cs := by
  intro x j hj
  have : j = 0 := by omega
  subst this
  exact h x
theorem scI {k : IntKind} : ScalarT 1 (csI k) := scOne fun _ => trivial
theorem scB : ScalarT 1 csB := scOne fun _ => trivial
theorem scF {k : FloatKind} : ScalarT 1 (csF k) := scOne fun _ => trivial
theorem scS : ScalarT 1 csS := scOne fun _ => trivial
theorem gl_scalar {α : Type} [Inhabited α] {sz : Nat} {cs : α → List C} {n : Nat} (h : ScalarT sz cs) (xs : List α) : ∀ i j, i < n → j < sz → scalarC (gl cs xs i j) := fun _ j _ hj => h _ j hj

theorem convBits_ok (s k : FloatKind) (x : Fl s) : okF k ((convBits s x.bits k).getD 0) = true := by
  have h0 : okF k 0 = true := by cases k <;> decide
  cases h : convBits s x.bits k with
  | none => exact h0
  | some r =>
    unfold convBits at h
    split at h
    · cases h; exact okF_nanBits k
    · simp only [Option.map_eq_some_iff] at h
      obtain ⟨b, hb, rfl⟩ := h
      refine okF_canonF ?_
      have := floatToFloatBits_wf (wf_of_lt s x.bits x.lt) hb
      cases k <;> (simp [Lit.wf] at this; exact this)
/-- A float64 as a float32, and the other way. -/
def Fl.cv (s k : FloatKind) (x : Fl s) : Fl k := ⟨(convBits s x.bits k).getD 0, convBits_ok s k x⟩
theorem read_word_fin (neg : Bool) {r : Nat} (h : r < 9218868437227405312) : (Ieee.double.read (Ieee.double.word neg r)).isInfinity = false := by
  have e : Ieee.double.word neg r % Ieee.double.signWeight = r := by
    have hs : Ieee.double.signWeight = 9223372036854775808 := by decide
    unfold Ieee.Format.word
    rw [hs]
    split <;> omega
  have hb : Ieee.double.infRung = 9218868437227405312 := by decide
  unfold Ieee.Format.read
  simp only [e, hb]
  split
  · rfl
  · first
    | rfl
    | (split
       · rfl
       · first
         | omega
         | (split
            · omega
            · rfl))

theorem nearest_small (neg : Bool) {m : Nat} {p : Int} (hm : m < 16777216) (h1 : -149 ≤ p) (h2 : p ≤ 104) : ∃ r, r < 9218868437227405312 ∧ Ieee.double.nearest neg m p = Ieee.double.word neg r := by
  unfold Ieee.Format.nearest
  by_cases h0 : m = 0
  · rw [if_pos h0]; exact ⟨0, by omega, rfl⟩
  · rw [if_neg h0]
    have hfb : Ieee.double.fractionBits = 52 := rfl
    have hlp : Ieee.double.leastPlace = -1074 := by decide
    have hbn : Ieee.double.binade = 4503599627370496 := by decide
    have hir : Ieee.double.infRung = 9218868437227405312 := by decide
    have hL : m.log2 < 24 := (Nat.log2_lt h0).2 (by omega)
    have hmL : m < 2 ^ (m.log2 + 1) := Nat.lt_log2_self
    refine ⟨_, ?_, rfl⟩
    simp only [hfb, hlp, hbn, hir]
    have hmax : max (p + (m.log2 : Int) - (52 : Nat)) (-1074) = p + (m.log2 : Int) - 52 := by omega
    rw [hmax]
    have e1 : (p - (p + (m.log2 : Int) - 52)).toNat = 52 - m.log2 := by omega
    have e2 : (p + (m.log2 : Int) - 52 - p).toNat = 0 := by omega
    rw [e1, e2]
    have hcut : ∀ n : Nat, Ieee.Toward.even.cut neg n 0 = n := by
      intro n
      unfold Ieee.Toward.cut
      simp [Nat.mod_one]
    rw [hcut, Nat.shiftLeft_eq]
    have hk : m * 2 ^ (52 - m.log2) < 9007199254740992 := by
      have : 2 ^ (m.log2 + 1) * 2 ^ (52 - m.log2) = 9007199254740992 := by
        rw [← Nat.pow_add]
        have : m.log2 + 1 + (52 - m.log2) = 53 := by omega
        rw [this]
      rw [← this]
      exact Nat.mul_lt_mul_of_pos_right hmL (Nat.two_pow_pos _)
    generalize m * 2 ^ (52 - m.log2) = q at hk ⊢
    have ht : (p + (m.log2 : Int) - 52 - -1074).toNat ≤ 1149 := by omega
    generalize (p + (m.log2 : Int) - 52 - -1074).toNat = t at ht ⊢
    have hle : t * 4503599627370496 ≤ 1149 * 4503599627370496 := Nat.mul_le_mul_right _ ht
    have hlt : t * 4503599627370496 + q < 9218868437227405312 := Nat.lt_of_lt_of_le (Nat.add_lt_add_of_le_of_lt hle hk) (Nat.le_of_ble_eq_true rfl)
    exact Nat.lt_of_le_of_lt (Nat.min_le_left _ _) hlt

theorem read_single (b : Nat) {neg : Bool} {m : Nat} {p : Int} (h : Ieee.single.read b = .number neg m p) : m < 16777216 ∧ -149 ≤ p ∧ p ≤ 104 := by
  have hs : Ieee.single.signWeight = 2147483648 := by decide
  have hb : Ieee.single.binade = 8388608 := by decide
  have hi : Ieee.single.infRung = 2139095040 := by decide
  have hl : Ieee.single.leastPlace = -149 := by decide
  unfold Ieee.Format.read at h
  simp only [hs, hb, hi, hl] at h
  split at h
  · cases h; omega
  · split at h
    · cases h; omega
    · split at h <;> cases h

theorem cv_wide (x : F32) : (convBits .f32 x.bits .f64).isSome = true := by
  unfold convBits
  split
  · rfl
  · rename_i hn
    rw [Option.isSome_map]
    unfold floatToFloatBits
    have hne : ¬ (FloatKind.f32 = FloatKind.f64) := by decide
    rw [if_neg hne]
    have hnan : (FloatKind.f32.decode x.bits).isNaN = false := by
      have : nanB .f32 x.bits = false := by simpa using hn
      exact this
    split
    · rename_i e; rw [e] at hnan; simp [Ieee.Datum.isNaN] at hnan
    · rfl
    · rename_i sg mm ee e
      obtain ⟨b1, b2, b3⟩ := read_single x.bits e
      obtain ⟨r, hr, hw⟩ := nearest_small sg b1 b2 b3
      have : (FloatKind.f64.decode (FloatKind.f64.encode (.number sg mm ee))).isInfinity = false := by
        show (Ieee.double.read (Ieee.double.nearest sg mm ee)).isInfinity = false
        rw [hw]
        exact read_word_fin sg hr
      rw [this]
      rfl

/-- Bytes: a string's; of a list. -/
def bytesOf (s : ByteArray) : List Int := (List.range s.size).map (bt s)
def strOf (xs : List Int) : ByteArray := ⟨(xs.map fun n => UInt8.ofNat n.toNat).toArray⟩
theorem bytesOf_ob (s : ByteArray) : bytesOb s (bytesOf s).length (gl (csI .u8) (bytesOf s)) := by
  refine ⟨by simp [bytesOf], fun i hi => ?_⟩
  have hi' : i < s.size := by simpa [bytesOf] using hi
  have : (bytesOf s).getD i default = bt s i := by
    rw [List.getD_eq_getElem?_getD]
    simp [bytesOf, hi']
  show C.int .u8 ((bytesOf s).getD i default) = _
  rw [this]
theorem strOf_ob {xs : List Int} (h : ∀ x ∈ xs, 0 ≤ x ∧ x < 256) : bytesOb (strOf xs) xs.length (gl (csI .u8) xs) := by
  refine ⟨by simp [strOf, ByteArray.size], fun i hi => ?_⟩
  have hx := h xs[i] (List.getElem_mem hi)
  have e1 : xs.getD i default = xs[i] := by rw [List.getD_eq_getElem?_getD]; simp [hi]
  have e2 : bt (strOf xs) i = xs[i] := by
    rw [bt_getD _ _ (by simpa [strOf, ByteArray.size] using hi)]
    simp only [strOf, List.getElem_toArray, List.getElem_map]
    rw [UInt8.toNat_ofNat']
    omega
  show C.int .u8 (xs.getD i default) = _
  rw [e1, e2]

theorem len_rep {α : Type} {d : α} {l : Int} (h : 0 ≤ l) : (((List.replicate l.toNat d).length : Nat) : Int) = l := by simp; omega
theorem rep_bytes {α : Type} {d : α} {n b : Nat} (h : n * b ≤ 140737488355328) : (List.replicate n d).length * b ≤ 140737488355328 := by simpa using h
theorem rep_lt {α : Type} {d : α} {n i : Nat} (h : i < (List.replicate n d).length) : i < n := by simpa using h
theorem lt_of_bound {i : Int} {n : Nat} (h : 0 ≤ i ∧ i < (n : Int)) : i.toNat < n := by omega
theorem Sub.keep {cx : Cx} {s s' : St} (ts ids : List Nat) (h : okRestr ids (Fw.restr ts ids s) = true) (he : Fw.restr ts ids s = s') : Sub cx s s' := he ▸ Sub.restr ts ids h

theorem sqI {k : IntKind} : SeqT 1 (csI k) := fun _ _ j hj => match j, hj with | 0, _ => rfl
theorem sqB : SeqT 1 csB := fun _ _ j hj => match j, hj with | 0, _ => rfl
theorem sqF {k : FloatKind} : SeqT 1 (csF k) := fun _ _ j hj => match j, hj with | 0, _ => rfl
theorem sqS : SeqT 1 csS := fun _ _ j hj => match j, hj with | 0, _ => rfl
theorem sq_slice {α : Type} [Inhabited α] {sz : Nat} {cs : α → List C} : SeqT 1 (csL sz cs) := fun _ _ j hj => match j, hj with | 0, _ => rfl

/-! Elements that are copied. -/
def cpL {α : Type} (xs : List α) (lo : Nat) (s : List α) : List α := xs.take lo ++ s ++ xs.drop (lo + s.length)
theorem cpL_length {α : Type} {xs s : List α} {lo : Nat} (h : lo + s.length ≤ xs.length) : (cpL xs lo s).length = xs.length := by
  unfold cpL; simp; omega
theorem cpL_get {α : Type} [Inhabited α] {xs s : List α} {lo : Nat} (h : lo + s.length ≤ xs.length) (i : Nat) : (cpL xs lo s).getD i default = if lo ≤ i ∧ i < lo + s.length then s.getD (i - lo) default else xs.getD i default := by
  unfold cpL
  rw [List.getD_eq_getElem?_getD, List.getElem?_append, List.getElem?_append]
  simp only [List.length_append, List.length_take]
  rw [Nat.min_eq_left (by omega)]
  by_cases h1 : i < lo
  · rw [if_pos (by omega), if_pos h1, if_neg (by omega), List.getElem?_take, if_pos h1, ← List.getD_eq_getElem?_getD]
  · by_cases h2 : i < lo + s.length
    · rw [if_pos h2, if_neg h1, if_pos (by omega), ← List.getD_eq_getElem?_getD]
    · rw [if_neg h2, if_neg (by omega), List.getElem?_drop, show lo + s.length + (i - (lo + s.length)) = i by omega, ← List.getD_eq_getElem?_getD]
theorem cp_view {α : Type} [Inhabited α] {sz : Nat} {cs : α → List C} (hsc : ScalarT sz cs) {e S : List α} (h0 : 0 < Nat.min S.length e.length) :
    (cpL e 0 (S.take (Nat.min S.length e.length))).length = e.length ∧ 0 < Nat.min S.length e.length ∧ (∀ i j, i < e.length → j < sz → gl cs (cpL e 0 (S.take (Nat.min S.length e.length))) i j = if 0 ≤ i ∧ i < 0 + Nat.min S.length e.length then gl cs S (i - 0) j else gl cs e i j) ∧ ∀ i j, i < Nat.min S.length e.length → j < sz → scalarC (gl cs S i j) := by
  have k1 : Nat.min S.length e.length ≤ S.length := Nat.min_le_left ..
  have k2 : Nat.min S.length e.length ≤ e.length := Nat.min_le_right ..
  have hl : (S.take (Nat.min S.length e.length)).length = Nat.min S.length e.length := by rw [List.length_take]; omega
  refine ⟨cpL_length (by omega), h0, fun i j _ _ => ?_, fun i j _ hj => hsc _ j hj⟩
  unfold gl
  rw [cpL_get (by omega), hl]
  by_cases h : 0 ≤ i ∧ i < 0 + Nat.min S.length e.length
  · rw [if_pos h, if_pos h]
    have : (S.take (Nat.min S.length e.length)).getD (i - 0) default = S.getD (i - 0) default := by
      rw [List.getD_eq_getElem?_getD, List.getElem?_take, if_pos (by omega), ← List.getD_eq_getElem?_getD]
    rw [this]
  · rw [if_neg h, if_neg h]
theorem cp_self {α : Type} [Inhabited α] {sz : Nat} {cs : α → List C} (hsc : ScalarT sz cs) {e : List α} {l1 r1 l2 r2 : Int} (hd : 0 ≤ l1 ∧ l1 < (e.length : Int) ∧ l1 ≤ r1 ∧ r1 ≤ (e.length : Int)) (hs : 0 ≤ l2 ∧ l2 < (e.length : Int) ∧ l2 ≤ r2 ∧ r2 ≤ (e.length : Int))
    (h0 : 0 < Nat.min (r2.toNat - l2.toNat) (r1.toNat - l1.toNat)) :
    (cpL e l1.toNat ((e.drop l2.toNat).take (Nat.min (r2.toNat - l2.toNat) (r1.toNat - l1.toNat)))).length = e.length ∧ 0 < Nat.min (r2.toNat - l2.toNat) (r1.toNat - l1.toNat) ∧
      (∀ i j, i < e.length → j < sz → gl cs (cpL e l1.toNat ((e.drop l2.toNat).take (Nat.min (r2.toNat - l2.toNat) (r1.toNat - l1.toNat)))) i j = if l1.toNat ≤ i ∧ i < l1.toNat + Nat.min (r2.toNat - l2.toNat) (r1.toNat - l1.toNat) then gl cs e (l2.toNat + (i - l1.toNat)) j else gl cs e i j) ∧
      ∀ i j, i < Nat.min (r2.toNat - l2.toNat) (r1.toNat - l1.toNat) → j < sz → scalarC (gl cs e (l2.toNat + i) j) := by
  have k1 : Nat.min (r2.toNat - l2.toNat) (r1.toNat - l1.toNat) ≤ r2.toNat - l2.toNat := Nat.min_le_left ..
  have k2 : Nat.min (r2.toNat - l2.toNat) (r1.toNat - l1.toNat) ≤ r1.toNat - l1.toNat := Nat.min_le_right ..
  generalize Nat.min (r2.toNat - l2.toNat) (r1.toNat - l1.toNat) = k at *
  have hl : ((e.drop l2.toNat).take k).length = k := by rw [List.length_take, List.length_drop]; omega
  refine ⟨cpL_length (by omega), h0, fun i j _ _ => ?_, fun i j _ hj => hsc _ j hj⟩
  unfold gl
  rw [cpL_get (by omega), hl]
  by_cases h : l1.toNat ≤ i ∧ i < l1.toNat + k
  · rw [if_pos h, if_pos h]
    have : ((e.drop l2.toNat).take k).getD (i - l1.toNat) default = e.getD (l2.toNat + (i - l1.toNat)) default := by
      rw [List.getD_eq_getElem?_getD, List.getElem?_take, if_pos (by omega), List.getElem?_drop, ← List.getD_eq_getElem?_getD]
    rw [this]
  · rw [if_neg h, if_neg h]
end Go.Fw
