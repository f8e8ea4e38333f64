/- Numbers as eight digits. -/
import Derived.Test.YtcgakaboochpaaeDoorFwGQTxMin
import Derived.Test.YtcgakaboochpaaeDoorFwFD
namespace Go.Fw
open Go Go.Proofs
noncomputable section

/-- The last k digits. -/
def hexK : Nat → Nat → List UInt8
  | 0, _ => []
  | k + 1, u => hexK k (u / 16) ++ [Hx.dig (u % 16)]
theorem hexK_length : ∀ (k u : Nat), (hexK k u).length = k
  | 0, _ => rfl
  | k + 1, u => by rw [hexK, List.length_append, hexK_length k]; rfl
theorem hexK_zero : ∀ k, hexK k 0 = Lib.repeatL [48] k
  | 0 => rfl
  | k + 1 => by
    rw [hexK, hexK_zero k, Lib.repeatL_add [48] k 1]; rfl
theorem hex_length : ∀ (k g u : Nat), u < 16 ^ (k + 1) → k ≤ g → 1 ≤ (Hx.hex (g + 1) u).length ∧ (Hx.hex (g + 1) u).length ≤ k + 1
  | 0, g, u, h, _ => by
    have hu : u < 16 := by simpa using h
    unfold Hx.hex
    rw [if_pos hu]; simp
  | k + 1, g, u, h, hg => by
    obtain ⟨g, rfl⟩ : ∃ j, g = j + 1 := ⟨g - 1, by omega⟩
    unfold Hx.hex
    by_cases hu : u < 16
    · rw [if_pos hu]; simp
    · rw [if_neg hu, List.length_append]
      have := hex_length k g (u / 16) (by rw [Nat.pow_succ] at h; omega) (by omega)
      simp only [List.length_singleton]; omega
theorem hex_pad : ∀ (k g u : Nat), u < 16 ^ (k + 1) → k ≤ g → Lib.repeatL [48] (k + 1 - (Hx.hex (g + 1) u).length) ++ Hx.hex (g + 1) u = hexK (k + 1) u
  | 0, g, u, h, _ => by
    have hu : u < 16 := by simpa using h
    unfold Hx.hex
    rw [if_pos hu, hexK, Nat.mod_eq_of_lt hu]; rfl
  | k + 1, g, u, h, hg => by
    obtain ⟨g, rfl⟩ : ∃ j, g = j + 1 := ⟨g - 1, by omega⟩
    unfold Hx.hex
    by_cases hu : u < 16
    · rw [if_pos hu, hexK, Nat.mod_eq_of_lt hu, Nat.div_eq_of_lt hu, hexK_zero]; rfl
    · rw [if_neg hu, hexK]
      have ih := hex_pad k g (u / 16) (by rw [Nat.pow_succ] at h; omega) (by omega)
      rw [← ih, List.length_append, List.length_singleton, show k + 1 + 1 - ((Hx.hex (g + 1) (u / 16)).length + 1) = k + 1 - (Hx.hex (g + 1) (u / 16)).length by omega, List.append_assoc]
/-- The bits of a number. -/
def bN (x : F32) : Nat := if x.ne x then 2143289344 else x.bits
theorem bN_lt (x : F32) : bN x < 16 ^ 8 := by
  unfold bN
  split
  · decide
  · exact x.lt
def h8 (x : F32) : List UInt8 := hexK 8 (bN x)
theorem h8_length (x : F32) : (h8 x).length = 8 := hexK_length _ _
theorem bits_of (x : F32) (h : x.ne x = false) : x.toBits = some (x.bits : Int) := by
  unfold Fl.toBits
  have : nanB .f32 x.bits = false := by
    cases hn : nanB .f32 x.bits
    · rfl
    · exfalso
      have : x.ne x = true := by
        show (FloatKind.f32.format.order x.bits x.bits != some .eq) = true
        rw [order_nan x x (.inl hn)]; rfl
      rw [this] at h; cases h
  simp [this]
theorem impl_bits (K : Nat) (x : F32) : impl_BitsOf K x = some (bN x : Int) := by
  have hl : x.bits < 4294967296 := x.lt
  unfold impl_BitsOf math_Float32bits bN
  cases h : x.ne x
  · rw [ite2_false, bits_of x h, bind_of, wrap_in (by omega) (by omega)]; rfl
  · rfl
theorem impl_hex (K : Nat) (x : F32) : impl_hexOf K x = some (ofL (h8 x)) := by
  have hl := bN_lt x
  have l1 : 1 ≤ (Hx.hex 16 (bN x)).length := (hex_length 7 15 (bN x) hl (by omega)).1
  have l2 : (Hx.hex 16 (bN x)).length ≤ 8 := (hex_length 7 15 (bN x) hl (by omega)).2
  have hp : Lib.repeatL [48] (8 - (Hx.hex 16 (bN x)).length) ++ Hx.hex 16 (bN x) = hexK 8 (bN x) := hex_pad 7 15 (bN x) hl (by omega)
  have hl2 : bN x < 4294967296 := hl
  have h8l : (hexK 8 (bN x)).length = 8 := hexK_length _ _
  unfold impl_hexOf strconv_FormatInt strings_Repeat fmtI rep1
  rw [impl_bits, bind_of, if_pos rfl, if_pos (by omega), Int.toNat_natCast, bind_of]
  show ((if 0 ≤ IntKind.i64.wrap (8 - (((Hx.hex 16 (bN x)).length : Nat) : Int)) ∧ IntKind.i64.wrap (8 - (((Hx.hex 16 (bN x)).length : Nat) : Int)) ≤ 9223372036854775807 ∧ 1 * (IntKind.i64.wrap (8 - (((Hx.hex 16 (bN x)).length : Nat) : Int))).toNat ≤ 140737488355328 then some (ByteArray.mk (Lib.repeatL [48] (IntKind.i64.wrap (8 - (((Hx.hex 16 (bN x)).length : Nat) : Int))).toNat).toArray) else none).bind _) = _
  rw [wrap_in (by omega) (by omega), if_pos (by omega), bind_of, show (8 - (((Hx.hex 16 (bN x)).length : Nat) : Int)).toNat = 8 - (Hx.hex 16 (bN x)).length by omega]
  have e := ofL_app (Lib.repeatL [48] (8 - (Hx.hex 16 (bN x)).length)) (Hx.hex 16 (bN x))
  rw [hp] at e
  have e2 := congrArg List.length hp
  rw [List.length_append, h8l] at e2
  have e3 : (ofL (Lib.repeatL [48] (8 - (Hx.hex 16 (bN x)).length))).size + (ofL (Hx.hex 16 (bN x))).size = 8 := e2
  rw [chk_pos (by
    show (((ofL (Lib.repeatL [48] (8 - (Hx.hex 16 (bN x)).length))).size + (ofL (Hx.hex 16 (bN x))).size : Nat) : Int) ≤ _
    omega)]
  exact congrArg some e
end
end Go.Fw
