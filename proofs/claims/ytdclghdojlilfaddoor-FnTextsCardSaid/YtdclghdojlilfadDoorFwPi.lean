/- Decimal numerals are read. -/
import Derived.Test.YtdclghdojlilfadDoorFwPX
import Derived.Test.YtdclghdojlilfadDoorFwSh
import Derived.Test.YtdclghdojlilfadDoorProg
namespace Go.Proofs
open Go.RowKit
set_option linter.unusedVariables false
set_option maxRecDepth 100000
set_option maxHeartbeats 8000000 in
theorem Tryd.parseIntP (t : ByteArray) (u : Nat) (hpos : 0 < t.size) (hmax : t.size ≤ 1000000) (h43 : ((t[0].toNat : Int) == 43) = false) (h45 : ((t[0].toNat : Int) == 45) = false) (hp : Lib.parseUint10 0 t.data.toList = .ok u) (hu : u < 9223372036854775808) (w : World) :
    Calls Tryd.prog 44 #[.string t, .int .i64 10, .int .i64 64] w fun e w' => e = .returned (.tuple #[.int .i64 u, .nilIface]) ∧ w' = Lib.bytesWorld w 5 t := by
  have g : Calls Tryd.prog 41 #[.string t, .int .i64 10, .int .i64 64] w fun e w' => e = .returned (.tuple #[.int .u64 (u : Int), .nilIface]) ∧ w' = Lib.bytesWorld w 5 t := by
    have g := Tryd.internal_strconv_ParseUint_10_b64 t (by omega) (by omega) w
    rw [hp] at g
    exact g
  have hemp : t.toList.isEmpty = false := Px.emp hpos
  have hw2 : IntKind.i64.wrap (u : Int) = u := by rw [IntKind.wrap_i64]; omega
  have a0 : 0 ≤ (u : Int) := by omega
  have a1 : (u : Int) ≤ 9223372036854775807 := by omega
  clear hp hu hmax
  generalize (u : Int) = a at *
  go_enter Tryd.func44, Tryd.ntmps44
  go_wp2_with fail
  refine g.mono fun e w1 h => ?_
  obtain ⟨rfl, rfl⟩ := h
  go_wp2
  go_ret2
  exact ⟨rfl, rfl⟩
set_option maxHeartbeats 8000000 in
theorem Tryd.parseIntN (s t : ByteArray) (u : Nat) (hpos : 0 < s.size) (hpt : 0 < t.size) (hmax : t.size ≤ 1000000) (h43 : ((s[0].toNat : Int) == 43) = false) (h45 : ((s[0].toNat : Int) == 45) = true) (hst : s.extract 1 s.size = t) (hp : Lib.parseUint10 0 t.data.toList = .ok u) (hu : u < 9223372036854775808) (w : World) :
    Calls Tryd.prog 44 #[.string s, .int .i64 10, .int .i64 64] w fun e w' => e = .returned (.tuple #[.int .i64 (-(u : Int)), .nilIface]) ∧ w' = Lib.bytesWorld w 5 t := by
  have g : Calls Tryd.prog 41 #[.string t, .int .i64 10, .int .i64 64] w fun e w' => e = .returned (.tuple #[.int .u64 (u : Int), .nilIface]) ∧ w' = Lib.bytesWorld w 5 t := by
    have g := Tryd.internal_strconv_ParseUint_10_b64 t (by omega) (by omega) w
    rw [hp] at g
    exact g
  have hemp : s.toList.isEmpty = false := Px.emp hpos
  have hw2 : IntKind.i64.wrap (u : Int) = u := by rw [IntKind.wrap_i64]; omega
  have hw3 : IntKind.i64.wrap (-(u : Int)) = -(u : Int) := by rw [IntKind.wrap_i64]; omega
  have a0 : 0 ≤ (u : Int) := by omega
  have a1 : (u : Int) ≤ 9223372036854775807 := by omega
  clear hp hu hmax
  generalize (u : Int) = a at *
  go_enter Tryd.func44, Tryd.ntmps44
  go_wp2_with fail
  refine g.mono fun e w1 h => ?_
  obtain ⟨rfl, rfl⟩ := h
  go_wp2
  go_ret2
  exact ⟨rfl, rfl⟩
theorem Tryd.parseInt (t : ByteArray) (n : Int) (h : Px.pIntL t.data.toList = some n) (w : World) :
    Calls Tryd.prog 32 #[.string t, .int .i64 10, .int .i64 64] w fun e w' => e = .returned (.tuple #[.int .i64 n, .nilIface]) ∧ Below w.heap.size w w' := by
  have inner : Calls Tryd.prog 44 #[.string t, .int .i64 10, .int .i64 64] w fun e w' => e = .returned (.tuple #[.int .i64 n, .nilIface]) ∧ Below w.heap.size w w' := by
    obtain ⟨⟨l⟩⟩ := t
    cases l with
    | nil => cases h
    | cons c r =>
      have hpos : 0 < (ByteArray.mk ⟨c :: r⟩).size := Nat.succ_pos _
      have hc : (ByteArray.mk ⟨c :: r⟩)[0] = c := rfl
      rcases Px.pIntL_some h with ⟨h1, h2, u, h3, h4, h5, h6⟩ | ⟨rfl, u, h3, h4, h5, h6, h7⟩
      · subst h6
        refine (Tryd.parseIntP ⟨⟨c :: r⟩⟩ u hpos h5 ?_ ?_ h3 h4 w).mono fun e w1 h => ⟨h.1, by rw [h.2]; exact Lib.bytesWorld_below _ _ _⟩
        · rw [hc, beq_eq_false_iff_ne]; intro e; exact h1 (UInt8.toNat_inj.1 (by have : (43 : UInt8).toNat = 43 := rfl; omega))
        · rw [hc, beq_eq_false_iff_ne]; intro e; exact h2 (UInt8.toNat_inj.1 (by have : (45 : UInt8).toNat = 45 := rfl; omega))
      · subst h7
        refine (Tryd.parseIntN ⟨⟨45 :: r⟩⟩ ⟨⟨r⟩⟩ u hpos h6 h5 rfl rfl ?_ h3 h4 w).mono fun e w1 h => ⟨h.1, by rw [h.2]; exact Lib.bytesWorld_below _ _ _⟩
        apply ByteArray.ext
        have hs : (ByteArray.mk ⟨45 :: r⟩).size = r.length + 1 := rfl
        rw [hs, ByteArray.data_extract]
        apply Array.ext'
        simp
  clear h
  go_enter Tryd.func32, Tryd.ntmps32
  go_wp2_with fail
  refine inner.mono fun e w1 h => ?_
  obtain ⟨rfl, hb⟩ := h
  go_wp2
  go_ret2
  exact ⟨rfl, hb⟩
end Go.Proofs
