/- Numerals read at base 16; texts split at a byte. -/
import Derived.Test.YtdclghdojlilfadDoorFwPX
import Derived.Test.YtdclghdojlilfadDoorFwSh
import Derived.Shelf.Strings.Split
import Derived.Test.YtdclghdojlilfadDoorProg
namespace Go.Proofs
open Go.RowKit
set_option linter.unusedVariables false
set_option maxRecDepth 100000
theorem Tryd.lowerX (c : Int) (w : World) (e : bits BinOp.or IntKind.u8 c 32 = c) :
    Calls Tryd.prog 57 #[.int .u8 c] w fun e w' => e = .returned (.int .u8 c) ∧ w' = w := by
  go_enter Tryd.func57, Tryd.ntmps57
  go_wp2
  go_ret
  exact ⟨rfl, rfl⟩
set_option maxHeartbeats 32000000 in
theorem Tryd.parse16i (t : ByteArray) (hne : t.size ≠ 0) (hmax : t.size ≤ 8) (hx : ∀ c ∈ t.data.toList, Px.isHex c) (w : World) :
    Calls Tryd.prog 41 #[.string t, .int .i64 16, .int .i64 32] w fun e w' => e = .returned (.tuple #[.int .u64 (Px.hval t.data.toList : Int), .nilIface]) ∧ w' = Lib.bytesWorld w 5 t := by
  have hemp : t.toList.isEmpty = false := by
    rw [← decide_eq_emptyBytes]
    exact decide_eq_false (fun h => hne (by rw [h]; rfl))
  have hcv := Lib.run_convert_string_bytes (P := Tryd.prog) w 9 22 5 t (u := .string) rfl rfl rfl
  have hB : ∀ j, j < t.size → (Lib.bytesWorld w 5 t).cell? ⟨w.heap.size, j, none⟩ = some (.int .u8 (t.data.toList.getD j 0).toNat) := fun j hj => Lib.bytesWorld_cell w 5 t j hj
  obtain ⟨W1, hW1⟩ : ∃ W1, W1 = Lib.bytesWorld w 5 t := ⟨_, rfl⟩
  rw [← hW1] at hcv hB ⊢
  clear hW1
  obtain ⟨bs, hL⟩ : ∃ bs, bs = t.data.toList := ⟨_, rfl⟩
  have hLn : bs.length = t.size := by rw [hL, Lib.size_eq]
  rw [← hL] at hB hx ⊢
  clear hL
  have HX := Lib.hid hx
  clear hx
  have hmv : IntKind.u64.wrap (IntKind.u64.wrap 4294967296 - 1) = 4294967295 := by
    rw [IntKind.wrap_u64, IntKind.wrap_u64]
    decide
  go_enter Tryd.func41, Tryd.ntmps41
  go_wp2
  go_loop [12, 13, 101] (fun vu vn vi => ∃ (k : Nat) (a : Int), vu = .bool false ∧ vn = .int .u64 a ∧ vi = .int .i64 k ∧ k ≤ t.size ∧ Hid (a = (Px.hval (bs.take k) : Int)))
    (fun _ _ vi => t.size - (intOf vi).toNat)
  case atStart => exact ⟨0, 0, rfl, rfl, rfl, by omega, rfl⟩
  case round =>
    obtain ⟨k, a, rfl, rfl, rfl, hk, hh⟩ := hrel
    have ha := hh.out
    clear hh
    have hb8 : (bs.take k).length ≤ 8 := by rw [List.length_take]; omega
    have hlt : Px.hval (bs.take k) < 16 ^ (bs.take k).length := Px.hval_lt _ fun c hc => HX.out c (List.mem_of_mem_take hc)
    by_cases hkn : k < t.size
    · have hc := hB k hkn
      have hlt7 : Px.hval (bs.take k) < 268435456 := Nat.lt_of_lt_of_le hlt (Nat.pow_le_pow_right (by omega) (show _ ≤ 7 by rw [List.length_take]; omega))
      have hsn : bs.take (k + 1) = bs.take k ++ [bs[k]'(by omega)] := by rw [List.take_add_one, List.getElem?_eq_getElem (by omega)]; rfl
      have hget : bs.getD k 0 = bs[k]'(by omega) := by simp [List.getD, List.getElem?_eq_getElem (show k < bs.length by omega)]
      have hhex : Px.isHex (bs[k]'(by omega)) := HX.out _ (List.getElem_mem _)
      have hnx : Px.hval (bs.take (k + 1)) = Px.hval (bs.take k) * 16 + Px.hv (bs[k]'(by omega)) := by rw [hsn, Px.hval_snoc]
      rw [hget] at hc
      generalize bs[k]'(by omega) = c at hc hhex hnx
      have hc256 : c.toNat < 256 := c.toNat_lt
      clear hB hsn hget hlt hb8
      have a0 : 0 ≤ a := by omega
      have a1 : a ≤ 268435455 := by omega
      by_cases hdig : c.toNat ≤ 57
      · have hd0 : 48 ≤ c.toNat := by unfold Px.isHex at hhex; omega
        have hv : Px.hv c = c.toNat - 48 := by unfold Px.hv; rw [if_pos hdig]
        rw [hv] at hnx
        have HN : Hid (a * 16 + ((c.toNat : Int) - 48) = (Px.hval (bs.take (k + 1)) : Int)) := Lib.hid (by omega)
        clear hnx hhex hv ha hlt7
        go_wp2
        exact ⟨⟨k + 1, a * 16 + ((c.toNat : Int) - 48), rfl, (by first | rfl | (congr 1; omega)), (by first | rfl | (congr 1; omega)), by omega, HN⟩, by simp [intOf]; omega⟩
      · have hd0 : 97 ≤ c.toNat ∧ c.toNat ≤ 102 := by unfold Px.isHex at hhex; omega
        have hor := Px.or32 hd0
        have hv : Px.hv c = c.toNat - 87 := by unfold Px.hv; rw [if_neg hdig]
        rw [hv] at hnx
        have HN : Hid (a * 16 + ((c.toNat : Int) - 87) = (Px.hval (bs.take (k + 1)) : Int)) := Lib.hid (by omega)
        obtain ⟨hd1, hd2⟩ := hd0
        have HO := Lib.hid hor
        clear hnx hhex hv hor ha hlt7
        go_wp2_with (go_at_call 57; refine (Tryd.lowerX _ _ HO.out).mono ?_; rintro e w' ⟨rfl, rfl⟩)
        exact ⟨⟨k + 1, a * 16 + ((c.toNat : Int) - 97 + 10), rfl, rfl, (by first | rfl | (congr 1; omega)), by omega, Lib.hid (by have := HN.out; omega)⟩, by simp [intOf]; omega⟩
    · have hkk : k = t.size := by omega
      subst hkk
      rw [List.take_of_length_le (by omega)] at ha
      subst ha
      clear hlt hb8 hB
      go_wp2
      go_ret2
      exact ⟨rfl, rfl⟩
theorem Tryd.parse16 (t : ByteArray) (hne : t.size ≠ 0) (hmax : t.size ≤ 8) (hx : ∀ c ∈ t.data.toList, Px.isHex c) (w : World) :
    Calls Tryd.prog 28 #[.string t, .int .i64 16, .int .i64 32] w fun e w' => e = .returned (.tuple #[.int .u64 (Px.hval t.data.toList : Int), .nilIface]) ∧ w' = Lib.bytesWorld w 5 t := by
  go_enter Tryd.func28, Tryd.ntmps28
  go_wp2_with fail
  refine (Tryd.parse16i t hne hmax hx w).mono fun e w1 h => ?_
  obtain ⟨rfl, rfl⟩ := h
  go_wp2
  go_ret2
  exact ⟨rfl, rfl⟩
theorem Tryd.split1 (s : ByteArray) (c : UInt8) (w : World) (hs : s.size < 4294967281) :
    Calls Tryd.prog 27 #[.string s, .string ⟨#[c]⟩] w fun e w' => e = .returned (.slice (some ⟨w.heap.size, 0, none⟩) (Lib.countB s ⟨#[c]⟩ + 1) (Lib.countB s ⟨#[c]⟩ + 1)) ∧ w' = w.alloc (.cells ((Lib.splitB ⟨#[c]⟩ 0 (Lib.countB s ⟨#[c]⟩) s).map Value.string).toArray 9) := by
  have h1 : 1 ≤ (ByteArray.mk #[c]).size := Nat.le_refl _
  have hle := Lib.countB_le ⟨#[c]⟩ h1 s.size s (Nat.le_refl _)
  have hlen := Lib.splitB_all ⟨#[c]⟩ h1 0 _ s rfl
  have g := Any.strings_genSplit_core Tryd.lays221 (by kernel_rfl) s ⟨#[c]⟩ 0 (-1) (Lib.countB s ⟨#[c]⟩ + 1) w hs h1 (Nat.zero_le _)
    (fun x cs _ => (Tryd.strings_Index_one x c _).mono fun e w' h => ⟨h.1.trans (by rw [← Px.index_one]), h.2⟩)
    ((Tryd.strings_Count_one s c w).mono fun e w' h => ⟨h.1.trans (by rw [show Lib.countByte s.data.toList c = Lib.countB s ⟨#[c]⟩ from (Lib.count_one c s.data.toList).symm]), h.2⟩)
    (by decide) (by decide) (by rw [if_pos (by decide)]; omega)
  rw [Nat.add_sub_cancel, hlen] at g
  have e2 : Lib.cellsOf (Lib.splitB ⟨#[c]⟩ 0 (Lib.countB s ⟨#[c]⟩) s) (Lib.countB s ⟨#[c]⟩ + 1) = ((Lib.splitB ⟨#[c]⟩ 0 (Lib.countB s ⟨#[c]⟩) s).map Value.string).toArray := by rw [← hlen]; exact Lib.cellsOf_full _
  rw [e2] at g
  clear hle hlen e2 h1
  go_enter Tryd.func27, Tryd.ntmps27
  go_wp2_with fail
  refine g.mono fun e w1 h => ?_
  obtain ⟨rfl, rfl⟩ := h
  go_wp2
  go_ret
  exact ⟨rfl, rfl⟩
end Go.Proofs
