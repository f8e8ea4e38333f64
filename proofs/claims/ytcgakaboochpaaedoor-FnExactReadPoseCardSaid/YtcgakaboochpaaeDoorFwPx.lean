/- ParseUint at base 16, at whatever text. -/
import Derived.Test.YtcgakaboochpaaeDoorFwPX
import Derived.Test.YtcgakaboochpaaeDoorFwSh
import Derived.Shelf.Strings.Split
import Derived.Test.YtcgakaboochpaaeDoorProg
namespace Go.Proofs
open Go.RowKit
set_option linter.unusedVariables false
set_option maxRecDepth 100000
theorem Tryd.lowerX (c l : Int) (w : World) (e : bits BinOp.or IntKind.u8 c 32 = l) :
    Calls Tryd.prog 52 #[.int .u8 c] w fun e w' => e = .returned (.int .u8 l) ∧ w' = w := by
  go_enter Tryd.func52, Tryd.ntmps52
  go_wp2
  go_ret
  exact ⟨rfl, rfl⟩
set_option maxHeartbeats 32000000 in
theorem Tryd.parse16i (t : ByteArray) (hne : t.size ≠ 0) (hmax : t.size ≤ 1000000000) (w : World) :
    Calls Tryd.prog 45 #[.string t, .int .i64 16, .int .i64 32] w fun e w' => e = .returned (Lib.uintTupleM 83 4294967295 (Px.p16M 0 t.data.toList)) ∧ w' = Lib.bytesWorld w 5 t := by
  have hemp : t.toList.isEmpty = false := by
    rw [← decide_eq_emptyBytes]
    exact decide_eq_false (fun h => hne (by rw [h]; rfl))
  have hcv := Lib.run_convert_string_bytes (P := Tryd.prog) w 9 85 5 t (u := .string) rfl rfl rfl
  have hB : ∀ j, j < t.size → (Lib.bytesWorld w 5 t).cell? ⟨w.heap.size, j, none⟩ = some (.int .u8 (t.data.toList.getD j 0).toNat) := fun j hj => Lib.bytesWorld_cell w 5 t j hj
  obtain ⟨W1, hW1⟩ : ∃ W1, W1 = Lib.bytesWorld w 5 t := ⟨_, rfl⟩
  rw [← hW1] at hcv hB ⊢
  clear hW1
  obtain ⟨bs, hL⟩ : ∃ bs, bs = t.data.toList := ⟨_, rfl⟩
  have hLn : bs.length = t.size := by rw [hL, Lib.size_eq]
  rw [← hL] at hB ⊢
  clear hL
  have hmv : IntKind.u64.wrap (IntKind.u64.wrap 4294967296 - 1) = 4294967295 := by
    rw [IntKind.wrap_u64, IntKind.wrap_u64]
    decide
  go_enter Tryd.func45, Tryd.ntmps45
  go_wp2
  go_loop [12, 13, 101] (fun vu vn vi => ∃ (k acc : Nat) (a : Int), vu = .bool false ∧ vn = .int .u64 a ∧ vi = .int .i64 k ∧ k ≤ t.size ∧ Hid (a = (acc : Int) ∧ acc ≤ 4294967295 ∧ Px.p16M 0 bs = Px.p16M acc (bs.drop k)))
    (fun _ _ vi => t.size - (intOf vi).toNat)
  case atStart => exact ⟨0, 0, 0, rfl, rfl, rfl, by omega, rfl, by omega, rfl⟩
  case round =>
    obtain ⟨k, acc, a, rfl, rfl, rfl, hk, hh⟩ := hrel
    obtain ⟨ha, hacc, hdec⟩ := hh.out
    clear hh
    have a0 : 0 ≤ a := by omega
    have a1 : a ≤ 4294967295 := by omega
    by_cases hkn : k < t.size
    · have hc := hB k hkn
      have hdrop : bs.drop k = bs[k]'(by omega) :: bs.drop (k + 1) := List.drop_eq_getElem_cons (by omega)
      have hget : bs.getD k 0 = bs[k]'(by omega) := by simp [List.getD, List.getElem?_eq_getElem (show k < bs.length by omega)]
      rw [hdrop] at hdec
      rw [hget] at hc
      generalize bs[k]'(by omega) = c at hc hdec
      have hc256 : c.toNat < 256 := c.toNat_lt
      clear hB hdrop hget
      by_cases hdig : 48 ≤ c.toNat ∧ c.toNat ≤ 57
      · obtain ⟨hd0, hd1⟩ := hdig
        have hdv : Px.dv c = some (c.toNat - 48) := by unfold Px.dv; rw [if_pos ⟨hd0, hd1⟩]
        by_cases hov : 4294967295 < acc * 16 + (c.toNat - 48)
        · have hF : Px.p16M acc (c :: bs.drop (k + 1)) = .range := by
            rw [Px.p16M, hdv]
            simp only
            rw [if_neg (by omega), if_pos hov]
          rw [hF] at hdec
          have iov : 4294967295 < a * 16 + ((c.toNat : Int) - 48) := by omega
          have HD := Lib.hid hdec
          clear hacc hF hov ha hdv hdec
          go_wp2
          go_ret2
          exact ⟨by rw [HD.out]; rfl, rfl⟩
        · have hF : Px.p16M acc (c :: bs.drop (k + 1)) = Px.p16M (acc * 16 + (c.toNat - 48)) (bs.drop (k + 1)) := by
            rw [Px.p16M, hdv]
            simp only
            rw [if_neg (by omega), if_neg hov]
          have HN : Hid (a * 16 + ((c.toNat : Int) - 48) = ((acc * 16 + (c.toNat - 48) : Nat) : Int) ∧ acc * 16 + (c.toNat - 48) ≤ 4294967295 ∧ Px.p16M 0 bs = Px.p16M (acc * 16 + (c.toNat - 48)) (bs.drop (k + 1))) := Lib.hid ⟨by omega, by omega, hdec.trans hF⟩
          have iov : a * 16 + ((c.toNat : Int) - 48) ≤ 4294967295 := by omega
          clear hacc hF hov hdec ha hdv
          go_wp2
          exact ⟨⟨k + 1, acc * 16 + (c.toNat - 48), a * 16 + ((c.toNat : Int) - 48), rfl, (by first | rfl | (congr 1; omega)), (by first | rfl | (congr 1; omega)), by omega, HN⟩, by simp [intOf]; omega⟩
      · by_cases h95 : c.toNat = 95
        · have hdv : Px.dv c = none := by unfold Px.dv; rw [if_neg hdig, h95, if_neg (by decide +kernel)]
          have hF : Px.p16M acc (c :: bs.drop (k + 1)) = .syntax := by
            rw [Px.p16M, hdv]
          rw [hF] at hdec
          have HD := Lib.hid hdec
          replace hc : W1.cell? ⟨w.heap.size, k, none⟩ = some (.int .u8 95) := by rw [h95] at hc; exact hc
          obtain ⟨l, hl⟩ : ∃ l, bits BinOp.or IntKind.u8 95 32 = l := ⟨_, rfl⟩
          have hlet : ¬ (97 ≤ l ∧ l ≤ 122) := by rw [← hl]; decide +kernel
          have hv0 : 0 ≤ l := by rw [← hl]; decide +kernel
          have hv1 : l ≤ 255 := by rw [← hl]; decide +kernel
          have HL := Lib.hid hl
          clear hacc hF ha hdv hdec h95 hdig hc256 hl
          go_wp2_with (go_at_call 52; refine (Tryd.lowerX _ _ _ HL.out).mono ?_; rintro e w' ⟨rfl, rfl⟩)
          all_goals go_ret2
          all_goals exact ⟨by rw [HD.out]; rfl, rfl⟩
        · have h95i : ¬ (c.toNat : Int) = 95 := by omega
          obtain ⟨l, hl⟩ : ∃ l, bits BinOp.or IntKind.u8 (c.toNat : Int) 32 = l := ⟨_, rfl⟩
          have hv0 : 0 ≤ l := by rw [← hl]; exact bits_lo_u8 .or (c.toNat : Int) 32
          have hv1 : l ≤ 255 := by rw [← hl]; exact bits_hi_u8 .or (c.toNat : Int) 32
          have HL := Lib.hid hl
          by_cases hlet : 97 ≤ l ∧ l ≤ 122
          · obtain ⟨hl0, hl1⟩ := hlet
            have hdv : Px.dv c = some (l.toNat - 87) := by unfold Px.dv; rw [if_neg hdig, hl, if_pos ⟨hl0, hl1⟩]
            by_cases h16 : l ≤ 102
            · by_cases hov : 4294967295 < acc * 16 + (l.toNat - 87)
              · have hF : Px.p16M acc (c :: bs.drop (k + 1)) = .range := by
                  rw [Px.p16M, hdv]
                  simp only
                  rw [if_neg (by omega), if_pos hov]
                rw [hF] at hdec
                have iov : 4294967295 < a * 16 + (l - 97 + 10) := by omega
                have HD := Lib.hid hdec
                clear hacc hF hov ha hdv hdec hl
                go_wp2_with (go_at_call 52; refine (Tryd.lowerX _ _ _ HL.out).mono ?_; rintro e w' ⟨rfl, rfl⟩)
                all_goals go_ret2
                all_goals exact ⟨by rw [HD.out]; rfl, rfl⟩
              · have hF : Px.p16M acc (c :: bs.drop (k + 1)) = Px.p16M (acc * 16 + (l.toNat - 87)) (bs.drop (k + 1)) := by
                  rw [Px.p16M, hdv]
                  simp only
                  rw [if_neg (by omega), if_neg hov]
                have HN : Hid (a * 16 + (l - 97 + 10) = ((acc * 16 + (l.toNat - 87) : Nat) : Int) ∧ acc * 16 + (l.toNat - 87) ≤ 4294967295 ∧ Px.p16M 0 bs = Px.p16M (acc * 16 + (l.toNat - 87)) (bs.drop (k + 1))) := Lib.hid ⟨by omega, by omega, hdec.trans hF⟩
                have iov : a * 16 + (l - 97 + 10) ≤ 4294967295 := by omega
                clear hacc hF hov hdec ha hdv hl
                go_wp2_with (go_at_call 52; refine (Tryd.lowerX _ _ _ HL.out).mono ?_; rintro e w' ⟨rfl, rfl⟩)
                all_goals exact ⟨⟨k + 1, acc * 16 + (l.toNat - 87), a * 16 + (l - 97 + 10), rfl, (by first | rfl | (congr 1; omega)), (by first | rfl | (congr 1; omega)), by omega, HN⟩, by simp [intOf]; omega⟩
            · have hF : Px.p16M acc (c :: bs.drop (k + 1)) = .syntax := by
                rw [Px.p16M, hdv]
                simp only
                rw [if_pos (by omega)]
              rw [hF] at hdec
              have HD := Lib.hid hdec
              clear hacc hF ha hdv hdec hl
              go_wp2_with (go_at_call 52; refine (Tryd.lowerX _ _ _ HL.out).mono ?_; rintro e w' ⟨rfl, rfl⟩)
              all_goals go_ret2
              all_goals exact ⟨by rw [HD.out]; rfl, rfl⟩
          · have hdv : Px.dv c = none := by unfold Px.dv; rw [if_neg hdig, hl, if_neg hlet]
            have hF : Px.p16M acc (c :: bs.drop (k + 1)) = .syntax := by
              rw [Px.p16M, hdv]
            rw [hF] at hdec
            have HD := Lib.hid hdec
            clear hacc hF ha hdv hdec hl
            go_wp2_with (go_at_call 52; refine (Tryd.lowerX _ _ _ HL.out).mono ?_; rintro e w' ⟨rfl, rfl⟩)
            all_goals go_ret2
            all_goals exact ⟨by rw [HD.out]; rfl, rfl⟩
    · have hkk : k = t.size := by omega
      subst hkk
      have hF : Px.p16M acc (bs.drop t.size) = .ok acc := by rw [List.drop_eq_nil_of_le (by omega)]; rfl
      rw [hF] at hdec
      have HD := Lib.hid hdec
      subst ha
      clear hacc hF a0 a1 hdec hB
      go_wp2
      go_ret2
      exact ⟨by rw [HD.out]; rfl, rfl⟩
theorem Tryd.parse16G (t : ByteArray) (hmax : t.size ≤ 1000000000) (w : World) (hs : ∃ te pe, w.cell? ⟨4, 0, none⟩ = some (.iface te pe)) (hr : ∃ te pe, w.cell? ⟨5, 0, none⟩ = some (.iface te pe)) :
    Calls Tryd.prog 36 #[.string t, .int .i64 16, .int .i64 32] w fun e w' => (∃ z, e = .returned (.tuple #[.int .u64 (Px.p16G t.data.toList).1, z]) ∧ (if (Px.p16G t.data.toList).2 then ∃ a b, z = .iface a b else z = .nilIface)) ∧ Below w.heap.size w w' := by
  obtain ⟨ts, ps, hs⟩ := hs
  obtain ⟨tr, pr, hr⟩ := hr
  have inner : Calls Tryd.prog 45 #[.string t, .int .i64 16, .int .i64 32] w fun e w' => (e = .returned (Lib.uintTupleM 83 4294967295 (Px.p16E t.data.toList))) ∧ Below w.heap.size w w' := by
    by_cases hne : t.size = 0
    · have ht : t.data.toList = [] := List.length_eq_zero_iff.1 (by rw [← Lib.size_eq]; exact hne)
      have hemp : t.toList.isEmpty = true := by
        have : t = ⟨#[]⟩ := by
          apply ByteArray.ext
          apply Array.ext'
          exact ht
        rw [this, ← decide_eq_emptyBytes]; exact decide_eq_true rfl
      rw [ht]
      clear ht hne
      go_enter Tryd.func45, Tryd.ntmps45
      go_wp2
      go_ret2
      exact ⟨rfl, Below.refl _ _⟩
    · refine (Tryd.parse16i t hne hmax w).mono fun e w1 h => ⟨h.1.trans ?_, by rw [h.2]; exact Lib.bytesWorld_below _ _ _⟩
      rw [Px.p16E, if_neg (fun e => hne (by rw [Lib.size_eq, e]; rfl))]
  unfold Px.p16G
  revert inner
  rcases hp : Px.p16E t.data.toList with n | _ | _
  · intro inner
    clear hp
    go_enter Tryd.func36, Tryd.ntmps36
    go_wp2_with fail
    refine inner.mono fun e w1 h => ?_
    obtain ⟨he, hb⟩ := h
    have he : e = .returned (.tuple #[.int .u64 (n : Int), .nilIface]) := he
    subst he
    go_wp2
    go_ret2
    exact ⟨rfl, hb⟩
  · intro inner
    clear hp
    go_enter Tryd.func36, Tryd.ntmps36
    go_wp2_with fail
    refine inner.mono fun e w1 h => ?_
    obtain ⟨he, hb⟩ := h
    have he : e = .returned (.tuple #[.int .u64 0, .iface 83 (.int .i64 2)]) := he
    subst he
    have hcell : w1.cell? ⟨4, 0, none⟩ = some (.iface ts ps) := Px.cell_below hb hs
    have HB := Lib.hid hb
    clear hb
    go_wp2_with fail
    refine (Tryd.strconv_toError_syntax _ t 16 32 (.iface ts ps) w1 (by omega) hcell (Or.inr ⟨ts, ps, rfl⟩)).mono fun e w2 h => ?_
    obtain ⟨N, rfl, _, _, hb2⟩ := h
    have HB2 := Lib.hid hb2
    clear hb2
    go_wp2
    go_ret2
    exact ⟨⟨_, rfl, _, _, rfl⟩, HB.out.trans (HB2.out.mono HB.out.size)⟩
  · intro inner
    clear hp
    go_enter Tryd.func36, Tryd.ntmps36
    go_wp2_with fail
    refine inner.mono fun e w1 h => ?_
    obtain ⟨he, hb⟩ := h
    have he : e = .returned (.tuple #[.int .u64 4294967295, .iface 83 (.int .i64 1)]) := he
    subst he
    have hcell : w1.cell? ⟨5, 0, none⟩ = some (.iface tr pr) := Px.cell_below hb hr
    have HB := Lib.hid hb
    clear hb
    go_wp2_with fail
    refine (Tryd.strconv_toError_range _ t 16 32 (.iface tr pr) w1 (by omega) hcell (Or.inr ⟨tr, pr, rfl⟩)).mono fun e w2 h => ?_
    obtain ⟨N, rfl, _, _, hb2⟩ := h
    have HB2 := Lib.hid hb2
    clear hb2
    go_wp2
    go_ret2
    exact ⟨⟨_, rfl, _, _, rfl⟩, HB.out.trans (HB2.out.mono HB.out.size)⟩
theorem Tryd.split1 (s : ByteArray) (c : UInt8) (w : World) (hs : s.size < 4294967281) :
    Calls Tryd.prog 10 #[.string s, .string ⟨#[c]⟩] w fun e w' => e = .returned (.slice (some ⟨w.heap.size, 0, none⟩) (Lib.countB s ⟨#[c]⟩ + 1) (Lib.countB s ⟨#[c]⟩ + 1)) ∧ w' = w.alloc (.cells ((Lib.splitB ⟨#[c]⟩ 0 (Lib.countB s ⟨#[c]⟩) s).map Value.string).toArray 9) := by
  have h1 : 1 ≤ (ByteArray.mk #[c]).size := Nat.le_refl _
  have hle := Lib.countB_le ⟨#[c]⟩ h1 s.size s (Nat.le_refl _)
  have hlen := Lib.splitB_all ⟨#[c]⟩ h1 0 _ s rfl
  have g := Any.strings_genSplit_core Tryd.lays221 (by kernel_rfl) s ⟨#[c]⟩ 0 (-1) (Lib.countB s ⟨#[c]⟩ + 1) w hs h1 (Nat.zero_le _)
    (fun x cs _ => (Tryd.strings_Index_one x c _).mono fun e w' h => ⟨h.1.trans (by rw [← Px.index_one]), h.2⟩)
    ((Tryd.strings_Count_one s c w).mono fun e w' h => ⟨h.1.trans (by rw [show Lib.countByte s.data.toList c = Lib.countB s ⟨#[c]⟩ from (Lib.count_one c s.data.toList).symm]), h.2⟩)
    (by decide) (by decide) (by rw [if_pos (by decide)]; omega)
  rw [Nat.add_sub_cancel, hlen] at g
  have e2 : Lib.cellsOf (Lib.splitB ⟨#[c]⟩ 0 (Lib.countB s ⟨#[c]⟩) s) (Lib.countB s ⟨#[c]⟩ + 1) = ((Lib.splitB ⟨#[c]⟩ 0 (Lib.countB s ⟨#[c]⟩) s).map Value.string).toArray := by rw [← hlen]; exact Lib.cellsOf_full _
  rw [e2] at g
  clear hle hlen e2 h1
  go_enter Tryd.func10, Tryd.ntmps10
  go_wp2_with fail
  refine g.mono fun e w1 h => ?_
  obtain ⟨rfl, rfl⟩ := h
  go_wp2
  go_ret
  exact ⟨rfl, rfl⟩
end Go.Proofs
