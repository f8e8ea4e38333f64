/- A text is cut at its marks. -/
import Derived.Test.YtcgakaboochpaaeDoorFwGQTxMin
namespace Go.Fw
open Go
noncomputable section

theorem cut_parts {K : Nat} {a : ByteArray} {m : UInt8} (hs : a.size ≤ 1048576) (hK : a.size + 2 ≤ K) : spec_l01Cut K a (m.toNat : Int) = some ((spl m (toL a)).map ofL) := by
  have key : ∀ (k i from_ : Nat) (out : List ByteArray) (p : List UInt8) (ps : List (List UInt8)), spl m ((toL a).drop i) = p :: ps → from_ ≤ i → i ≤ a.size → a.size - i + 1 < k → out.length ≤ i →
      spec_l01Cut_l1 K a (m.toNat : Int) k (from_ : Int) (i : Int) out = some (out ++ ((((toL a).drop from_).take (i - from_) ++ p) :: ps).map ofL) := by
    intro k
    induction k with
    | zero => intro i f out p ps _ _ _ h; omega
    | succ k ih =>
      intro i f out p ps hp hf hi hk ho
      have w1 : IntKind.i64.wrap ((i : Int) + 1) = ((i + 1 : Nat) : Int) := wrap_nat1 (by omega)
      rw [spec_l01Cut_l1]
      simp (disch := omega) only [ite2_dec, if_pos, Int.toNat_natCast, w1]
      by_cases e : i = a.size
      · have e1 : ((i : Int) == (a.size : Int)) = true := by simp; omega
        rw [e1, ite2_true, bind_of, ite2_true, chk_pos (by omega), chk_pos (by simp; omega)]
        cases k with
        | zero => omega
        | succ k =>
          rw [spec_l01Cut_l1]
          simp (disch := omega) only [ite2_dec, if_neg]
          have hd : (toL a).drop i = [] := List.drop_eq_nil_of_le (by rw [toL_length]; omega)
          rw [hd] at hp
          cases hp
          rw [ext_ofL]
          simp
      · have e1 : ((i : Int) == (a.size : Int)) = false := by simp; omega
        have hlt : i < a.size := by omega
        rw [e1, ite2_false, chk_pos (by omega), bt_toL hlt, bind_of]
        have hd : (toL a).drop i = (toL a)[i]'hlt :: (toL a).drop (i + 1) := drop_cons (by rw [toL_length]; exact hlt)
        obtain ⟨p', ps', hp'⟩ := spl_cons m ((toL a).drop (i + 1))
        rw [hd] at hp
        by_cases em : (toL a)[i]'hlt = m
        · have e2 : ((((toL a)[i]'hlt).toNat : Int) == (m.toNat : Int)) = true := by simp [em]
          rw [em, spl_mark, hp'] at hp
          cases hp
          rw [e2, ite2_true, chk_pos (by omega), chk_pos (by simp; omega), ih (i + 1) (i + 1) _ p' _ hp' (by omega) (by omega) (by omega) (by simp; omega), ext_ofL]
          simp
        · have e2 : ((((toL a)[i]'hlt).toNat : Int) == (m.toNat : Int)) = false := by
            simp only [beq_eq_false_iff_ne, ne_eq]
            intro h
            exact em (UInt8.toNat_inj.1 (by omega))
          rw [spl_other em hp'] at hp
          cases hp
          rw [e2, ite2_false, ih (i + 1) f out p' _ hp' (by omega) (by omega) (by omega) (by omega)]
          have ht : ((toL a).drop f).take (i + 1 - f) = ((toL a).drop f).take (i - f) ++ [(toL a)[i]'hlt] := by
            rw [show i + 1 - f = (i - f) + 1 by omega, List.take_add_one, List.getElem?_drop, show f + (i - f) = i by omega, List.getElem?_eq_getElem (by rw [toL_length]; exact hlt)]
            rfl
          rw [ht]
          simp
  obtain ⟨p, ps, hp⟩ := spl_cons m (toL a)
  have := key K 0 0 [] p ps hp (by omega) (by omega) (by omega) (by simp)
  rw [spec_l01Cut]
  rw [show (((0 : Nat) : Int)) = 0 from rfl] at this
  rw [this, hp]
  rfl


end
end Go.Fw
