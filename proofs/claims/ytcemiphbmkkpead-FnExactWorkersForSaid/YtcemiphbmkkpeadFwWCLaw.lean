/- What a law copies, compares, measures, marks and holds, in plain Lean. -/
import Derived.Test.YtcemiphbmkkpeadFwWC
import Derived.Test.YtcemiphbmkkpeadFwLW
namespace Go.Fw
open Go

theorem to_Int64S {K : Nat} {a : List Int} (hK : a.length < K) (hs : a.length ≤ 1048576) : laws_toInt64S K a = some a := by
  unfold laws_toInt64S
  rw [chk_pos (by simp; omega)]
  exact to_loop a (laws_toInt64S_l1 K a) (fun k i ys h => by rw [laws_toInt64S_l1, ite2_dec, if_neg (by omega)]) (fun k i ys h hy => by
    have hc : (i : Int) < (a.length : Int) := by omega
    rw [laws_toInt64S_l1]
    simp (disch := omega) only [ite2_dec, if_pos hc, chk_pos, bind_of, Int.toNat_natCast, wrap_nat1]) K 0 _ (by omega) (by simp) (by intro j hj; omega) (by omega)
theorem eq_Int64S {K : Nat} {a : List Int} (hK : a.length < K) (hs : a.length ≤ 1048576) : laws_eqInt64S K a a = some true := by
  unfold laws_eqInt64S
  simp only [bne_self_eq_false, ite2_false]
  exact cnt_loop a.length true (laws_eqInt64S_l1 K a a) (fun k i h => by rw [laws_eqInt64S_l1, ite2_dec, if_neg (by omega)]) (fun k i h => by
    have hc : (i : Int) < (a.length : Int) := by omega
    rw [laws_eqInt64S_l1]
    simp (disch := omega) only [ite2_dec, if_pos hc, chk_pos, bind_of, Int.toNat_natCast, wrap_nat1, Bool.not_true, ite2_false, beq_self_eq_true, bne_self_eq_false]) K 0 (by omega)
theorem mark_Int64S {K : Nat} {a : List Int} {k0 : Int} (hK : a.length < K) (hs : a.length ≤ 1048576) (hk0 : 0 ≤ k0) (hk1 : k0 + 1048576 ≤ 4611686018427387904) : laws_markInt64S K a k0 = some (k0 + cnL (fun (_ : Int) => (1 : Int)) a, mkL (fun k (_ : Int) => k) (fun (_ : Int) => (1 : Int)) k0 a) := by
  unfold laws_markInt64S
  exact mark_loop (fun k (_ : Int) => k) (fun (_ : Int) => (1 : Int)) 1 k0 a (by decide) (by omega) (fun x _ => by constructor <;> decide) hk0 (by omega) (laws_markInt64S_l1 K a) (fun k i x xs h1 h2 => by rw [laws_markInt64S_l1, ite2_dec, if_neg (by omega), chk_pos h1]) (fun k i x xs hx0 hx1 h he hi hl hg _ => by
    have w1 : IntKind.i64.wrap (x + 1) = x + 1 := by rw [wrap_in (by omega) (by omega)]
    have w0 : IntKind.i64.wrap x = x := wrap_in (by omega) (by omega)
    have w9 := wrap_nat1 (i := i) (by omega)
    have hc : 0 ≤ (i : Int) ∧ (i : Int) < (xs.length : Int) := by omega
    rw [laws_markInt64S_l1]
    simp only [Int.toNat_natCast, w9, w0, w1, List.length_set, bind_of, set_getD hi, List.set_set, ite2_dec, if_pos hc.2, chk_pos hc, hg]
    try rfl) K (by omega)
theorem held_Int64S {K : Nat} {a : List Int} {k0 : Int} (hK : a.length < K) (hs : a.length ≤ 1048576) (hk0 : 0 ≤ k0) (hk1 : k0 + 1048576 ≤ 4611686018427387904) : laws_heldInt64S K (mkL (fun k (_ : Int) => k) (fun (_ : Int) => (1 : Int)) k0 a) k0 = some (k0 + cnL (fun (_ : Int) => (1 : Int)) a) := by
  unfold laws_heldInt64S
  exact held_loop (fun k (_ : Int) => k) (fun (_ : Int) => (1 : Int)) 1 k0 a (by decide) (by omega) (fun x _ => by constructor <;> decide) hk0 (by omega) (laws_heldInt64S_l1 K _) (fun k i x h2 => by rw [laws_heldInt64S_l1, ite2_dec, if_neg (by rw [mkL_length]; omega)]) (fun k i x hx0 hx1 h hi hl hg _ => by
    have w1 : IntKind.i64.wrap (x + 1) = x + 1 := by rw [wrap_in (by omega) (by omega)]
    have w0 : IntKind.i64.wrap x = x := wrap_in (by omega) (by omega)
    have w9 := wrap_nat1 (i := i) (by omega)
    have hc : 0 ≤ (i : Int) ∧ (i : Int) < ((mkL (fun k (_ : Int) => k) (fun (_ : Int) => (1 : Int)) k0 a).length : Int) := by omega
    rw [laws_heldInt64S_l1]
    simp only [Int.toNat_natCast, w9, ite2_dec, if_pos hc.2, chk_pos hc, hg, w0, w1, ofInt_ne, ite2_false, bne_self_eq_false, beq_self_eq_true, Bool.not_true, bind_of]
    try rfl) K (by omega)

end Go.Fw
