/- What a law copies, compares, measures, marks and holds, in plain Lean. -/
import Derived.Test.YtdkidnhddgeboaaDoorFwGG
import Derived.Test.YtdkidnhddgeboaaDoorFwLW
namespace Go.Fw
open Go

theorem to_StringS {K : Nat} {a : List ByteArray} (hK : a.length < K) (hs : a.length ≤ 1048576) : laws_toStringS K a = some a := by
  unfold laws_toStringS
  rw [chk_pos (by simp; omega)]
  exact to_loop a (laws_toStringS_l1 K a) (fun k i ys h => by rw [laws_toStringS_l1, ite2_dec, if_neg (by omega)]) (fun k i ys h hy => by
    have hc : (i : Int) < (a.length : Int) := by omega
    rw [laws_toStringS_l1]
    simp (disch := omega) only [ite2_dec, if_pos hc, chk_pos, bind_of, Int.toNat_natCast, wrap_nat1]) K 0 _ (by omega) (by simp) (by intro j hj; omega) (by omega)
theorem eq_StringS {K : Nat} {a : List ByteArray} (hK : a.length < K) (hs : a.length ≤ 1048576) : laws_eqStringS K a a = some true := by
  unfold laws_eqStringS
  simp only [bne_self_eq_false, ite2_false]
  exact cnt_loop a.length true (laws_eqStringS_l1 K a a) (fun k i h => by rw [laws_eqStringS_l1, ite2_dec, if_neg (by omega)]) (fun k i h => by
    have hc : (i : Int) < (a.length : Int) := by omega
    rw [laws_eqStringS_l1]
    simp (disch := omega) only [ite2_dec, if_pos hc, chk_pos, bind_of, Int.toNat_natCast, wrap_nat1, Bool.not_true, ite2_false, beq_self_eq_true, bne_self_eq_false]) K 0 (by omega)

end Go.Fw
