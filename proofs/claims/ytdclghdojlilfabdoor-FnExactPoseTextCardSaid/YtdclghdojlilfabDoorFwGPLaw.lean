/- What a law copies, compares, measures, marks and holds, in plain Lean. -/
import Derived.Test.YtdclghdojlilfabDoorFwGP
import Derived.Test.YtdclghdojlilfabDoorFwLW
namespace Go.Fw
open Go

theorem same_Float (K : Nat) (a : F64) : laws_sameFloat K a a = some true := by
  unfold laws_sameFloat
  cases h : a.ne a
  · have heq : a.eq a = true := by
      unfold Fl.ne cmpBits at h
      unfold Fl.eq cmpBits
      simpa using h
    simp only [ite2_false, bind_of, heq]
    cases a.eq (Fl.mk (k := .f64) 0 (by decide)) <;> simp [ite2]
  · simp [ite2]
def mk_Turn (k : Int) (_ : Turn) : Turn := (Turn.mk (Fl.ofInt .f32 (k)) (Fl.ofInt .f32 (k + 1)) (Fl.ofInt .f32 (k + 2)) (Fl.ofInt .f32 (k + 3)))
theorem sz_TurnS (K : Nat) (a : List Turn) (s : Int) (h0 : 0 ≤ s) (h1 : s ≤ 1048576) (hm : a.length ≤ maxLen) (hK : a.length < K) : Sz (laws_szTurnS K a s) s (a.length) := by
  unfold laws_szTurnS
  exact sz_flat h0 h1 hm
def mk_Vector (k : Int) (_ : Vector) : Vector := (Vector.mk (Fl.ofInt .f32 (k)) (Fl.ofInt .f32 (k + 1)) (Fl.ofInt .f32 (k + 2)))
def mx_Pose (a : Pose) : Nat := a.Turns.length
def mk_Pose (k : Int) (a : Pose) : Pose := Pose.mk (Vector.mk (Fl.ofInt .f32 (k)) (Fl.ofInt .f32 (k + 1)) (Fl.ofInt .f32 (k + 2))) ((mkL mk_Turn (fun (_ : Turn) => (4 : Int))) (k + 3) a.Turns)
def cn_Pose (a : Pose) : Int := 3 + (cnL (fun (_ : Turn) => (4 : Int))) a.Turns
theorem sz_Pose (K : Nat) (a : Pose) (s : Int) (h0 : 0 ≤ s) (h1 : s ≤ 1048576) (hm : mx_Pose a ≤ maxLen) (hK : mx_Pose a < K) : Sz (laws_szPose K a s) s (mx_Pose a) := by
  unfold laws_szPose
  simp only [mx_Pose] at hm hK ⊢
  exact (sz_TurnS K a.Turns s h0 h1 (by omega) (by omega)).last
theorem to_Vector (K : Nat) (a : Vector) : laws_toVector K a = some a := by
  first | rfl | (unfold laws_toVector; simp only [bind_of]; rfl)
theorem to_Turn (K : Nat) (a : Turn) : laws_toTurn K a = some a := by
  first | rfl | (unfold laws_toTurn; simp only [bind_of]; rfl)
theorem to_TurnS {K : Nat} {a : List Turn} (hK : a.length < K) (hs : a.length ≤ 1048576) : laws_toTurnS K a = some a := by
  unfold laws_toTurnS
  rw [chk_pos (by simp; omega)]
  exact to_loop a (laws_toTurnS_l1 K a) (fun k i ys h => by rw [laws_toTurnS_l1, ite2_dec, if_neg (by omega)]) (fun k i ys h hy => by
    have hc : (i : Int) < (a.length : Int) := by omega
    rw [laws_toTurnS_l1]
    simp (disch := omega) only [ite2_dec, if_pos hc, chk_pos, bind_of, Int.toNat_natCast, wrap_nat1, to_Turn]) K 0 _ (by omega) (by simp) (by intro j hj; omega) (by omega)
theorem to_Pose {K : Nat} {a : Pose} (hK : mx_Pose a < K) (hs : mx_Pose a ≤ 1048576) : laws_toPose K a = some a := by
  unfold laws_toPose
  simp only [to_Vector, to_TurnS (K := K) (a := a.Turns) (by simp only [mx_Pose] at hK; omega) (by simp only [mx_Pose] at hs; omega), bind_of]
theorem eq_Vector (K : Nat) (a : Vector) : laws_eqVector K a a = some true := by
  unfold laws_eqVector
  simp only [bind_of, same_Float, Bool.not_true, ite2_false, beq_self_eq_true, bne_self_eq_false]
theorem eq_Turn (K : Nat) (a : Turn) : laws_eqTurn K a a = some true := by
  unfold laws_eqTurn
  simp only [bind_of, same_Float, Bool.not_true, ite2_false, beq_self_eq_true, bne_self_eq_false]
theorem eq_TurnS {K : Nat} {a : List Turn} (hK : a.length < K) (hs : a.length ≤ 1048576) : laws_eqTurnS K a a = some true := by
  unfold laws_eqTurnS
  simp only [bne_self_eq_false, ite2_false]
  exact cnt_loop a.length true (laws_eqTurnS_l1 K a a) (fun k i h => by rw [laws_eqTurnS_l1, ite2_dec, if_neg (by omega)]) (fun k i h => by
    have hc : (i : Int) < (a.length : Int) := by omega
    rw [laws_eqTurnS_l1]
    simp (disch := omega) only [ite2_dec, if_pos hc, chk_pos, bind_of, Int.toNat_natCast, wrap_nat1, same_Float, Bool.not_true, ite2_false, beq_self_eq_true, bne_self_eq_false, eq_Turn]) K 0 (by omega)
theorem eq_Pose {K : Nat} {a : Pose} (hK : mx_Pose a < K) (hs : mx_Pose a ≤ 1048576) : laws_eqPose K a a = some true := by
  unfold laws_eqPose
  simp only [eq_Vector, eq_TurnS (K := K) (a := a.Turns) (by simp only [mx_Pose] at hK; omega) (by simp only [mx_Pose] at hs; omega), bind_of, same_Float, Bool.not_true, ite2_false, beq_self_eq_true, bne_self_eq_false]

end Go.Fw
