/- What a law copies, compares, measures, marks and holds, in plain Lean. -/
import Derived.Test.YtcgakaboochpaaeDoorFwGQ
import Derived.Test.YtcgakaboochpaaeDoorFwLW
namespace Go.Fw
open Go

theorem same_Float (K : Nat) (a : F64) : laws_sameFloat K a a = some true := by
  unfold laws_sameFloat
  cases h : a.ne a
  · have heq : a.eq a = true := by
      unfold Fl.ne cmpBits at h
      unfold Fl.eq cmpBits
      simpa using h
    simp only [ite2_false, bind_of, heq]
    cases a.eq (Fl.mk (k := .f64) 0 (by decide)) <;> simp [ite2]
  · simp [ite2]
def mk_Vector (k : Int) (_ : Vector) : Vector := (Vector.mk (Fl.ofInt .f32 (k)) (Fl.ofInt .f32 (k + 1)) (Fl.ofInt .f32 (k + 2)))
theorem eq_Vector (K : Nat) (a : Vector) : laws_eqVector K a a = some true := by
  unfold laws_eqVector
  simp only [bind_of, same_Float, Bool.not_true, ite2_false, beq_self_eq_true, bne_self_eq_false]
def mk_Turn (k : Int) (_ : Turn) : Turn := (Turn.mk (Fl.ofInt .f32 (k)) (Fl.ofInt .f32 (k + 1)) (Fl.ofInt .f32 (k + 2)) (Fl.ofInt .f32 (k + 3)))
theorem eq_Turn (K : Nat) (a : Turn) : laws_eqTurn K a a = some true := by
  unfold laws_eqTurn
  simp only [bind_of, same_Float, Bool.not_true, ite2_false, beq_self_eq_true, bne_self_eq_false]
theorem eq_TurnS {K : Nat} {a : List Turn} (hK : a.length < K) (hs : a.length ≤ 1048576) : laws_eqTurnS K a a = some true := by
  unfold laws_eqTurnS
  simp only [bne_self_eq_false, ite2_false]
  exact cnt_loop a.length true (laws_eqTurnS_l1 K a a) (fun k i h => by rw [laws_eqTurnS_l1, ite2_dec, if_neg (by omega)]) (fun k i h => by
    have hc : (i : Int) < (a.length : Int) := by omega
    rw [laws_eqTurnS_l1]
    simp (disch := omega) only [ite2_dec, if_pos hc, chk_pos, bind_of, Int.toNat_natCast, wrap_nat1, same_Float, Bool.not_true, ite2_false, beq_self_eq_true, bne_self_eq_false, eq_Turn]) K 0 (by omega)
def mx_Pose (a : Pose) : Nat := a.Turns.length
def mk_Pose (k : Int) (a : Pose) : Pose := Pose.mk (Vector.mk (Fl.ofInt .f32 (k)) (Fl.ofInt .f32 (k + 1)) (Fl.ofInt .f32 (k + 2))) ((mkL mk_Turn (fun (_ : Turn) => (4 : Int))) (k + 3) a.Turns)
def cn_Pose (a : Pose) : Int := 3 + (cnL (fun (_ : Turn) => (4 : Int))) a.Turns
theorem eq_Pose {K : Nat} {a : Pose} (hK : mx_Pose a < K) (hs : mx_Pose a ≤ 1048576) : laws_eqPose K a a = some true := by
  unfold laws_eqPose
  simp only [eq_Vector, eq_TurnS (K := K) (a := a.Turns) (by simp only [mx_Pose] at hK; omega) (by simp only [mx_Pose] at hs; omega), bind_of, same_Float, Bool.not_true, ite2_false, beq_self_eq_true, bne_self_eq_false]
theorem mark_TurnS {K : Nat} {a : List Turn} {k0 : Int} (hK : a.length < K) (hs : a.length ≤ 1048576) (hk0 : 0 ≤ k0) (hk1 : k0 + 4194304 ≤ 4611686018427387904) : laws_markTurnS K a k0 = some (k0 + cnL (fun (_ : Turn) => (4 : Int)) a, mkL mk_Turn (fun (_ : Turn) => (4 : Int)) k0 a) := by
  unfold laws_markTurnS
  exact mark_loop mk_Turn (fun (_ : Turn) => (4 : Int)) 4 k0 a (by decide) (by omega) (fun x _ => by constructor <;> decide) hk0 (by omega) (laws_markTurnS_l1 K a) (fun k i x xs h1 h2 => by rw [laws_markTurnS_l1, ite2_dec, if_neg (by omega), chk_pos h1]) (fun k i x xs hx0 hx1 h he hi hl hg _ => by
    have w1 : IntKind.i64.wrap (x + 1) = x + 1 := by rw [wrap_in (by omega) (by omega)]
    have w2 : IntKind.i64.wrap (x + 1 + 1) = x + 2 := by rw [wrap_in (by omega) (by omega)]; omega
    have w3 : IntKind.i64.wrap (x + 2 + 1) = x + 3 := by rw [wrap_in (by omega) (by omega)]; omega
    have w4 : IntKind.i64.wrap (x + 3 + 1) = x + 4 := by rw [wrap_in (by omega) (by omega)]; omega
    have w0 : IntKind.i64.wrap x = x := wrap_in (by omega) (by omega)
    have w9 := wrap_nat1 (i := i) (by omega)
    have hc : 0 ≤ (i : Int) ∧ (i : Int) < (xs.length : Int) := by omega
    rw [laws_markTurnS_l1]
    simp only [Int.toNat_natCast, w9, w0, w1, w2, w3, w4, List.length_set, bind_of, set_getD hi, List.set_set, ite2_dec, if_pos hc.2, chk_pos hc, hg]
    try rfl) K (by omega)
theorem held_TurnS {K : Nat} {a : List Turn} {k0 : Int} (hK : a.length < K) (hs : a.length ≤ 1048576) (hk0 : 0 ≤ k0) (hk1 : k0 + 4194304 ≤ 4611686018427387904) : laws_heldTurnS K (mkL mk_Turn (fun (_ : Turn) => (4 : Int)) k0 a) k0 = some (k0 + cnL (fun (_ : Turn) => (4 : Int)) a) := by
  unfold laws_heldTurnS
  exact held_loop mk_Turn (fun (_ : Turn) => (4 : Int)) 4 k0 a (by decide) (by omega) (fun x _ => by constructor <;> decide) hk0 (by omega) (laws_heldTurnS_l1 K _) (fun k i x h2 => by rw [laws_heldTurnS_l1, ite2_dec, if_neg (by rw [mkL_length]; omega)]) (fun k i x hx0 hx1 h hi hl hg _ => by
    have w1 : IntKind.i64.wrap (x + 1) = x + 1 := by rw [wrap_in (by omega) (by omega)]
    have w2 : IntKind.i64.wrap (x + 1 + 1) = x + 2 := by rw [wrap_in (by omega) (by omega)]; omega
    have w3 : IntKind.i64.wrap (x + 2 + 1) = x + 3 := by rw [wrap_in (by omega) (by omega)]; omega
    have w4 : IntKind.i64.wrap (x + 3 + 1) = x + 4 := by rw [wrap_in (by omega) (by omega)]; omega
    have w0 : IntKind.i64.wrap x = x := wrap_in (by omega) (by omega)
    have w9 := wrap_nat1 (i := i) (by omega)
    have hc : 0 ≤ (i : Int) ∧ (i : Int) < ((mkL mk_Turn (fun (_ : Turn) => (4 : Int)) k0 a).length : Int) := by omega
    rw [laws_heldTurnS_l1]
    simp only [Int.toNat_natCast, w9, ite2_dec, if_pos hc.2, chk_pos hc, hg, mk_Turn, w0, w1, w2, w3, w4, ofInt_ne, ite2_false, bne_self_eq_false, beq_self_eq_true, Bool.not_true, bind_of]
    try rfl) K (by omega)
theorem mark_Pose {K : Nat} {a : Pose} {k0 : Int} (hK : mx_Pose a < K) (hs : mx_Pose a ≤ 1048576) (hk0 : 0 ≤ k0) (hk1 : k0 + 4194304 ≤ 4611686018427387904) : ∃ m y0, laws_markPose K a k0 = some (m, y0) ∧ k0 ≤ m ∧ m ≤ k0 + 4194304 ∧ y0.length = a.Turns.length ∧ ∀ (z0 : Vector), laws_heldPose K (Pose.mk z0 y0) k0 = some m := by
  simp only [mx_Pose] at hK hs
  have b0 := cnL_bound2 (c := (fun (_ : Turn) => (4 : Int))) (B := 4) (xs := a.Turns) (by decide) (by omega) (fun x hx => by constructor <;> decide)
  have e0 := mark_TurnS (K := K) (a := a.Turns) (k0 := k0) (by omega) (by omega) (by omega) (by omega)
  have g0 := held_TurnS (K := K) (a := a.Turns) (k0 := k0) (by omega) (by omega) (by omega) (by omega)
  have l0 := mkL_length mk_Turn (fun (_ : Turn) => (4 : Int)) a.Turns (k0)
  have n0 : ¬ (k0 + cnL (fun (_ : Turn) => (4 : Int)) a.Turns < 0) := by omega
  refine ⟨k0 + cnL (fun (_ : Turn) => (4 : Int)) a.Turns, (mkL mk_Turn (fun (_ : Turn) => (4 : Int)) (k0) a.Turns), ?_, by omega, by omega, l0, ?_⟩
  · unfold laws_markPose
    simp only [e0, l0, bind_of, chk_pos]
  · intro z0
    unfold laws_heldPose
    simp only [g0, if_neg n0, bind_of, ite2_dec]

end Go.Fw
