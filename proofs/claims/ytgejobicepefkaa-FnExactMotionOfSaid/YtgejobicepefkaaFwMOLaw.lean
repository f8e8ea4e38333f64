/- What a law copies, compares, measures, marks and holds, in plain Lean. -/
import Derived.Test.YtgejobicepefkaaFwMO
import Derived.Test.YtgejobicepefkaaFwLW
namespace Go.Fw
open Go

theorem same_Float (K : Nat) (a : F64) : laws_sameFloat K a a = some true := by
  unfold laws_sameFloat
  cases h : a.ne a
  · have heq : a.eq a = true := by
      unfold Fl.ne cmpBits at h
      unfold Fl.eq cmpBits
      simpa using h
    simp only [ite2_false, bind_of, heq]
    cases a.eq (Fl.mk (k := .f64) 0 (by decide)) <;> simp [ite2]
  · simp [ite2]
def mk_Turn (k : Int) (_ : Turn) : Turn := (Turn.mk (Fl.ofInt .f32 (k)) (Fl.ofInt .f32 (k + 1)) (Fl.ofInt .f32 (k + 2)) (Fl.ofInt .f32 (k + 3)))
theorem sz_TurnS (K : Nat) (a : List Turn) (s : Int) (h0 : 0 ≤ s) (h1 : s ≤ 1048576) (hm : a.length ≤ maxLen) (hK : a.length < K) : Sz (laws_szTurnS K a s) s (a.length) := by
  unfold laws_szTurnS
  exact sz_flat h0 h1 hm
def mk_Vector (k : Int) (_ : Vector) : Vector := (Vector.mk (Fl.ofInt .f32 (k)) (Fl.ofInt .f32 (k + 1)) (Fl.ofInt .f32 (k + 2)))
def mx_Pose (a : Pose) : Nat := a.Turns.length
def mk_Pose (k : Int) (a : Pose) : Pose := Pose.mk (Vector.mk (Fl.ofInt .f32 (k)) (Fl.ofInt .f32 (k + 1)) (Fl.ofInt .f32 (k + 2))) ((mkL mk_Turn (fun (_ : Turn) => (4 : Int))) (k + 3) a.Turns)
def cn_Pose (a : Pose) : Int := 3 + (cnL (fun (_ : Turn) => (4 : Int))) a.Turns
theorem sz_Pose (K : Nat) (a : Pose) (s : Int) (h0 : 0 ≤ s) (h1 : s ≤ 1048576) (hm : mx_Pose a ≤ maxLen) (hK : mx_Pose a < K) : Sz (laws_szPose K a s) s (mx_Pose a) := by
  unfold laws_szPose
  simp only [mx_Pose] at hm hK ⊢
  exact (sz_TurnS K a.Turns s h0 h1 (by omega) (by omega)).last
theorem sz_PoseS (K : Nat) (a : List Pose) (s : Int) (h0 : 0 ≤ s) (h1 : s ≤ 1048576) (hm : mxL mx_Pose a ≤ maxLen) (hK : mxL mx_Pose a < K) : Sz (laws_szPoseS K a s) s (mxL mx_Pose a) := by
  have hln := mxL_len mx_Pose a
  unfold laws_szPoseS
  exact sz_nested mx_Pose a (by omega) (laws_szPoseS_l1 K a) (fun x s => laws_szPose K x s) (fun x hx s h0 h1 => sz_Pose K x s h0 h1 (by have := mxL_mem (f := mx_Pose) hx; omega) (by have := mxL_mem (f := mx_Pose) hx; omega))
    (fun k i s h => by rw [laws_szPoseS_l1, ite2_dec, if_neg (by omega)]) (fun k i s h => by rw [laws_szPoseS_l1, ite2_dec, if_pos (by omega), chk_pos (by omega), Int.toNat_natCast]) (by omega) h0 h1
def mx_Recording (a : Recording) : Nat := mxL mx_Pose a.Frames
def mk_Recording (k : Int) (a : Recording) : Recording := Recording.mk k ((mkL mk_Pose cn_Pose) (k + 1) a.Frames)
def cn_Recording (a : Recording) : Int := 1 + (cnL cn_Pose) a.Frames
theorem sz_Recording (K : Nat) (a : Recording) (s : Int) (h0 : 0 ≤ s) (h1 : s ≤ 1048576) (hm : mx_Recording a ≤ maxLen) (hK : mx_Recording a < K) : Sz (laws_szRecording K a s) s (mx_Recording a) := by
  unfold laws_szRecording
  simp only [mx_Recording] at hm hK ⊢
  exact (sz_PoseS K a.Frames s h0 h1 (by omega) (by omega)).last
theorem to_Vector (K : Nat) (a : Vector) : laws_toVector K a = some a := by
  first | rfl | (unfold laws_toVector; simp only [bind_of]; rfl)
theorem to_Turn (K : Nat) (a : Turn) : laws_toTurn K a = some a := by
  first | rfl | (unfold laws_toTurn; simp only [bind_of]; rfl)
theorem to_TurnS {K : Nat} {a : List Turn} (hK : a.length < K) (hs : a.length ≤ 1048576) : laws_toTurnS K a = some a := by
  unfold laws_toTurnS
  rw [chk_pos (by simp; omega)]
  exact to_loop a (laws_toTurnS_l1 K a) (fun k i ys h => by rw [laws_toTurnS_l1, ite2_dec, if_neg (by omega)]) (fun k i ys h hy => by
    have hc : (i : Int) < (a.length : Int) := by omega
    rw [laws_toTurnS_l1]
    simp (disch := omega) only [ite2_dec, if_pos hc, chk_pos, bind_of, Int.toNat_natCast, wrap_nat1, to_Turn]) K 0 _ (by omega) (by simp) (by intro j hj; omega) (by omega)
theorem to_Pose {K : Nat} {a : Pose} (hK : mx_Pose a < K) (hs : mx_Pose a ≤ 1048576) : laws_toPose K a = some a := by
  unfold laws_toPose
  simp only [to_Vector, to_TurnS (K := K) (a := a.Turns) (by simp only [mx_Pose] at hK; omega) (by simp only [mx_Pose] at hs; omega), bind_of]
theorem to_PoseS {K : Nat} {a : List Pose} (hK : mxL mx_Pose a < K) (hs : mxL mx_Pose a ≤ 1048576) : laws_toPoseS K a = some a := by
  have hln := mxL_len mx_Pose a
  unfold laws_toPoseS
  rw [chk_pos (by simp; omega)]
  exact to_loop a (laws_toPoseS_l1 K a) (fun k i ys h => by rw [laws_toPoseS_l1, ite2_dec, if_neg (by omega)]) (fun k i ys h hy => by
    have hc : (i : Int) < (a.length : Int) := by omega
    rw [laws_toPoseS_l1]
    simp (disch := omega) only [ite2_dec, if_pos hc, chk_pos, bind_of, Int.toNat_natCast, wrap_nat1, to_Pose (K := K) (a := a.getD i default) (by have := mxL_getD (f := mx_Pose) h; omega) (by have := mxL_getD (f := mx_Pose) h; omega)]) K 0 _ (by omega) (by simp) (by intro j hj; omega) (by omega)
theorem to_Recording {K : Nat} {a : Recording} (hK : mx_Recording a < K) (hs : mx_Recording a ≤ 1048576) : laws_toRecording K a = some a := by
  unfold laws_toRecording
  simp only [to_PoseS (K := K) (a := a.Frames) (by simp only [mx_Recording] at hK; omega) (by simp only [mx_Recording] at hs; omega), bind_of]
theorem eq_Float32S {K : Nat} {a : List F32} (hK : a.length < K) (hs : a.length ≤ 1048576) : laws_eqFloat32S K a a = some true := by
  unfold laws_eqFloat32S
  simp only [bne_self_eq_false, ite2_false]
  exact cnt_loop a.length true (laws_eqFloat32S_l1 K a a) (fun k i h => by rw [laws_eqFloat32S_l1, ite2_dec, if_neg (by omega)]) (fun k i h => by
    have hc : (i : Int) < (a.length : Int) := by omega
    rw [laws_eqFloat32S_l1]
    simp (disch := omega) only [ite2_dec, if_pos hc, chk_pos, bind_of, Int.toNat_natCast, wrap_nat1, same_Float, Bool.not_true, ite2_false, beq_self_eq_true, bne_self_eq_false]) K 0 (by omega)
theorem eq_Vector (K : Nat) (a : Vector) : laws_eqVector K a a = some true := by
  unfold laws_eqVector
  simp only [bind_of, same_Float, Bool.not_true, ite2_false, beq_self_eq_true, bne_self_eq_false]
theorem eq_Turn (K : Nat) (a : Turn) : laws_eqTurn K a a = some true := by
  unfold laws_eqTurn
  simp only [bind_of, same_Float, Bool.not_true, ite2_false, beq_self_eq_true, bne_self_eq_false]
theorem eq_TurnS {K : Nat} {a : List Turn} (hK : a.length < K) (hs : a.length ≤ 1048576) : laws_eqTurnS K a a = some true := by
  unfold laws_eqTurnS
  simp only [bne_self_eq_false, ite2_false]
  exact cnt_loop a.length true (laws_eqTurnS_l1 K a a) (fun k i h => by rw [laws_eqTurnS_l1, ite2_dec, if_neg (by omega)]) (fun k i h => by
    have hc : (i : Int) < (a.length : Int) := by omega
    rw [laws_eqTurnS_l1]
    simp (disch := omega) only [ite2_dec, if_pos hc, chk_pos, bind_of, Int.toNat_natCast, wrap_nat1, same_Float, Bool.not_true, ite2_false, beq_self_eq_true, bne_self_eq_false, eq_Turn]) K 0 (by omega)
theorem eq_Pose {K : Nat} {a : Pose} (hK : mx_Pose a < K) (hs : mx_Pose a ≤ 1048576) : laws_eqPose K a a = some true := by
  unfold laws_eqPose
  simp only [eq_Vector, eq_TurnS (K := K) (a := a.Turns) (by simp only [mx_Pose] at hK; omega) (by simp only [mx_Pose] at hs; omega), bind_of, same_Float, Bool.not_true, ite2_false, beq_self_eq_true, bne_self_eq_false]
theorem eq_PoseS {K : Nat} {a : List Pose} (hK : mxL mx_Pose a < K) (hs : mxL mx_Pose a ≤ 1048576) : laws_eqPoseS K a a = some true := by
  have hln := mxL_len mx_Pose a
  unfold laws_eqPoseS
  simp only [bne_self_eq_false, ite2_false]
  exact cnt_loop a.length true (laws_eqPoseS_l1 K a a) (fun k i h => by rw [laws_eqPoseS_l1, ite2_dec, if_neg (by omega)]) (fun k i h => by
    have hc : (i : Int) < (a.length : Int) := by omega
    rw [laws_eqPoseS_l1]
    simp (disch := omega) only [ite2_dec, if_pos hc, chk_pos, bind_of, Int.toNat_natCast, wrap_nat1, same_Float, Bool.not_true, ite2_false, beq_self_eq_true, bne_self_eq_false, eq_Pose (K := K) (a := a.getD i default) (by have := mxL_getD (f := mx_Pose) h; omega) (by have := mxL_getD (f := mx_Pose) h; omega)]) K 0 (by omega)
theorem eq_Recording {K : Nat} {a : Recording} (hK : mx_Recording a < K) (hs : mx_Recording a ≤ 1048576) : laws_eqRecording K a a = some true := by
  unfold laws_eqRecording
  simp only [eq_PoseS (K := K) (a := a.Frames) (by simp only [mx_Recording] at hK; omega) (by simp only [mx_Recording] at hs; omega), bind_of, same_Float, Bool.not_true, ite2_false, beq_self_eq_true, bne_self_eq_false]
theorem mark_TurnS {K : Nat} {a : List Turn} {k0 : Int} (hK : a.length < K) (hs : a.length ≤ 1048576) (hk0 : 0 ≤ k0) (hk1 : k0 + 4194304 ≤ 4611686018427387904) : laws_markTurnS K a k0 = some (k0 + cnL (fun (_ : Turn) => (4 : Int)) a, mkL mk_Turn (fun (_ : Turn) => (4 : Int)) k0 a) := by
  unfold laws_markTurnS
  exact mark_loop mk_Turn (fun (_ : Turn) => (4 : Int)) 4 k0 a (by decide) (by omega) (fun x _ => by constructor <;> decide) hk0 (by omega) (laws_markTurnS_l1 K a) (fun k i x xs h1 h2 => by rw [laws_markTurnS_l1, ite2_dec, if_neg (by omega), chk_pos h1]) (fun k i x xs hx0 hx1 h he hi hl hg _ => by
    have w1 : IntKind.i64.wrap (x + 1) = x + 1 := by rw [wrap_in (by omega) (by omega)]
    have w2 : IntKind.i64.wrap (x + 1 + 1) = x + 2 := by rw [wrap_in (by omega) (by omega)]; omega
    have w3 : IntKind.i64.wrap (x + 2 + 1) = x + 3 := by rw [wrap_in (by omega) (by omega)]; omega
    have w4 : IntKind.i64.wrap (x + 3 + 1) = x + 4 := by rw [wrap_in (by omega) (by omega)]; omega
    have w0 : IntKind.i64.wrap x = x := wrap_in (by omega) (by omega)
    have w9 := wrap_nat1 (i := i) (by omega)
    have hc : 0 ≤ (i : Int) ∧ (i : Int) < (xs.length : Int) := by omega
    rw [laws_markTurnS_l1]
    simp only [Int.toNat_natCast, w9, w0, w1, w2, w3, w4, List.length_set, bind_of, set_getD hi, List.set_set, ite2_dec, if_pos hc.2, chk_pos hc, hg]
    try rfl) K (by omega)
theorem bd_Pose {a : Pose} (hs : mx_Pose a ≤ 1048576) : 0 ≤ cn_Pose a ∧ cn_Pose a ≤ 4194307 := by
  simp only [mx_Pose] at hs
  unfold cn_Pose
  have b1 := cnL_bound2 (c := (fun (_ : Turn) => (4 : Int))) (B := 4) (xs := a.Turns) (by decide) (by omega) (fun x hx => by constructor <;> decide)
  omega
theorem mark_PoseS {K : Nat} {a : List Pose} {k0 : Int} (hK : mxL mx_Pose a < K) (hs : mxL mx_Pose a ≤ 1048576) (hk0 : 0 ≤ k0) (hk1 : k0 + 4398049656832 ≤ 4611686018427387904) : laws_markPoseS K a k0 = some (k0 + cnL cn_Pose a, mkL mk_Pose cn_Pose k0 a) := by
  have hln := mxL_len mx_Pose a
  unfold laws_markPoseS
  exact mark_loop mk_Pose cn_Pose 4194307 k0 a (by decide) (by omega) (fun x hx => bd_Pose (by have := mxL_mem (f := mx_Pose) hx; omega)) hk0 (by omega) (laws_markPoseS_l1 K a) (fun k i x xs h1 h2 => by rw [laws_markPoseS_l1, ite2_dec, if_neg (by omega), chk_pos h1]) (fun k i x xs hx0 hx1 h he hi hl hg _ => by
    have w1 : IntKind.i64.wrap (x + 1) = x + 1 := by rw [wrap_in (by omega) (by omega)]
    have w2 : IntKind.i64.wrap (x + 1 + 1) = x + 2 := by rw [wrap_in (by omega) (by omega)]; omega
    have w3 : IntKind.i64.wrap (x + 2 + 1) = x + 3 := by rw [wrap_in (by omega) (by omega)]; omega
    have w0 : IntKind.i64.wrap x = x := wrap_in (by omega) (by omega)
    have w9 := wrap_nat1 (i := i) (by omega)
    have hc : 0 ≤ (i : Int) ∧ (i : Int) < (xs.length : Int) := by omega
    rw [laws_markPoseS_l1]
    unfold cn_Pose mk_Pose
    simp only [Int.toNat_natCast, w9, w0, w1, w2, w3, List.length_set, bind_of, set_getD hi, List.set_set, ite2_dec, if_pos hc.2, chk_pos hc, hg, mark_TurnS (K := K) (a := (a.getD i default).Turns) (k0 := x + 3) (by have := mxL_getD (f := mx_Pose) h; simp only [mx_Pose] at this; omega) (by have := mxL_getD (f := mx_Pose) h; simp only [mx_Pose] at this; omega) (by omega) (by omega)]
    try (simp only [Int.add_assoc]; try rfl)) K (by omega)
theorem mark_Float32S {K : Nat} {a : List F32} {k0 : Int} (hK : a.length < K) (hs : a.length ≤ 1048576) (hk0 : 0 ≤ k0) (hk1 : k0 + 1048576 ≤ 4611686018427387904) : laws_markFloat32S K a k0 = some (k0 + cnL (fun (_ : F32) => (1 : Int)) a, mkL (fun k (_ : F32) => (Fl.ofInt .f32 (k))) (fun (_ : F32) => (1 : Int)) k0 a) := by
  unfold laws_markFloat32S
  exact mark_loop (fun k (_ : F32) => (Fl.ofInt .f32 (k))) (fun (_ : F32) => (1 : Int)) 1 k0 a (by decide) (by omega) (fun x _ => by constructor <;> decide) hk0 (by omega) (laws_markFloat32S_l1 K a) (fun k i x xs h1 h2 => by rw [laws_markFloat32S_l1, ite2_dec, if_neg (by omega), chk_pos h1]) (fun k i x xs hx0 hx1 h he hi hl hg _ => by
    have w1 : IntKind.i64.wrap (x + 1) = x + 1 := by rw [wrap_in (by omega) (by omega)]
    have w0 : IntKind.i64.wrap x = x := wrap_in (by omega) (by omega)
    have w9 := wrap_nat1 (i := i) (by omega)
    have hc : 0 ≤ (i : Int) ∧ (i : Int) < (xs.length : Int) := by omega
    rw [laws_markFloat32S_l1]
    simp only [Int.toNat_natCast, w9, w0, w1, List.length_set, bind_of, set_getD hi, List.set_set, ite2_dec, if_pos hc.2, chk_pos hc, hg]
    try rfl) K (by omega)
theorem held_Float32S {K : Nat} {a : List F32} {k0 : Int} (hK : a.length < K) (hs : a.length ≤ 1048576) (hk0 : 0 ≤ k0) (hk1 : k0 + 1048576 ≤ 4611686018427387904) : laws_heldFloat32S K (mkL (fun k (_ : F32) => (Fl.ofInt .f32 (k))) (fun (_ : F32) => (1 : Int)) k0 a) k0 = some (k0 + cnL (fun (_ : F32) => (1 : Int)) a) := by
  unfold laws_heldFloat32S
  exact held_loop (fun k (_ : F32) => (Fl.ofInt .f32 (k))) (fun (_ : F32) => (1 : Int)) 1 k0 a (by decide) (by omega) (fun x _ => by constructor <;> decide) hk0 (by omega) (laws_heldFloat32S_l1 K _) (fun k i x h2 => by rw [laws_heldFloat32S_l1, ite2_dec, if_neg (by rw [mkL_length]; omega)]) (fun k i x hx0 hx1 h hi hl hg _ => by
    have w1 : IntKind.i64.wrap (x + 1) = x + 1 := by rw [wrap_in (by omega) (by omega)]
    have w0 : IntKind.i64.wrap x = x := wrap_in (by omega) (by omega)
    have w9 := wrap_nat1 (i := i) (by omega)
    have hc : 0 ≤ (i : Int) ∧ (i : Int) < ((mkL (fun k (_ : F32) => (Fl.ofInt .f32 (k))) (fun (_ : F32) => (1 : Int)) k0 a).length : Int) := by omega
    rw [laws_heldFloat32S_l1]
    simp only [Int.toNat_natCast, w9, ite2_dec, if_pos hc.2, chk_pos hc, hg, w0, w1, ofInt_ne, ite2_false, bne_self_eq_false, beq_self_eq_true, Bool.not_true, bind_of]
    try rfl) K (by omega)
theorem mark_Recording {K : Nat} {a : Recording} {k0 : Int} (hK : mx_Recording a < K) (hs : mx_Recording a ≤ 1048576) (hk0 : 0 ≤ k0) (hk1 : k0 + 4398049656832 ≤ 4611686018427387904) : ∃ m y0, laws_markRecording K a k0 = some (m, y0) ∧ k0 ≤ m ∧ m ≤ k0 + 4398049656832 ∧ y0.length = a.Frames.length ∧ True := by
  simp only [mx_Recording] at hK hs
  have b0 := cnL_bound2 (c := cn_Pose) (B := 4194307) (xs := a.Frames) (by decide) (by have := mxL_len mx_Pose a.Frames; omega) (fun x hx => bd_Pose (by have := mxL_mem (f := mx_Pose) hx; omega))
  have e0 := mark_PoseS (K := K) (a := a.Frames) (k0 := k0) (by omega) (by omega) (by omega) (by omega)
  have l0 := mkL_length mk_Pose cn_Pose a.Frames (k0)
  have n0 : ¬ (k0 + cnL cn_Pose a.Frames < 0) := by omega
  refine ⟨k0 + cnL cn_Pose a.Frames, (mkL mk_Pose cn_Pose (k0) a.Frames), ?_, by omega, by omega, l0, ?_⟩
  · unfold laws_markRecording
    simp only [e0, l0, bind_of, chk_pos]
  · trivial

end Go.Fw
