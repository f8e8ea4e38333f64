/- The law FnExactValidStage, in plain Lean. -/
import Derived.Test.YtgejobicepefkaaFwVS
import Derived.Test.YtgejobicepefkaaFwPu
namespace Go.Fw
open Go

/-! What is copied is the same. -/
theorem to_Vector (K : Nat) (a : Vector) : laws_toVector K a = some a := rfl
theorem to_Turn (K : Nat) (a : Turn) : laws_toTurn K a = some a := rfl
theorem to_TurnS {K : Nat} {a : List Turn} (hb : a.length * 16 ≤ 140737488355328) (hK : a.length < K) : laws_toTurnS K a = some a := by
  unfold laws_toTurnS
  rw [chk_pos (by simp; omega)]
  exact copy_loop a (laws_toTurn K) (fun x _ => to_Turn K x) (by rw [maxLen_eq]; omega) (laws_toTurnS_l1 K a) (fun k i ys => by rw [laws_toTurnS_l1]) K 0 _ (by omega) (by simp) (by intro j hj; omega) (by omega)
theorem to_Pose {K : Nat} {a : Pose} (hb : a.Turns.length * 16 ≤ 140737488355328) (hK : a.Turns.length < K) : laws_toPose K a = some a := by
  unfold laws_toPose
  rw [to_Vector, bind_of, to_TurnS hb hK]
  rfl
theorem to_PoseS {K : Nat} {a : List Pose} (hb : a.length * 40 ≤ 140737488355328) (hb2 : ∀ p ∈ a, p.Turns.length * 16 ≤ 140737488355328) (hK : a.length < K) (hK2 : ∀ p ∈ a, p.Turns.length < K) : laws_toPoseS K a = some a := by
  unfold laws_toPoseS
  rw [chk_pos (by simp; omega)]
  exact copy_loop a (laws_toPose K) (fun x hx => to_Pose (hb2 x hx) (hK2 x hx)) (by rw [maxLen_eq]; omega) (laws_toPoseS_l1 K a) (fun k i ys => by rw [laws_toPoseS_l1]) K 0 _ (by omega) (by simp) (by intro j hj; omega) (by omega)
theorem to_Bone (K : Nat) (a : Bone) : laws_toBone K a = some a := rfl
theorem to_BoneS {K : Nat} {a : List Bone} (hb : a.length * 24 ≤ 140737488355328) (hK : a.length < K) : laws_toBoneS K a = some a := by
  unfold laws_toBoneS
  rw [chk_pos (by simp; omega)]
  exact copy_loop a (laws_toBone K) (fun x _ => to_Bone K x) (by rw [maxLen_eq]; omega) (laws_toBoneS_l1 K a) (fun k i ys => by rw [laws_toBoneS_l1]) K 0 _ (by omega) (by simp) (by intro j hj; omega) (by omega)
theorem to_Skeleton {K : Nat} {a : Skeleton} (hb : a.Bones.length * 24 ≤ 140737488355328) (hK : a.Bones.length < K) : laws_toSkeleton K a = some a := by
  unfold laws_toSkeleton
  rw [to_BoneS hb hK]
  rfl
theorem to_StringS {K : Nat} {a : List ByteArray} (hb : a.length * 16 ≤ 140737488355328) (hK : a.length < K) : laws_toStringS K a = some a := by
  unfold laws_toStringS
  rw [chk_pos (by simp; omega)]
  exact copy_loop a some (fun x _ => rfl) (by rw [maxLen_eq]; omega) (laws_toStringS_l1 K a) (fun k i ys => by rw [laws_toStringS_l1]; rfl) K 0 _ (by omega) (by simp) (by intro j hj; omega) (by omega)

/-! What is equal to itself. -/
theorem same_Float (K : Nat) (a : F64) : laws_sameFloat K a a = some true := by
  unfold laws_sameFloat
  cases h : a.ne a
  · have heq : a.eq a = true := by
      unfold Fl.ne cmpBits at h
      unfold Fl.eq cmpBits
      simpa using h
    simp only [ite2_false, bind_of, heq]
    cases a.eq (Fl.mk (k := .f64) 0 (by decide)) <;> simp [ite2]
  · simp [ite2]
theorem eq_Vector (K : Nat) (a : Vector) : laws_eqVector K a a = some true := by
  unfold laws_eqVector
  simp [same_Float, ite2]
theorem eq_Turn (K : Nat) (a : Turn) : laws_eqTurn K a a = some true := by
  unfold laws_eqTurn
  simp [same_Float, ite2]
theorem eq_TurnS {K : Nat} {a : List Turn} (hl : a.length ≤ maxLen) (hK : a.length < K) : laws_eqTurnS K a a = some true := by
  unfold laws_eqTurnS
  simp only [bne_self_eq_false, ite2_false]
  exact eq_loop a (laws_eqTurn K) (fun x _ => eq_Turn K x) hl (laws_eqTurnS_l1 K a a) (fun k i => by rw [laws_eqTurnS_l1]) K 0 (by omega) (by omega)
theorem eq_Pose {K : Nat} {a : Pose} (hl : a.Turns.length ≤ maxLen) (hK : a.Turns.length < K) : laws_eqPose K a a = some true := by
  unfold laws_eqPose
  simp [eq_Vector, eq_TurnS hl hK, ite2]
theorem eq_PoseS {K : Nat} {a : List Pose} (hl : a.length ≤ maxLen) (hl2 : ∀ p ∈ a, p.Turns.length ≤ maxLen) (hK : a.length < K) (hK2 : ∀ p ∈ a, p.Turns.length < K) : laws_eqPoseS K a a = some true := by
  unfold laws_eqPoseS
  simp only [bne_self_eq_false, ite2_false]
  exact eq_loop a (laws_eqPose K) (fun x hx => eq_Pose (hl2 x hx) (hK2 x hx)) hl (laws_eqPoseS_l1 K a a) (fun k i => by rw [laws_eqPoseS_l1]) K 0 (by omega) (by omega)
theorem eq_Bone (K : Nat) (a : Bone) : laws_eqBone K a a = some true := by
  unfold laws_eqBone
  simp [eq_Vector, ite2]
theorem eq_BoneS {K : Nat} {a : List Bone} (hl : a.length ≤ maxLen) (hK : a.length < K) : laws_eqBoneS K a a = some true := by
  unfold laws_eqBoneS
  simp only [bne_self_eq_false, ite2_false]
  exact eq_loop a (laws_eqBone K) (fun x _ => eq_Bone K x) hl (laws_eqBoneS_l1 K a a) (fun k i => by rw [laws_eqBoneS_l1]) K 0 (by omega) (by omega)
theorem eq_Skeleton {K : Nat} {a : Skeleton} (hl : a.Bones.length ≤ maxLen) (hK : a.Bones.length < K) : laws_eqSkeleton K a a = some true := by
  unfold laws_eqSkeleton
  simp [eq_BoneS hl hK, ite2]
theorem eq_StringS {K : Nat} {a : List ByteArray} (hl : a.length ≤ maxLen) (hK : a.length < K) : laws_eqStringS K a a = some true := by
  unfold laws_eqStringS
  simp only [bne_self_eq_false, ite2_false]
  exact eq_loop a (fun x y => some (x.toList == y.toList)) (fun x _ => by simp) hl (laws_eqStringS_l1 K a a) (fun k i => by rw [laws_eqStringS_l1]; rfl) K 0 (by omega) (by omega)

/-! Sizes. -/
theorem sz_TurnS (K : Nat) (a : List Turn) (s : Int) (h0 : 0 ≤ s) (h1 : s ≤ 1048576) (hl : a.length ≤ maxLen) : ∃ r, laws_szTurnS K a s = some r ∧ r ≤ s ∧ (0 ≤ r → (a.length : Int) ≤ s) := by
  unfold laws_szTurnS
  rw [maxLen_eq] at hl
  rw [wrap_in (by omega) (by omega), ite2_dec]
  split
  · exact ⟨-1, rfl, by omega, by omega⟩
  · exact ⟨_, rfl, by omega, by omega⟩
theorem sz_Pose (K : Nat) (a : Pose) (s : Int) (h0 : 0 ≤ s) (h1 : s ≤ 1048576) (hl : a.Turns.length ≤ maxLen) : ∃ r, laws_szPose K a s = some r ∧ r ≤ s ∧ (0 ≤ r → (a.Turns.length : Int) ≤ s) := by
  unfold laws_szPose
  obtain ⟨r, hr, h2, h3⟩ := sz_TurnS K a.Turns s h0 h1 hl
  rw [hr, bind_of, ite2_dec]
  split
  · exact ⟨-1, rfl, by omega, by omega⟩
  · exact ⟨r, rfl, h2, h3⟩
theorem sz_PoseS_loop (K : Nat) (a : List Pose) (s0 : Int) (hl : a.length ≤ maxLen) (hl2 : ∀ p ∈ a, p.Turns.length ≤ maxLen) : ∀ (k i : Nat) (s : Int), i ≤ a.length → 0 ≤ s → s ≤ 1048576 → a.length - i < k →
    ∃ r, laws_szPoseS_l1 K a k s (i : Int) = some r ∧ r ≤ s ∧ (0 ≤ r → ∀ j, i ≤ j → ∀ p, a[j]? = some p → (p.Turns.length : Int) ≤ s) := by
  intro k
  induction k with
  | zero => intro i s _ _ _ h; omega
  | succ k ih =>
    intro i s hi h0 h1 hk
    rw [laws_szPoseS_l1, ite2_dec]
    by_cases h : i < a.length
    · rw [if_pos (by omega), chk_pos (by omega), Int.toNat_natCast]
      obtain ⟨r, hr, h2, h3⟩ := sz_Pose K (a.getD i default) s h0 h1 (hl2 _ (getD_mem h))
      rw [hr, bind_of, ite2_dec]
      split
      · exact ⟨-1, rfl, by omega, by omega⟩
      · have hw : IntKind.i64.wrap ((i : Int) + 1) = ((i + 1 : Nat) : Int) := by
          rw [maxLen_eq] at hl
          rw [wrap_in (by omega) (by omega)]; omega
        rw [hw]
        obtain ⟨r2, g1, g2, g3⟩ := ih (i + 1) r (by omega) (by omega) (by omega) (by omega)
        refine ⟨r2, g1, by omega, fun hr2 j hj p hp => ?_⟩
        by_cases e : j = i
        · subst e
          have := h3 (by omega)
          rw [getD_of_lt h] at this
          rw [List.getElem?_eq_getElem h] at hp
          cases hp
          exact this
        · have := g3 hr2 j (by omega) p hp
          omega
    · rw [if_neg (by omega)]
      exact ⟨s, rfl, by omega, fun _ j hj p hp => by rw [List.getElem?_eq_none (by omega)] at hp; cases hp⟩
theorem sz_PoseS (K : Nat) (a : List Pose) (s : Int) (h0 : 0 ≤ s) (h1 : s ≤ 1048576) (hl : a.length ≤ maxLen) (hl2 : ∀ p ∈ a, p.Turns.length ≤ maxLen) (hK : a.length < K) :
    ∃ r, laws_szPoseS K a s = some r ∧ r ≤ s ∧ (0 ≤ r → (a.length : Int) ≤ s ∧ ∀ p ∈ a, (p.Turns.length : Int) ≤ s) := by
  unfold laws_szPoseS
  have hl' := hl
  rw [maxLen_eq] at hl'
  rw [wrap_in (by omega) (by omega), ite2_dec]
  split
  · exact ⟨-1, rfl, by omega, by omega⟩
  · obtain ⟨r, g1, g2, g3⟩ := sz_PoseS_loop K a s hl hl2 K 0 (s - a.length) (by omega) (by omega) (by omega) (by omega)
    refine ⟨r, g1, by omega, fun hr => ⟨by omega, fun p hp => ?_⟩⟩
    obtain ⟨j, hj⟩ := List.mem_iff_getElem?.1 hp
    have := g3 hr j (by omega) p hj
    omega
theorem sz_Skeleton (K : Nat) (a : Skeleton) (s : Int) (h0 : 0 ≤ s) (h1 : s ≤ 1048576) (hl : a.Bones.length ≤ maxLen) : ∃ r, laws_szSkeleton K a s = some r ∧ r ≤ s ∧ (0 ≤ r → (a.Bones.length : Int) ≤ s) := by
  unfold laws_szSkeleton laws_szBoneS
  rw [maxLen_eq] at hl
  rw [wrap_in (by omega) (by omega), ite2_dec]
  split
  · rw [bind_of, ite2_dec, if_pos (by omega)]
    exact ⟨-1, rfl, by omega, by omega⟩
  · rw [bind_of, ite2_dec, if_neg (by omega)]
    exact ⟨_, rfl, by omega, by omega⟩
theorem sz_StringS_loop (K : Nat) (a : List ByteArray) (hl : a.length ≤ maxLen) (hl2 : ∀ p ∈ a, p.size ≤ maxLen) : ∀ (k i : Nat) (s : Int), i ≤ a.length → 0 ≤ s → s ≤ 1048576 → a.length - i < k →
    ∃ r, laws_szStringS_l1 K a k s (i : Int) = some r ∧ r ≤ s := by
  intro k
  induction k with
  | zero => intro i s _ _ _ h; omega
  | succ k ih =>
    intro i s hi h0 h1 hk
    rw [laws_szStringS_l1, ite2_dec]
    by_cases h : i < a.length
    · rw [if_pos (by omega), chk_pos (by omega), Int.toNat_natCast]
      have hp := hl2 _ (getD_mem h)
      rw [maxLen_eq] at hp hl
      rw [wrap_in (n := s - _) (by omega) (by omega), ite2_dec]
      split
      · exact ⟨-1, rfl, by omega⟩
      · have hw : IntKind.i64.wrap ((i : Int) + 1) = ((i + 1 : Nat) : Int) := by
          rw [wrap_in (by omega) (by omega)]; omega
        rw [hw]
        obtain ⟨r2, g1, g2⟩ := ih (i + 1) (s - ((a.getD i default).size : Int)) (by omega) (by omega) (by omega) (by omega)
        exact ⟨r2, g1, by omega⟩
    · rw [if_neg (by omega)]
      exact ⟨s, rfl, by omega⟩
theorem sz_StringS (K : Nat) (a : List ByteArray) (s : Int) (h0 : 0 ≤ s) (h1 : s ≤ 1048576) (hl : a.length ≤ maxLen) (hl2 : ∀ p ∈ a, p.size ≤ maxLen) (hK : a.length < K) :
    ∃ r, laws_szStringS K a s = some r ∧ r ≤ s ∧ (0 ≤ r → (a.length : Int) ≤ s) := by
  unfold laws_szStringS
  have hl' := hl
  rw [maxLen_eq] at hl'
  rw [wrap_in (by omega) (by omega), ite2_dec]
  split
  · exact ⟨-1, rfl, by omega, by omega⟩
  · obtain ⟨r, g1, g2⟩ := sz_StringS_loop K a hl hl2 K 0 (s - a.length) (by omega) (by omega) (by omega) (by omega)
    exact ⟨r, g1, by omega, fun hr => by omega⟩

structure OkStage (a : Stage) : Prop where
  bones : a.Skeleton.Bones.length ≤ maxLen
  names : a.Names.length ≤ maxLen
  name : ∀ s ∈ a.Names, s.size ≤ maxLen
  poses : a.Poses.length ≤ maxLen
  turns : ∀ p ∈ a.Poses, p.Turns.length ≤ maxLen

theorem sz_Stage (K : Nat) (a : Stage) (h : OkStage a) (hN : a.Names.length < K) (hP : a.Poses.length < K) : ∃ r, laws_szStage K a 1048576 = some r ∧ (0 ≤ r → a.Skeleton.Bones.length ≤ 1048576 ∧ a.Names.length ≤ 1048576 ∧ a.Poses.length ≤ 1048576 ∧ ∀ p ∈ a.Poses, p.Turns.length ≤ 1048576) := by
  unfold laws_szStage
  obtain ⟨r1, e1, l1, b1⟩ := sz_Skeleton K a.Skeleton 1048576 (by omega) (by omega) h.bones
  rw [e1, bind_of, ite2_dec]
  split
  · exact ⟨-1, rfl, by omega⟩
  · obtain ⟨r2, e2, l2, b2⟩ := sz_StringS K a.Names r1 (by omega) (by omega) h.names h.name hN
    rw [e2, bind_of, ite2_dec]
    split
    · exact ⟨-1, rfl, by omega⟩
    · obtain ⟨r3, e3, l3, b3⟩ := sz_PoseS K a.Poses r2 (by omega) (by omega) h.poses h.turns hP
      rw [e3, bind_of, ite2_dec]
      split
      · exact ⟨-1, rfl, by omega⟩
      · refine ⟨r3, rfl, fun hr => ?_⟩
        obtain ⟨c1, c2⟩ := b3 hr
        have := b1 (by omega)
        have := b2 (by omega)
        exact ⟨by omega, by omega, by omega, fun p hp => by have := c2 p hp; omega⟩

end Go.Fw
