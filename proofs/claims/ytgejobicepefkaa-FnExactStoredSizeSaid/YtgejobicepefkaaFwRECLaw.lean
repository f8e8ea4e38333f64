/- The laws of recordings, in plain Lean: what is copied, compared, measured, marked. -/
import Derived.Test.YtgejobicepefkaaFwREC
import Derived.Test.YtgejobicepefkaaFwPu
namespace Go.Fw
open Go

theorem to_Vector (K : Nat) (a : Vector) : laws_toVector K a = some a := rfl
theorem to_Turn (K : Nat) (a : Turn) : laws_toTurn K a = some a := rfl
theorem to_TurnS {K : Nat} {a : List Turn} (hb : a.length * 16 ≤ 140737488355328) (hK : a.length < K) : laws_toTurnS K a = some a := by
  unfold laws_toTurnS
  rw [chk_pos (by simp; omega)]
  exact copy_loop a (laws_toTurn K) (fun x _ => to_Turn K x) (by rw [maxLen_eq]; omega) (laws_toTurnS_l1 K a) (fun k i ys => by rw [laws_toTurnS_l1]) K 0 _ (by omega) (by simp) (by intro j hj; omega) (by omega)
theorem to_Pose {K : Nat} {a : Pose} (hb : a.Turns.length * 16 ≤ 140737488355328) (hK : a.Turns.length < K) : laws_toPose K a = some a := by
  unfold laws_toPose
  rw [to_Vector, bind_of, to_TurnS hb hK]
  rfl
theorem to_PoseS {K : Nat} {a : List Pose} (hb : a.length * 40 ≤ 140737488355328) (hb2 : ∀ p ∈ a, p.Turns.length * 16 ≤ 140737488355328) (hK : a.length < K) (hK2 : ∀ p ∈ a, p.Turns.length < K) : laws_toPoseS K a = some a := by
  unfold laws_toPoseS
  rw [chk_pos (by simp; omega)]
  exact copy_loop a (laws_toPose K) (fun x hx => to_Pose (hb2 x hx) (hK2 x hx)) (by rw [maxLen_eq]; omega) (laws_toPoseS_l1 K a) (fun k i ys => by rw [laws_toPoseS_l1]) K 0 _ (by omega) (by simp) (by intro j hj; omega) (by omega)
theorem same_Float (K : Nat) (a : F64) : laws_sameFloat K a a = some true := by
  unfold laws_sameFloat
  cases h : a.ne a
  · have heq : a.eq a = true := by
      unfold Fl.ne cmpBits at h
      unfold Fl.eq cmpBits
      simpa using h
    simp only [ite2_false, bind_of, heq]
    cases a.eq (Fl.mk (k := .f64) 0 (by decide)) <;> simp [ite2]
  · simp [ite2]
theorem eq_Vector (K : Nat) (a : Vector) : laws_eqVector K a a = some true := by
  unfold laws_eqVector
  simp [same_Float, ite2]
theorem eq_Turn (K : Nat) (a : Turn) : laws_eqTurn K a a = some true := by
  unfold laws_eqTurn
  simp [same_Float, ite2]
theorem eq_TurnS {K : Nat} {a : List Turn} (hl : a.length ≤ maxLen) (hK : a.length < K) : laws_eqTurnS K a a = some true := by
  unfold laws_eqTurnS
  simp only [bne_self_eq_false, ite2_false]
  exact eq_loop a (laws_eqTurn K) (fun x _ => eq_Turn K x) hl (laws_eqTurnS_l1 K a a) (fun k i => by rw [laws_eqTurnS_l1]) K 0 (by omega) (by omega)
theorem eq_Pose {K : Nat} {a : Pose} (hl : a.Turns.length ≤ maxLen) (hK : a.Turns.length < K) : laws_eqPose K a a = some true := by
  unfold laws_eqPose
  simp [eq_Vector, eq_TurnS hl hK, ite2]
theorem eq_PoseS {K : Nat} {a : List Pose} (hl : a.length ≤ maxLen) (hl2 : ∀ p ∈ a, p.Turns.length ≤ maxLen) (hK : a.length < K) (hK2 : ∀ p ∈ a, p.Turns.length < K) : laws_eqPoseS K a a = some true := by
  unfold laws_eqPoseS
  simp only [bne_self_eq_false, ite2_false]
  exact eq_loop a (laws_eqPose K) (fun x hx => eq_Pose (hl2 x hx) (hK2 x hx)) hl (laws_eqPoseS_l1 K a a) (fun k i => by rw [laws_eqPoseS_l1]) K 0 (by omega) (by omega)
theorem sz_TurnS (K : Nat) (a : List Turn) (s : Int) (h0 : 0 ≤ s) (h1 : s ≤ 1048576) (hl : a.length ≤ maxLen) : ∃ r, laws_szTurnS K a s = some r ∧ r ≤ s ∧ (0 ≤ r → (a.length : Int) ≤ s) := by
  unfold laws_szTurnS
  rw [maxLen_eq] at hl
  rw [wrap_in (by omega) (by omega), ite2_dec]
  split
  · exact ⟨-1, rfl, by omega, by omega⟩
  · exact ⟨_, rfl, by omega, by omega⟩
theorem sz_Pose (K : Nat) (a : Pose) (s : Int) (h0 : 0 ≤ s) (h1 : s ≤ 1048576) (hl : a.Turns.length ≤ maxLen) : ∃ r, laws_szPose K a s = some r ∧ r ≤ s ∧ (0 ≤ r → (a.Turns.length : Int) ≤ s) := by
  unfold laws_szPose
  obtain ⟨r, hr, h2, h3⟩ := sz_TurnS K a.Turns s h0 h1 hl
  rw [hr, bind_of, ite2_dec]
  split
  · exact ⟨-1, rfl, by omega, by omega⟩
  · exact ⟨r, rfl, h2, h3⟩
theorem sz_PoseS_loop (K : Nat) (a : List Pose) (hl : a.length ≤ maxLen) (hl2 : ∀ p ∈ a, p.Turns.length ≤ maxLen) : ∀ (k i : Nat) (s : Int), i ≤ a.length → 0 ≤ s → s ≤ 1048576 → a.length - i < k →
    ∃ r, laws_szPoseS_l1 K a k s (i : Int) = some r ∧ r ≤ s ∧ (0 ≤ r → ∀ j, i ≤ j → ∀ p, a[j]? = some p → (p.Turns.length : Int) ≤ s) := by
  intro k
  induction k with
  | zero => intro i s _ _ _ h; omega
  | succ k ih =>
    intro i s hi h0 h1 hk
    rw [laws_szPoseS_l1, ite2_dec]
    by_cases h : i < a.length
    · rw [if_pos (by omega), chk_pos (by omega), Int.toNat_natCast]
      obtain ⟨r, hr, h2, h3⟩ := sz_Pose K (a.getD i default) s h0 h1 (hl2 _ (getD_mem h))
      rw [hr, bind_of, ite2_dec]
      split
      · exact ⟨-1, rfl, by omega, by omega⟩
      · have hw : IntKind.i64.wrap ((i : Int) + 1) = ((i + 1 : Nat) : Int) := by
          rw [maxLen_eq] at hl
          rw [wrap_in (by omega) (by omega)]; omega
        rw [hw]
        obtain ⟨r2, g1, g2, g3⟩ := ih (i + 1) r (by omega) (by omega) (by omega) (by omega)
        refine ⟨r2, g1, by omega, fun hr2 j hj p hp => ?_⟩
        by_cases e : j = i
        · subst e
          have := h3 (by omega)
          rw [getD_of_lt h] at this
          rw [List.getElem?_eq_getElem h] at hp
          cases hp
          exact this
        · have := g3 hr2 j (by omega) p hp
          omega
    · rw [if_neg (by omega)]
      exact ⟨s, rfl, by omega, fun _ j hj p hp => by rw [List.getElem?_eq_none (by omega)] at hp; cases hp⟩
theorem sz_PoseS (K : Nat) (a : List Pose) (s : Int) (h0 : 0 ≤ s) (h1 : s ≤ 1048576) (hl : a.length ≤ maxLen) (hl2 : ∀ p ∈ a, p.Turns.length ≤ maxLen) (hK : a.length < K) :
    ∃ r, laws_szPoseS K a s = some r ∧ r ≤ s ∧ (0 ≤ r → (a.length : Int) ≤ s ∧ ∀ p ∈ a, (p.Turns.length : Int) ≤ s) := by
  unfold laws_szPoseS
  have hl' := hl
  rw [maxLen_eq] at hl'
  rw [wrap_in (by omega) (by omega), ite2_dec]
  split
  · exact ⟨-1, rfl, by omega, by omega⟩
  · obtain ⟨r, g1, g2, g3⟩ := sz_PoseS_loop K a hl hl2 K 0 (s - a.length) (by omega) (by omega) (by omega) (by omega)
    refine ⟨r, g1, by omega, fun hr => ⟨by omega, fun p hp => ?_⟩⟩
    obtain ⟨j, hj⟩ := List.mem_iff_getElem?.1 hp
    have := g3 hr j (by omega) p hj
    omega

theorem to_Recording {K : Nat} {a : Recording} (hb : a.Frames.length * 40 ≤ 140737488355328) (hb2 : ∀ p ∈ a.Frames, p.Turns.length * 16 ≤ 140737488355328) (hK : a.Frames.length < K) (hK2 : ∀ p ∈ a.Frames, p.Turns.length < K) : laws_toRecording K a = some a := by
  unfold laws_toRecording
  rw [to_PoseS hb hb2 hK hK2]; rfl
theorem eq_Recording {K : Nat} {a : Recording} (hl : a.Frames.length ≤ maxLen) (hl2 : ∀ p ∈ a.Frames, p.Turns.length ≤ maxLen) (hK : a.Frames.length < K) (hK2 : ∀ p ∈ a.Frames, p.Turns.length < K) : laws_eqRecording K a a = some true := by
  unfold laws_eqRecording
  simp [eq_PoseS hl hl2 hK hK2, ite2]
theorem sz_Recording (K : Nat) (a : Recording) (s : Int) (h0 : 0 ≤ s) (h1 : s ≤ 1048576) (hl : a.Frames.length ≤ maxLen) (hl2 : ∀ p ∈ a.Frames, p.Turns.length ≤ maxLen) (hK : a.Frames.length < K) :
    ∃ r, laws_szRecording K a s = some r ∧ r ≤ s ∧ (0 ≤ r → (a.Frames.length : Int) ≤ s ∧ ∀ p ∈ a.Frames, (p.Turns.length : Int) ≤ s) := by
  unfold laws_szRecording
  obtain ⟨r, hr, h2, h3⟩ := sz_PoseS K a.Frames s h0 h1 hl hl2 hK
  rw [hr, bind_of, ite2_dec]
  split
  · exact ⟨-1, rfl, by omega, by omega⟩
  · exact ⟨r, rfl, h2, h3⟩

/-- A recording of a size that the laws bear. -/
structure OkRec (K : Nat) (a : Recording) : Prop where
  frames : (a.Frames.length : Int) ≤ 1048576
  turns : ∀ p ∈ a.Frames, (p.Turns.length : Int) ≤ 1048576
  framesK : a.Frames.length < K
  turnsK : ∀ p ∈ a.Frames, p.Turns.length < K
theorem OkRec.to {K : Nat} {a : Recording} (h : OkRec K a) : laws_toRecording K a = some a :=
  to_Recording (by have := h.frames; omega) (fun p hp => by have := h.turns p hp; omega) h.framesK h.turnsK
theorem OkRec.eq {K : Nat} {a : Recording} (h : OkRec K a) : laws_eqRecording K a a = some true :=
  eq_Recording (by rw [maxLen_eq]; have := h.frames; omega) (fun p hp => by rw [maxLen_eq]; have := h.turns p hp; omega) h.framesK h.turnsK
theorem OkRec.sized {K : Nat} (a : Recording) {s : Int} (h0 : 0 ≤ s) (h1 : s ≤ 1048576) (hl : a.Frames.length ≤ maxLen) (hl2 : ∀ p ∈ a.Frames, p.Turns.length ≤ maxLen) (hK : a.Frames.length < K) (hK2 : ∀ p ∈ a.Frames, p.Turns.length < K) :
    ∃ r, laws_szRecording K a s = some r ∧ r ≤ s ∧ (0 ≤ r → OkRec K a) := by
  obtain ⟨r, e1, e2, e3⟩ := sz_Recording K a s h0 h1 hl hl2 hK
  exact ⟨r, e1, e2, fun hr => ⟨by have := (e3 hr).1; omega, fun p hp => by have := (e3 hr).2 p hp; omega, hK, hK2⟩⟩

theorem In_eq (K : Nat) (a b c : Int) : spec_l00In K a b c = some (decide (b ≤ a) && decide (a ≤ c)) := by
  unfold spec_l00In
  rw [ite2_dec]
  by_cases h : b ≤ a
  · rw [if_pos (by omega)]; simp [h]
  · rw [if_neg (by omega)]; simp [h]

/-- A recording that is right. -/
def validR (a : Recording) : Bool := (decide (1 ≤ a.Bones) && decide (a.Bones ≤ 12)) && (decide ((a.Frames.length : Int) ≤ 64) && a.Frames.all fun p => decide ((p.Turns.length : Int) = a.Bones))
theorem l10Is_loop (K : Nat) (a : Recording) (hl : (a.Frames.length : Int) ≤ 1048576) : ∀ (k i : Nat), i ≤ a.Frames.length → a.Frames.length - i < k → spec_l10Is_l1 K a k (i : Int) = some ((a.Frames.drop i).all fun p => decide ((p.Turns.length : Int) = a.Bones)) := by
  intro k
  induction k with
  | zero => intro i _ h; omega
  | succ k ih =>
    intro i hi hk
    rw [spec_l10Is_l1, ite2_dec]
    by_cases h : i < a.Frames.length
    · rw [if_pos (by omega), chk_pos (by omega), Int.toNat_natCast]
      have w5 : IntKind.i64.wrap ((i : Int) + 1) = ((i + 1 : Nat) : Int) := by rw [wrap_in (by omega) (by omega)]; omega
      rw [w5, ih (i + 1) (by omega) (by omega), getD_of_lt h, List.drop_eq_getElem_cons h, List.all_cons]
      by_cases e : ((a.Frames[i]).Turns.length : Int) = a.Bones
      · rw [decide_eq_true e, Bool.true_and]
        have : (((a.Frames[i]).Turns.length : Int) != a.Bones) = false := by simp [e]
        rw [this, ite2_false]
      · rw [decide_eq_false e, Bool.false_and]
        have : (((a.Frames[i]).Turns.length : Int) != a.Bones) = true := by simp [e]
        rw [this, ite2_true]
    · rw [if_neg (by omega), List.drop_of_length_le (by omega)]; rfl
theorem l10Is_eq {K : Nat} {a : Recording} (h : OkRec K a) : spec_l10Is K a = some (validR a) := by
  unfold spec_l10Is spec_l06Count validR
  rw [In_eq, bind_of, bind_of]
  cases (decide (1 ≤ a.Bones) && decide (a.Bones ≤ 12))
  · rfl
  · simp only [Bool.not_true, ite2_false, bind_of, ite2_dec]
    by_cases e : (a.Frames.length : Int) ≤ 64
    · rw [if_neg (by omega), decide_eq_true e]
      have := l10Is_loop K a h.frames K 0 (by omega) (by have := h.framesK; omega)
      rw [List.drop_zero] at this
      simpa using this
    · rw [if_pos (by omega), decide_eq_false e]; rfl
theorem index_loop (K : Nat) (xs : List Pose) (a : Recording) (hl : (xs.length : Int) ≤ 1048576) : ∀ (k i : Nat), i ≤ xs.length → xs.length - i < k → ∃ r, slices_IndexFunc_impl_Pose_impl_Pose_l1 K xs a k (i : Int) = some r ∧ decide (r ≥ 0) = !((xs.drop i).all fun p => decide ((p.Turns.length : Int) = a.Bones)) := by
  intro k
  induction k with
  | zero => intro i _ h; omega
  | succ k ih =>
    intro i hi hk
    rw [slices_IndexFunc_impl_Pose_impl_Pose_l1, ite2_dec]
    by_cases h : i < xs.length
    · rw [if_pos (by omega), chk_pos (by omega), Int.toNat_natCast]
      have w5 : IntKind.i64.wrap ((i : Int) + 1) = ((i + 1 : Nat) : Int) := by rw [wrap_in (by omega) (by omega)]; omega
      unfold impl_ValidRecording_1
      obtain ⟨r, e1, e2⟩ := ih (i + 1) (by omega) (by omega)
      rw [w5, e1, bind_of, getD_of_lt h, List.drop_eq_getElem_cons h, List.all_cons]
      by_cases e : ((xs[i]).Turns.length : Int) = a.Bones
      · have : (((xs[i]).Turns.length : Int) != a.Bones) = false := by simp [e]
        rw [this, ite2_false, decide_eq_true e, Bool.true_and]
        exact ⟨r, rfl, e2⟩
      · have : (((xs[i]).Turns.length : Int) != a.Bones) = true := by simp [e]
        rw [this, ite2_true, decide_eq_false e, Bool.false_and]
        exact ⟨_, rfl, by simp⟩
    · rw [if_neg (by omega), List.drop_of_length_le (by omega)]
      exact ⟨-1, rfl, by simp⟩
theorem Valid_eq {K : Nat} {a : Recording} (h : OkRec K a) : impl_ValidRecording K a = some (validR a) := by
  unfold impl_ValidRecording impl_isCount validR
  rw [ite2_dec]
  by_cases e1 : 1 ≤ a.Bones
  · rw [if_pos (by omega), bind_of, bind_of, decide_eq_true e1, Bool.true_and]
    by_cases e2 : a.Bones ≤ 12
    · rw [decide_eq_true e2, Bool.true_and, ite2_true, ite2_dec]
      by_cases e : (a.Frames.length : Int) ≤ 64
      · rw [if_pos e, decide_eq_true e, Bool.true_and]
        unfold slices_ContainsFunc_impl_Pose_impl_Pose slices_IndexFunc_impl_Pose_impl_Pose
        obtain ⟨r, g1, g2⟩ := index_loop K a.Frames a h.frames K 0 (by omega) (by have := h.framesK; omega)
        rw [List.drop_zero] at g2
        rw [show slices_IndexFunc_impl_Pose_impl_Pose_l1 K a.Frames a K (0 : Int) = some r from g1]
        simp only [bind_of, g2, Bool.not_not]
      · rw [if_neg e, decide_eq_false e]; rfl
    · rw [decide_eq_false e2]; rfl
  · rw [if_neg (by omega), decide_eq_false e1]; rfl
structure Right (a : Recording) : Prop where
  bones : 1 ≤ a.Bones ∧ a.Bones ≤ 12
  frames : (a.Frames.length : Int) ≤ 64
  turns : ∀ p ∈ a.Frames, (p.Turns.length : Int) = a.Bones
theorem validR_spec {a : Recording} : validR a = true ↔ Right a := by
  unfold validR
  simp only [Bool.and_eq_true, decide_eq_true_eq, List.all_eq_true]
  exact ⟨fun h => ⟨h.1, h.2.1, h.2.2⟩, fun h => ⟨h.1, h.2, h.3⟩⟩

theorem list_max {α : Type} (f : α → Nat) : ∀ (l : List α), ∃ m, ∀ x ∈ l, f x < m := by
  intro l
  induction l with
  | nil => exact ⟨0, by simp⟩
  | cons y l ih =>
    obtain ⟨m, hm⟩ := ih
    refine ⟨max m (f y + 1), fun x hx => ?_⟩
    cases hx with
    | head => omega
    | tail _ hx => have := hm x hx; omega

end Go.Fw
