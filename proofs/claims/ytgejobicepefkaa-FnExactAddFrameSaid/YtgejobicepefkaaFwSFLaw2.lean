/- The laws of recordings, in plain Lean: what is right, what is cut out, copied. -/
import Derived.Test.YtgejobicepefkaaFwSFLaw
namespace Go.Fw
open Go

theorem In_eq (K : Nat) (a b c : Int) : spec_l00In K a b c = some (decide (b ≤ a) && decide (a ≤ c)) := by
  unfold spec_l00In
  rw [ite2_dec]
  by_cases h : b ≤ a
  · rw [if_pos (by omega)]; simp [h]
  · rw [if_neg (by omega)]; simp [h]

/-- A recording that is right. -/
def validR (a : Recording) : Bool := (decide (1 ≤ a.Bones) && decide (a.Bones ≤ 12)) && (decide ((a.Frames.length : Int) ≤ 64) && a.Frames.all fun p => decide ((p.Turns.length : Int) = a.Bones))
theorem l10Is_loop (K : Nat) (a : Recording) (hl : (a.Frames.length : Int) ≤ 1048576) : ∀ (k i : Nat), i ≤ a.Frames.length → a.Frames.length - i < k → spec_l10Is_l1 K a k (i : Int) = some ((a.Frames.drop i).all fun p => decide ((p.Turns.length : Int) = a.Bones)) := by
  intro k
  induction k with
  | zero => intro i _ h; omega
  | succ k ih =>
    intro i hi hk
    rw [spec_l10Is_l1, ite2_dec]
    by_cases h : i < a.Frames.length
    · rw [if_pos (by omega), chk_pos (by omega), Int.toNat_natCast]
      have w5 : IntKind.i64.wrap ((i : Int) + 1) = ((i + 1 : Nat) : Int) := by rw [wrap_in (by omega) (by omega)]; omega
      rw [w5, ih (i + 1) (by omega) (by omega), getD_of_lt h, List.drop_eq_getElem_cons h, List.all_cons]
      by_cases e : ((a.Frames[i]).Turns.length : Int) = a.Bones
      · rw [decide_eq_true e, Bool.true_and]
        have : (((a.Frames[i]).Turns.length : Int) != a.Bones) = false := by simp [e]
        rw [this, ite2_false]
      · rw [decide_eq_false e, Bool.false_and]
        have : (((a.Frames[i]).Turns.length : Int) != a.Bones) = true := by simp [e]
        rw [this, ite2_true]
    · rw [if_neg (by omega), List.drop_of_length_le (by omega)]; rfl
theorem l10Is_eq {K : Nat} {a : Recording} (h : OkRec K a) : spec_l10Is K a = some (validR a) := by
  unfold spec_l10Is spec_l06Count validR
  rw [In_eq, bind_of, bind_of]
  cases (decide (1 ≤ a.Bones) && decide (a.Bones ≤ 12))
  · rfl
  · simp only [Bool.not_true, ite2_false, bind_of, ite2_dec]
    by_cases e : (a.Frames.length : Int) ≤ 64
    · rw [if_neg (by omega), decide_eq_true e]
      have := l10Is_loop K a h.frames K 0 (by omega) (by have := h.framesK; omega)
      rw [List.drop_zero] at this
      simpa using this
    · rw [if_pos (by omega), decide_eq_false e]; rfl
theorem index_loop (K : Nat) (xs : List Pose) (a : Recording) (hl : (xs.length : Int) ≤ 1048576) : ∀ (k i : Nat), i ≤ xs.length → xs.length - i < k → ∃ r, slices_IndexFunc_impl_Pose_impl_Pose_l1 K xs a k (i : Int) = some r ∧ decide (r ≥ 0) = !((xs.drop i).all fun p => decide ((p.Turns.length : Int) = a.Bones)) := by
  intro k
  induction k with
  | zero => intro i _ h; omega
  | succ k ih =>
    intro i hi hk
    rw [slices_IndexFunc_impl_Pose_impl_Pose_l1, ite2_dec]
    by_cases h : i < xs.length
    · rw [if_pos (by omega), chk_pos (by omega), Int.toNat_natCast]
      have w5 : IntKind.i64.wrap ((i : Int) + 1) = ((i + 1 : Nat) : Int) := by rw [wrap_in (by omega) (by omega)]; omega
      unfold impl_ValidRecording_1
      obtain ⟨r, e1, e2⟩ := ih (i + 1) (by omega) (by omega)
      rw [w5, e1, bind_of, getD_of_lt h, List.drop_eq_getElem_cons h, List.all_cons]
      by_cases e : ((xs[i]).Turns.length : Int) = a.Bones
      · have : (((xs[i]).Turns.length : Int) != a.Bones) = false := by simp [e]
        rw [this, ite2_false, decide_eq_true e, Bool.true_and]
        exact ⟨r, rfl, e2⟩
      · have : (((xs[i]).Turns.length : Int) != a.Bones) = true := by simp [e]
        rw [this, ite2_true, decide_eq_false e, Bool.false_and]
        exact ⟨_, rfl, by simp⟩
    · rw [if_neg (by omega), List.drop_of_length_le (by omega)]
      exact ⟨-1, rfl, by simp⟩
theorem Valid_eq {K : Nat} {a : Recording} (h : OkRec K a) : impl_ValidRecording K a = some (validR a) := by
  unfold impl_ValidRecording impl_isCount validR
  rw [ite2_dec]
  by_cases e1 : 1 ≤ a.Bones
  · rw [if_pos (by omega), bind_of, bind_of, decide_eq_true e1, Bool.true_and]
    by_cases e2 : a.Bones ≤ 12
    · rw [decide_eq_true e2, Bool.true_and, ite2_true, ite2_dec]
      by_cases e : (a.Frames.length : Int) ≤ 64
      · rw [if_pos e, decide_eq_true e, Bool.true_and]
        unfold slices_ContainsFunc_impl_Pose_impl_Pose slices_IndexFunc_impl_Pose_impl_Pose
        obtain ⟨r, g1, g2⟩ := index_loop K a.Frames a h.frames K 0 (by omega) (by have := h.framesK; omega)
        rw [List.drop_zero] at g2
        rw [show slices_IndexFunc_impl_Pose_impl_Pose_l1 K a.Frames a K (0 : Int) = some r from g1]
        simp only [bind_of, g2, Bool.not_not]
      · rw [if_neg e, decide_eq_false e]; rfl
    · rw [decide_eq_false e2]; rfl
  · rw [if_neg (by omega), decide_eq_false e1]; rfl
structure Right (a : Recording) : Prop where
  bones : 1 ≤ a.Bones ∧ a.Bones ≤ 12
  frames : (a.Frames.length : Int) ≤ 64
  turns : ∀ p ∈ a.Frames, (p.Turns.length : Int) = a.Bones
theorem validR_spec {a : Recording} : validR a = true ↔ Right a := by
  unfold validR
  simp only [Bool.and_eq_true, decide_eq_true_eq, List.all_eq_true]
  exact ⟨fun h => ⟨h.1, h.2.1, h.2.2⟩, fun h => ⟨h.1, h.2, h.3⟩⟩

/-! Copies. -/
theorem l10Copy_eq (K : Nat) (p : Pose) (h : (p.Turns.length : Int) ≤ 1048576) : spec_l10Copy K p = some p := by
  unfold spec_l10Copy
  rw [chk_pos (by simp; omega)]; rfl
theorem Clone_eq (K : Nat) (a : List Turn) (h : (a.length : Int) ≤ 1048576) : slices_Clone_impl_Turn_impl_Turn K a = some a := by
  unfold slices_Clone_impl_Turn_impl_Turn
  rw [chk_pos (by simp; omega)]; rfl
theorem l10Some_loop {K : Nat} {a : Recording} (h : OkRec K a) (s n : Nat) (hs : s + n ≤ a.Frames.length) : ∀ (k i : Nat), i ≤ n → n - i < k →
    spec_l10Some_l1 K a (s : Int) (n : Int) k ((s + i : Nat) : Int) ((a.Frames.drop s).take i) = some (Recording.mk a.Bones ((a.Frames.drop s).take n)) := by
  intro k
  have hf := h.frames
  induction k with
  | zero => intro i _ h; omega
  | succ k ih =>
    intro i hi hk
    have w : IntKind.i64.wrap ((s : Int) + (n : Int)) = ((s + n : Nat) : Int) := by rw [wrap_in (by omega) (by omega)]; omega
    have w5 : IntKind.i64.wrap (((s + i : Nat) : Int) + 1) = ((s + (i + 1) : Nat) : Int) := by rw [wrap_in (by omega) (by omega)]; omega
    rw [spec_l10Some_l1, ite2_dec, w, w5]
    by_cases e : i < n
    · have hi' : s + i < a.Frames.length := by omega
      rw [if_pos (by omega), chk_pos (by omega), Int.toNat_natCast, l10Copy_eq K _ (h.turns _ (getD_mem hi')), bind_of]
      have hlen : ((a.Frames.drop s).take i).length = i := by rw [List.length_take, List.length_drop]; omega
      rw [chk_pos (by rw [hlen]; simp; omega)]
      have : (a.Frames.drop s).take i ++ [a.Frames.getD (s + i) default] = (a.Frames.drop s).take (i + 1) := by
        rw [getD_of_lt hi', List.take_add_one, List.getElem?_drop, List.getElem?_eq_getElem hi']; rfl
      rw [this]
      exact ih (i + 1) (by omega) (by omega)
    · rw [if_neg (by omega)]
      have : i = n := by omega
      rw [this]
theorem l10Some_eq {K : Nat} {a : Recording} (h : OkRec K a) (s n : Nat) (hs : s + n ≤ a.Frames.length) : spec_l10Some K a (s : Int) (n : Int) = some (Recording.mk a.Bones ((a.Frames.drop s).take n)) :=
  l10Some_loop h s n hs K 0 (by omega) (by have := h.framesK; omega)
theorem frames_eq {K : Nat} {a : List Pose} (hl : (a.length : Int) ≤ 1048576) (ht : ∀ p ∈ a, (p.Turns.length : Int) ≤ 1048576) (hK : a.length < K) : impl_frames K a = some a := by
  unfold impl_frames
  rw [chk_pos (by simp; omega)]
  refine copy_loop a (fun p => (slices_Clone_impl_Turn_impl_Turn K p.Turns).bind fun v => some (Pose.mk p.Root v)) (fun x hx => ?_) (by rw [maxLen_eq]; omega) (impl_frames_l1 K a) (fun k i ys => ?_) K 0 _ (by omega) (by simp) (by intro j hj; omega) (by omega)
  · simp only [Clone_eq K _ (ht x hx), bind_of]
  · rw [impl_frames_l1]
    cases slices_Clone_impl_Turn_impl_Turn K ((a.getD i.toNat default).Turns) <;> rfl
theorem OkRec.nil (K : Nat) (hK : 0 < K) : OkRec K (Recording.mk 0 []) := ⟨by simp, by simp, by simpa using hK, by simp⟩
theorem OkRec.part {K : Nat} {a : Recording} (h : OkRec K a) (s n : Nat) : OkRec K (Recording.mk a.Bones ((a.Frames.drop s).take n)) := by
  have hm : ∀ p ∈ (a.Frames.drop s).take n, p ∈ a.Frames := fun p hp => List.mem_of_mem_drop (List.mem_of_mem_take hp)
  have hl : ((a.Frames.drop s).take n).length ≤ a.Frames.length := by rw [List.length_take, List.length_drop]; omega
  have := h.frames
  have := h.framesK
  exact ⟨by show (((a.Frames.drop s).take n).length : Int) ≤ _; omega, fun p hp => h.turns p (hm p hp), by show ((a.Frames.drop s).take n).length < _; omega, fun p hp => h.turnsK p (hm p hp)⟩

/-! SliceFrames. -/
def sliceR (a : Recording) (s n : Int) : Recording × Bool :=
  if validR a = true ∧ 0 ≤ s ∧ s ≤ (a.Frames.length : Int) ∧ 0 ≤ n ∧ n ≤ (a.Frames.length : Int) - s then (Recording.mk a.Bones ((a.Frames.drop s.toNat).take n.toNat), true) else (Recording.mk 0 [], false)
theorem sliceR_ok {K : Nat} {a : Recording} (h : OkRec K a) (s n : Int) : OkRec K (sliceR a s n).1 := by
  unfold sliceR
  split
  · exact h.part _ _
  · exact OkRec.nil K (by have := h.framesK; omega)
theorem spec_slice {K : Nat} {a : Recording} (h : OkRec K a) (s n : Int) : spec_SliceFrames K a s n = some (sliceR a s n) := by
  have hf := h.frames
  unfold spec_SliceFrames sliceR
  rw [l10Is_eq h, bind_of]
  cases hv : validR a
  · simp [ite2]
  · simp only [Bool.not_true, ite2_false, In_eq, bind_of]
    by_cases h1 : 0 ≤ s ∧ s ≤ (a.Frames.length : Int)
    · have w : IntKind.i64.wrap ((a.Frames.length : Int) - s) = (a.Frames.length : Int) - s := wrap_in (by omega) (by omega)
      rw [decide_eq_true h1.1, decide_eq_true h1.2, w]
      simp only [Bool.and_self, Bool.not_true, ite2_false]
      by_cases h2 : 0 ≤ n ∧ n ≤ (a.Frames.length : Int) - s
      · rw [decide_eq_true h2.1, decide_eq_true h2.2, if_pos ⟨trivial, h1.1, h1.2, h2.1, h2.2⟩]
        obtain ⟨s', rfl⟩ := Int.eq_ofNat_of_zero_le h1.1
        obtain ⟨n', rfl⟩ := Int.eq_ofNat_of_zero_le h2.1
        simp only [Bool.and_self, Bool.not_true, ite2_false, bind_of]
        rw [l10Some_eq h s' n' (by omega)]
        rfl
      · have : (decide (0 ≤ n) && decide (n ≤ (a.Frames.length : Int) - s)) = false := by
          rw [Bool.and_eq_false_iff]; simp only [decide_eq_false_iff_not]; omega
        rw [this, if_neg (by omega)]
        rfl
    · have : (decide (0 ≤ s) && decide (s ≤ (a.Frames.length : Int))) = false := by
        rw [Bool.and_eq_false_iff]; simp only [decide_eq_false_iff_not]; omega
      rw [this, if_neg (by omega)]
      rfl
theorem impl_slice {K : Nat} {a : Recording} (h : OkRec K a) (s n : Int) : impl_SliceFrames K a s n = some (sliceR a s n) := by
  have hf := h.frames
  have hfK := h.framesK
  unfold impl_SliceFrames sliceR
  rw [Valid_eq h, bind_of]
  cases hv : validR a
  · simp [ite2]
  · simp only [Bool.not_true, ite2_false, ite2_dec]
    by_cases h1 : s < 0
    · rw [if_pos h1, if_neg (by omega)]; rfl
    · rw [if_neg h1]
      by_cases h2 : s > (a.Frames.length : Int)
      · rw [if_pos h2, if_neg (by omega)]; rfl
      · rw [if_neg h2]
        have w : IntKind.i64.wrap ((a.Frames.length : Int) - s) = (a.Frames.length : Int) - s := wrap_in (by omega) (by omega)
        rw [w]
        by_cases h3 : n < 0
        · rw [if_pos h3, if_neg (by omega)]; rfl
        · rw [if_neg h3]
          by_cases h4 : n > (a.Frames.length : Int) - s
          · rw [decide_eq_true h4, if_neg (by omega)]; rfl
          · have w2 : IntKind.i64.wrap (s + n) = s + n := wrap_in (by omega) (by omega)
            rw [decide_eq_false h4, if_pos ⟨trivial, by omega, by omega, by omega, by omega⟩, bind_of, ite2_false, w2, chk_pos (by omega)]
            have e : (s + n).toNat - s.toNat = n.toNat := by omega
            have hp := h.part s.toNat n.toNat
            rw [e, frames_eq hp.frames hp.turns hp.framesK]
            rfl

theorem list_max {α : Type} (f : α → Nat) : ∀ (l : List α), ∃ m, ∀ x ∈ l, f x < m := by
  intro l
  induction l with
  | nil => exact ⟨0, by simp⟩
  | cons y l ih =>
    obtain ⟨m, hm⟩ := ih
    refine ⟨max m (f y + 1), fun x hx => ?_⟩
    cases hx with
    | head => omega
    | tail _ hx => have := hm x hx; omega

theorem law_SliceFrames (a : Recording) (s n : Int) (hl : a.Frames.length ≤ maxLen) (hl2 : ∀ p ∈ a.Frames, p.Turns.length ≤ maxLen) : ∃ K, laws_FnExactSliceFrames K a s n = some true := by
  obtain ⟨m1, h1⟩ := list_max (fun p : Pose => p.Turns.length) a.Frames
  refine ⟨m1 + a.Frames.length + 1, ?_⟩
  generalize hKe : m1 + a.Frames.length + 1 = K
  unfold laws_FnExactSliceFrames
  obtain ⟨r, er, e2, hr⟩ := OkRec.sized (K := K) a (s := 1048576) (by omega) (by omega) hl hl2 (by omega) (fun p hp => by have := h1 p hp; omega)
  rw [er, bind_of, ite2_dec]
  split
  · rfl
  · have h := hr (by omega)
    have hg := sliceR_ok h s n
    obtain ⟨m, ys, k1, k2, k3, k4, k5⟩ := h.mark (k0 := 1) (by omega) (by omega)
    obtain ⟨m', ys', l1, l2, l3, l4, l5⟩ := hg.mark (k0 := 1) (by omega) (by omega)
    have n1 : decide (m < 0) = false := decide_eq_false (by omega)
    have n2 : decide (m' < 0) = false := decide_eq_false (by omega)
    simp only [h.to, bind_of, spec_slice h, impl_slice h, hg.eq, h.eq, Bool.not_true, ite2_false, beq_self_eq_true, k1, chk_pos k4, n1, l1, chk_pos l4, l5, n2, bne_self_eq_false]

end Go.Fw
