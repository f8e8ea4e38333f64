/- The law of MotionOf, in plain Lean. -/
import Derived.Test.YtgejobicepefkaaFwMOAngLaw
namespace Go.Fw
open Go

theorem map_loop {α β γ : Type} [Inhabited α] (a : List α) (g : α → β) (r : Option γ) (l : Nat → Int → List β → Option γ) (hend : ∀ (k i : Nat), a.length ≤ i → l (k + 1) (i : Int) (a.map g) = r)
    (hstep : ∀ (k i : Nat) (xs : List β), i < a.length → xs.length = i → l (k + 1) (i : Int) xs = l k ((i + 1 : Nat) : Int) (xs ++ [g (a.getD i default)])) : ∀ (K : Nat), a.length < K → l K 0 [] = r := by
  have key : ∀ (k i : Nat), i ≤ a.length → a.length - i < k → l k (i : Int) ((a.take i).map g) = r := by
    intro k
    induction k with
    | zero => intro i _ h; omega
    | succ k ih =>
      intro i hi hk
      by_cases h : i < a.length
      · rw [hstep k i _ h (by simp; omega)]
        have : (a.take i).map g ++ [g (a.getD i default)] = (a.take (i + 1)).map g := by rw [take_succ_getD h, List.map_append]; rfl
        rw [this]
        exact ih (i + 1) (by omega) (by omega)
      · have e : a.take i = a := List.take_of_length_le (by omega)
        rw [e]
        exact hend k i (by omega)
  intro K hK
  have := key K 0 (by omega) (by omega)
  simpa using this

structure OkRec (K : Nat) (a : Recording) : Prop where
  frames : (a.Frames.length : Int) ≤ 1048576
  framesK : a.Frames.length < K
theorem In_eq (K : Nat) (a b c : Int) : spec_l00In K a b c = some (decide (b ≤ a) && decide (a ≤ c)) := by
  unfold spec_l00In
  rw [ite2_dec]
  by_cases h : b ≤ a
  · rw [if_pos (by omega)]; simp [h]
  · rw [if_neg (by omega)]; simp [h]

/-- A recording that is right. -/
def validR (a : Recording) : Bool := (decide (1 ≤ a.Bones) && decide (a.Bones ≤ 12)) && (decide ((a.Frames.length : Int) ≤ 64) && a.Frames.all fun p => decide ((p.Turns.length : Int) = a.Bones))
theorem l10Is_loop (K : Nat) (a : Recording) (hl : (a.Frames.length : Int) ≤ 1048576) : ∀ (k i : Nat), i ≤ a.Frames.length → a.Frames.length - i < k → spec_l10Is_l1 K a k (i : Int) = some ((a.Frames.drop i).all fun p => decide ((p.Turns.length : Int) = a.Bones)) := by
  intro k
  induction k with
  | zero => intro i _ h; omega
  | succ k ih =>
    intro i hi hk
    rw [spec_l10Is_l1, ite2_dec]
    by_cases h : i < a.Frames.length
    · rw [if_pos (by omega), chk_pos (by omega), Int.toNat_natCast]
      have w5 : IntKind.i64.wrap ((i : Int) + 1) = ((i + 1 : Nat) : Int) := by rw [wrap_in (by omega) (by omega)]; omega
      rw [w5, ih (i + 1) (by omega) (by omega), getD_of_lt h, List.drop_eq_getElem_cons h, List.all_cons]
      by_cases e : ((a.Frames[i]).Turns.length : Int) = a.Bones
      · rw [decide_eq_true e, Bool.true_and]
        have : (((a.Frames[i]).Turns.length : Int) != a.Bones) = false := by simp [e]
        rw [this, ite2_false]
      · rw [decide_eq_false e, Bool.false_and]
        have : (((a.Frames[i]).Turns.length : Int) != a.Bones) = true := by simp [e]
        rw [this, ite2_true]
    · rw [if_neg (by omega), List.drop_of_length_le (by omega)]; rfl
theorem l10Is_eq {K : Nat} {a : Recording} (h : OkRec K a) : spec_l10Is K a = some (validR a) := by
  unfold spec_l10Is spec_l06Count validR
  rw [In_eq, bind_of, bind_of]
  cases (decide (1 ≤ a.Bones) && decide (a.Bones ≤ 12))
  · rfl
  · simp only [Bool.not_true, ite2_false, bind_of, ite2_dec]
    by_cases e : (a.Frames.length : Int) ≤ 64
    · rw [if_neg (by omega), decide_eq_true e]
      have := l10Is_loop K a h.frames K 0 (by omega) (by have := h.framesK; omega)
      rw [List.drop_zero] at this
      simpa using this
    · rw [if_pos (by omega), decide_eq_false e]; rfl
theorem index_loop (K : Nat) (xs : List Pose) (a : Recording) (hl : (xs.length : Int) ≤ 1048576) : ∀ (k i : Nat), i ≤ xs.length → xs.length - i < k → ∃ r, slices_IndexFunc_impl_Pose_impl_Pose_l1 K xs a k (i : Int) = some r ∧ decide (r ≥ 0) = !((xs.drop i).all fun p => decide ((p.Turns.length : Int) = a.Bones)) := by
  intro k
  induction k with
  | zero => intro i _ h; omega
  | succ k ih =>
    intro i hi hk
    rw [slices_IndexFunc_impl_Pose_impl_Pose_l1, ite2_dec]
    by_cases h : i < xs.length
    · rw [if_pos (by omega), chk_pos (by omega), Int.toNat_natCast]
      have w5 : IntKind.i64.wrap ((i : Int) + 1) = ((i + 1 : Nat) : Int) := by rw [wrap_in (by omega) (by omega)]; omega
      unfold impl_ValidRecording_1
      obtain ⟨r, e1, e2⟩ := ih (i + 1) (by omega) (by omega)
      rw [w5, e1, bind_of, getD_of_lt h, List.drop_eq_getElem_cons h, List.all_cons]
      by_cases e : ((xs[i]).Turns.length : Int) = a.Bones
      · have : (((xs[i]).Turns.length : Int) != a.Bones) = false := by simp [e]
        rw [this, ite2_false, decide_eq_true e, Bool.true_and]
        exact ⟨r, rfl, e2⟩
      · have : (((xs[i]).Turns.length : Int) != a.Bones) = true := by simp [e]
        rw [this, ite2_true, decide_eq_false e, Bool.false_and]
        exact ⟨_, rfl, by simp⟩
    · rw [if_neg (by omega), List.drop_of_length_le (by omega)]
      exact ⟨-1, rfl, by simp⟩
theorem Valid_eq {K : Nat} {a : Recording} (h : OkRec K a) : impl_ValidRecording K a = some (validR a) := by
  unfold impl_ValidRecording impl_isCount validR
  rw [ite2_dec]
  by_cases e1 : 1 ≤ a.Bones
  · rw [if_pos (by omega), bind_of, bind_of, decide_eq_true e1, Bool.true_and]
    by_cases e2 : a.Bones ≤ 12
    · rw [decide_eq_true e2, Bool.true_and, ite2_true, ite2_dec]
      by_cases e : (a.Frames.length : Int) ≤ 64
      · rw [if_pos e, decide_eq_true e, Bool.true_and]
        unfold slices_ContainsFunc_impl_Pose_impl_Pose slices_IndexFunc_impl_Pose_impl_Pose
        obtain ⟨r, g1, g2⟩ := index_loop K a.Frames a h.frames K 0 (by omega) (by have := h.framesK; omega)
        rw [List.drop_zero] at g2
        rw [show slices_IndexFunc_impl_Pose_impl_Pose_l1 K a.Frames a K (0 : Int) = some r from g1]
        simp only [bind_of, g2, Bool.not_not]
      · rw [if_neg e, decide_eq_false e]; rfl
    · rw [decide_eq_false e2]; rfl
  · rw [if_neg (by omega), decide_eq_false e1]; rfl
structure Right (a : Recording) : Prop where
  bones : 1 ≤ a.Bones ∧ a.Bones ≤ 12
  frames : (a.Frames.length : Int) ≤ 64
  turns : ∀ p ∈ a.Frames, (p.Turns.length : Int) = a.Bones
theorem validR_spec {a : Recording} : validR a = true ↔ Right a := by
  unfold validR
  simp only [Bool.and_eq_true, decide_eq_true_eq, List.all_eq_true]
  exact ⟨fun h => ⟨h.1, h.2.1, h.2.2⟩, fun h => ⟨h.1, h.2, h.3⟩⟩


def zero32 : F32 := Fl.mk (k := .f32) 0 (by decide)
def sumF (l : List F32) : F32 := l.foldl Fl.add zero32
theorem sum_spec {K : Nat} (l : List F32) (hK : l.length < K) (hl : l.length ≤ 1048576) : spec_l01Sum K l = some (sumF l) := by
  unfold spec_l01Sum
  refine fold_loop l.length (fun i => (l.take i).foldl Fl.add zero32) (sumF l) (fun k i x => spec_l01Sum_l1 K l k x i) (fun k i h1 h2 => ?_) (fun k i h => ?_) K 0 (by omega) (by omega)
  · have e : l.take i = l := List.take_of_length_le (by omega)
    show spec_l01Sum_l1 K l (k + 1) ((l.take i).foldl Fl.add zero32) (i : Int) = _
    rw [spec_l01Sum_l1, ite2_dec, if_neg (by omega), e]; rfl
  · show spec_l01Sum_l1 K l (k + 1) ((l.take i).foldl Fl.add zero32) (i : Int) = spec_l01Sum_l1 K l k ((l.take (i + 1)).foldl Fl.add zero32) ((i + 1 : Nat) : Int)
    rw [spec_l01Sum_l1, ite2_dec, if_pos (by omega), chk_pos (by omega), wrap_nat1 (by omega), Int.toNat_natCast, take_succ_getD h, List.foldl_append]; rfl
theorem sum_impl {K : Nat} (l : List F32) (hK : l.length < K) (hl : l.length ≤ 1048576) : impl_sum K l = some (sumF l) := by
  unfold impl_sum
  refine fold_loop l.length (fun i => (l.take i).foldl Fl.add zero32) (sumF l) (fun k i x => impl_sum_l1 K l k x i) (fun k i h1 h2 => ?_) (fun k i h => ?_) K 0 (by omega) (by omega)
  · have e : l.take i = l := List.take_of_length_le (by omega)
    show impl_sum_l1 K l (k + 1) ((l.take i).foldl Fl.add zero32) (i : Int) = _
    rw [impl_sum_l1, ite2_dec, if_neg (by omega), e]; rfl
  · show impl_sum_l1 K l (k + 1) ((l.take i).foldl Fl.add zero32) (i : Int) = impl_sum_l1 K l k ((l.take (i + 1)).foldl Fl.add zero32) ((i + 1 : Nat) : Int)
    rw [impl_sum_l1, ite2_dec, if_pos (by omega), chk_pos (by omega), wrap_nat1 (by omega), Int.toNat_natCast, take_succ_getD h, List.foldl_append]; rfl

def rowF (K n : Nat) (p q : Pose) : List F32 := (List.range n).map fun k => apartF K (p.Turns.getD k default) (q.Turns.getD k default)
theorem range_getD {n i : Nat} (h : i < n) : (List.range n).getD i default = i := by
  rw [List.getD_eq_getElem?_getD, List.getElem?_range h]; rfl
theorem row_getD {K n i : Nat} {p q : Pose} (h : i < n) : (rowF K n p q).getD i default = apartF K (p.Turns.getD i default) (q.Turns.getD i default) := by
  unfold rowF
  rw [List.getD_eq_getElem?_getD, List.getElem?_map, List.getElem?_range h]; rfl
theorem wrap_back (i : Nat) (h : i ≤ 1048576) : IntKind.i64.wrap (((i + 1 : Nat) : Int) - 1) = (i : Int) := by rw [wrap_in (by omega) (by omega)]; omega
theorem row_spec {K n i : Nat} {L : List Pose} (hK : 1048576 < K) (hL : L.length ≤ 64) (hn : n ≤ 12) (hi : i + 1 < L.length) (h1 : (L.getD i default).Turns.length = n) (h2 : (L.getD (i + 1) default).Turns.length = n) :
    spec_l10Motion_l4 K L ((i + 1 : Nat) : Int) K 0 [] = some (rowF K n (L.getD i default) (L.getD (i + 1) default)) := by
  have w := wrap_back i (by omega)
  refine map_loop (List.range n) (fun k => apartF K ((L.getD i default).Turns.getD k default) ((L.getD (i + 1) default).Turns.getD k default)) _ (spec_l10Motion_l4 K L ((i + 1 : Nat) : Int)) (fun k j hj => ?_) (fun k j xs hj hx => ?_) K (by rw [List.length_range]; omega)
  · rw [List.length_range] at hj
    rw [spec_l10Motion_l4, chk_pos (by omega)]
    simp only [Int.toNat_natCast, h2]
    rw [ite2_dec, if_neg (by omega)]; rfl
  · rw [List.length_range] at hj
    rw [spec_l10Motion_l4, chk_pos (by omega)]
    simp only [w, Int.toNat_natCast, h1, h2, range_getD hj]
    rw [ite2_dec, if_pos (by omega), chk_pos (by omega), chk_pos (by omega), chk_pos (by omega), apart_spec (by omega), bind_of, chk_pos (by simp only [List.length_singleton]; omega), wrap_nat1 (by omega)]
theorem row_impl {K n i : Nat} {L : List Pose} {ys : List F32} (hK : 1048576 < K) (hL : L.length ≤ 64) (hn : n ≤ 12) (hi : i + 1 < L.length) (h1 : (L.getD i default).Turns.length = n) (h2 : (L.getD (i + 1) default).Turns.length = n) (hy : ys.length = n) :
    impl_motion_l5 K L ((i + 1 : Nat) : Int) K 0 ys = some (rowF K n (L.getD i default) (L.getD (i + 1) default)) := by
  have w := wrap_back i (by omega)
  have hr : (rowF K n (L.getD i default) (L.getD (i + 1) default)).length = n := by unfold rowF; rw [List.length_map, List.length_range]
  refine to_loop (rowF K n (L.getD i default) (L.getD (i + 1) default)) (impl_motion_l5 K L ((i + 1 : Nat) : Int)) (fun k j xs hj => ?_) (fun k j xs hj hx => ?_) K 0 ys (by omega) (by omega) (fun j hj => by omega) (by omega)
  · rw [hr] at hj
    rw [impl_motion_l5]
    simp only [Int.toNat_natCast, h2]
    rw [ite2_dec, if_neg (by omega)]
  · rw [hr] at hj hx
    rw [impl_motion_l5]
    simp only [w, Int.toNat_natCast, h1, h2, row_getD hj]
    rw [ite2_dec, if_pos (by omega), chk_pos (by omega), chk_pos (by omega), chk_pos (by omega), apart_impl (by omega), bind_of, chk_pos (by omega), wrap_nat1 (by omega)]

def moF (K n : Nat) (L : List Pose) : List F32 := (List.range (L.length - 1)).map fun i => sumF (rowF K n (L.getD i default) (L.getD (i + 1) default))
theorem row_len {K n : Nat} {p q : Pose} : (rowF K n p q).length = n := by unfold rowF; rw [List.length_map, List.length_range]
theorem motion_spec {K n : Nat} {L : List Pose} (hK : 1048576 < K) (hL : L.length ≤ 64) (hn : n ≤ 12) (ht : ∀ i, i < L.length → (L.getD i default).Turns.length = n) : spec_l10Motion K L = some (moF K n L) := by
  unfold spec_l10Motion
  refine map_loop (List.range (L.length - 1)) (fun i => sumF (rowF K n (L.getD i default) (L.getD (i + 1) default))) _ (fun k i xs => spec_l10Motion_l3 K L k (i + 1) xs) (fun k i hi => ?_) (fun k i xs hi hx => ?_) K (by rw [List.length_range]; omega)
  · rw [List.length_range] at hi
    show spec_l10Motion_l3 K L (k + 1) ((i : Int) + 1) _ = _
    rw [spec_l10Motion_l3, ite2_dec, if_neg (by omega)]; rfl
  · rw [List.length_range] at hi
    show spec_l10Motion_l3 K L (k + 1) (((i + 1 : Nat) : Int)) xs = spec_l10Motion_l3 K L k (((i + 1 : Nat) : Int) + 1) (xs ++ _)
    rw [spec_l10Motion_l3, ite2_dec, if_pos (by omega), row_spec hK hL hn (by omega) (ht i (by omega)) (ht (i + 1) (by omega)), bind_of, sum_spec _ (by rw [row_len]; omega) (by rw [row_len]; omega), bind_of, chk_pos (by simp only [List.length_singleton]; omega), wrap_nat1 (by omega), range_getD hi]
    rfl
theorem motion_impl {K n : Nat} {L : List Pose} (hK : 1048576 < K) (hL : L.length ≤ 64) (hn : n ≤ 12) (ht : ∀ i, i < L.length → (L.getD i default).Turns.length = n) : impl_motion K L = some (moF K n L) := by
  unfold impl_motion
  refine map_loop (List.range (L.length - 1)) (fun i => sumF (rowF K n (L.getD i default) (L.getD (i + 1) default))) _ (fun k i xs => impl_motion_l4 K L k (i + 1) xs) (fun k i hi => ?_) (fun k i xs hi hx => ?_) K (by rw [List.length_range]; omega)
  · rw [List.length_range] at hi
    show impl_motion_l4 K L (k + 1) ((i : Int) + 1) _ = _
    rw [impl_motion_l4, ite2_dec, if_neg (by omega)]; rfl
  · rw [List.length_range] at hi
    have h2 := ht (i + 1) (by omega)
    show impl_motion_l4 K L (k + 1) (((i + 1 : Nat) : Int)) xs = impl_motion_l4 K L k (((i + 1 : Nat) : Int) + 1) (xs ++ _)
    rw [impl_motion_l4, ite2_dec, if_pos (by omega), chk_pos (by omega)]
    simp only [Int.toNat_natCast, h2]
    rw [chk_pos (by omega), row_impl hK hL hn (by omega) (ht i (by omega)) h2 (by rw [List.length_replicate]), bind_of, sum_impl _ (by rw [row_len]; omega) (by rw [row_len]; omega), bind_of, chk_pos (by simp only [List.length_singleton]; omega), wrap_nat1 (by omega), range_getD hi]
    rfl
theorem core_MotionOf {K : Nat} (hK : 1048577 < K) (a : Recording) (hs : mx_Recording a ≤ 1048576) : ∃ r, spec_MotionOf K a = some r ∧ impl_MotionOf K a = some r ∧ r.1.length ≤ 1048576 := by
  have hl : a.Frames.length ≤ 1048576 := by
    have := mxL_len mx_Pose a.Frames
    unfold mx_Recording at hs
    omega
  have h : OkRec K a := ⟨by omega, by omega⟩
  unfold spec_MotionOf impl_MotionOf
  rw [l10Is_eq h, Valid_eq h, bind_of, bind_of]
  cases hv : validR a
  · exact ⟨_, rfl, rfl, by simp⟩
  · have hr := validR_spec.1 hv
    obtain ⟨b1, b2⟩ := hr.bones
    have hf := hr.frames
    have ht : ∀ i, i < a.Frames.length → (a.Frames.getD i default).Turns.length = a.Bones.toNat := fun i hi => by
      have := hr.turns _ (getD_mem hi); omega
    simp only [Bool.not_true, ite2_false]
    rw [motion_spec (n := a.Bones.toNat) (by omega) (by omega) (by omega) ht, motion_impl (n := a.Bones.toNat) (by omega) (by omega) (by omega) ht]
    exact ⟨_, rfl, rfl, by show (moF _ _ _).length ≤ 1048576; unfold moF; rw [List.length_map, List.length_range]; omega⟩

theorem law_MotionOf (a : Recording) (hm : mx_Recording a ≤ maxLen) : ∃ K, laws_FnExactMotionOf K a = some true := by
  refine ⟨mx_Recording a + 1048578, ?_⟩
  generalize hKe : mx_Recording a + 1048578 = K
  unfold laws_FnExactMotionOf
  obtain ⟨r, er, r1, r2, r3⟩ := sz_Recording K a 1048576 (by omega) (by omega) hm (by omega)
  rw [er, bind_of, ite2_dec]
  split
  · rfl
  · have hs : mx_Recording a ≤ 1048576 := by have := r3 (by omega); omega
    obtain ⟨s, s1, s2, s3⟩ := core_MotionOf (K := K) (by omega) a hs
    obtain ⟨m, y0, k1, k2, k3, k4, k5⟩ := mark_Recording (K := K) (a := a) (k0 := 1) (by omega) hs (by omega) (by omega)
    have l1 := mark_Float32S (K := K) (a := s.1) (k0 := 1) (by omega) s3 (by omega) (by omega)
    have l8 := held_Float32S (K := K) (a := s.1) (k0 := 1) (by omega) s3 (by omega) (by omega)
    have b0 := cnL_bound2 (c := fun (_ : F32) => (1 : Int)) (B := 1) (xs := s.1) (by decide) (by omega) (fun x _ => by constructor <;> decide)
    have l4 : (mkL (fun k (_ : F32) => (Fl.ofInt .f32 (k))) (fun (_ : F32) => (1 : Int)) 1 s.1).length = s.1.length := mkL_length _ _ _ _
    have n1 : decide (m < 0) = false := decide_eq_false (by omega)
    have n2 : decide ((1 : Int) + cnL (fun (_ : F32) => (1 : Int)) s.1 < 0) = false := decide_eq_false (by omega)
    simp only [to_Recording (K := K) (a := a) (by omega) hs, bind_of, s1, s2, eq_Recording (K := K) (a := a) (by omega) hs, eq_Float32S (K := K) (a := s.1) (by omega) s3, Bool.not_true, ite2_false, beq_self_eq_true, bne_self_eq_false, k1, chk_pos k4, n1, l1, chk_pos l4, l8, n2]

end Go.Fw
