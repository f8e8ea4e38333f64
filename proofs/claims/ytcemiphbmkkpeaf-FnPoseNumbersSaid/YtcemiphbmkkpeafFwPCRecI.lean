/- Recordings, in plain Lean: what is right, cut out, joined, added. (A template.) -/
import Derived.Test.YtcemiphbmkkpeafFwPC
import Derived.Test.YtcemiphbmkkpeafFwLW
namespace Go.Fw
open Go

structure OkRec (K : Nat) (a : Recording) : Prop where
  frames : (a.Frames.length : Int) ≤ 1048576
  turns : ∀ p ∈ a.Frames, (p.Turns.length : Int) ≤ 1048576
  framesK : a.Frames.length < K
  turnsK : ∀ p ∈ a.Frames, p.Turns.length < K
def validR (a : Recording) : Bool := (decide (1 ≤ a.Bones) && decide (a.Bones ≤ 12)) && (decide ((a.Frames.length : Int) ≤ 64) && a.Frames.all fun p => decide ((p.Turns.length : Int) = a.Bones))
theorem index_loop (K : Nat) (xs : List Pose) (a : Recording) (hl : (xs.length : Int) ≤ 1048576) : ∀ (k i : Nat), i ≤ xs.length → xs.length - i < k → ∃ r, slices_IndexFunc_impl_Pose_impl_Pose_l1 K xs a k (i : Int) = some r ∧ decide (r ≥ 0) = !((xs.drop i).all fun p => decide ((p.Turns.length : Int) = a.Bones)) := by
  intro k
  induction k with
  | zero => intro i _ h; omega
  | succ k ih =>
    intro i hi hk
    rw [slices_IndexFunc_impl_Pose_impl_Pose_l1, ite2_dec]
    by_cases h : i < xs.length
    · rw [if_pos (by omega), chk_pos (by omega), Int.toNat_natCast]
      have w5 : IntKind.i64.wrap ((i : Int) + 1) = ((i + 1 : Nat) : Int) := by rw [wrap_in (by omega) (by omega)]; omega
      unfold impl_ValidRecording_1
      obtain ⟨r, e1, e2⟩ := ih (i + 1) (by omega) (by omega)
      rw [w5, e1, bind_of, getD_of_lt h, List.drop_eq_getElem_cons h, List.all_cons]
      by_cases e : ((xs[i]).Turns.length : Int) = a.Bones
      · have : (((xs[i]).Turns.length : Int) != a.Bones) = false := by simp [e]
        rw [this, ite2_false, decide_eq_true e, Bool.true_and]
        exact ⟨r, rfl, e2⟩
      · have : (((xs[i]).Turns.length : Int) != a.Bones) = true := by simp [e]
        rw [this, ite2_true, decide_eq_false e, Bool.false_and]
        exact ⟨_, rfl, by simp⟩
    · rw [if_neg (by omega), List.drop_of_length_le (by omega)]
      exact ⟨-1, rfl, by simp⟩
theorem Valid_eq {K : Nat} {a : Recording} (h : OkRec K a) : impl_ValidRecording K a = some (validR a) := by
  unfold impl_ValidRecording impl_isCount validR
  rw [ite2_dec]
  by_cases e1 : 1 ≤ a.Bones
  · rw [if_pos (by omega), bind_of, bind_of, decide_eq_true e1, Bool.true_and]
    by_cases e2 : a.Bones ≤ 12
    · rw [decide_eq_true e2, Bool.true_and, ite2_true, ite2_dec]
      by_cases e : (a.Frames.length : Int) ≤ 64
      · rw [if_pos e, decide_eq_true e, Bool.true_and]
        unfold slices_ContainsFunc_impl_Pose_impl_Pose slices_IndexFunc_impl_Pose_impl_Pose
        obtain ⟨r, g1, g2⟩ := index_loop K a.Frames a h.frames K 0 (by omega) (by have := h.framesK; omega)
        rw [List.drop_zero] at g2
        rw [show slices_IndexFunc_impl_Pose_impl_Pose_l1 K a.Frames a K (0 : Int) = some r from g1]
        simp only [bind_of, g2, Bool.not_not]
      · rw [if_neg e, decide_eq_false e]; rfl
    · rw [decide_eq_false e2]; rfl
  · rw [if_neg (by omega), decide_eq_false e1]; rfl
structure Right (a : Recording) : Prop where
  bones : 1 ≤ a.Bones ∧ a.Bones ≤ 12
  frames : (a.Frames.length : Int) ≤ 64
  turns : ∀ p ∈ a.Frames, (p.Turns.length : Int) = a.Bones
theorem validR_spec {a : Recording} : validR a = true ↔ Right a := by
  unfold validR
  simp only [Bool.and_eq_true, decide_eq_true_eq, List.all_eq_true]
  exact ⟨fun h => ⟨h.1, h.2.1, h.2.2⟩, fun h => ⟨h.1, h.2, h.3⟩⟩

theorem Clone_eq (K : Nat) (a : List Turn) (h : (a.length : Int) ≤ 1048576) : slices_Clone_impl_Turn_impl_Turn K a = some a := by
  unfold slices_Clone_impl_Turn_impl_Turn
  rw [chk_pos (by simp; omega)]; rfl
theorem frames_eq {K : Nat} {a : List Pose} (hl : (a.length : Int) ≤ 1048576) (ht : ∀ p ∈ a, (p.Turns.length : Int) ≤ 1048576) (hK : a.length < K) : impl_frames K a = some a := by
  unfold impl_frames
  rw [chk_pos (by simp; omega)]
  refine copy_loop a (fun p => (slices_Clone_impl_Turn_impl_Turn K p.Turns).bind fun v => some (Pose.mk p.Root v)) (fun x hx => ?_) (by rw [maxLen_eq]; omega) (impl_frames_l1 K a) (fun k i ys => ?_) K 0 _ (by omega) (by simp) (by intro j hj; omega) (by omega)
  · simp only [Clone_eq K _ (ht x hx), bind_of]
  · rw [impl_frames_l1]
    cases slices_Clone_impl_Turn_impl_Turn K ((a.getD i.toNat default).Turns) <;> rfl
theorem OkRec.nil (K : Nat) (hK : 0 < K) : OkRec K (Recording.mk 0 []) := ⟨by simp, by simp, by simpa using hK, by simp⟩
theorem OkRec.part {K : Nat} {a : Recording} (h : OkRec K a) (s n : Nat) : OkRec K (Recording.mk a.Bones ((a.Frames.drop s).take n)) := by
  have hm : ∀ p ∈ (a.Frames.drop s).take n, p ∈ a.Frames := fun p hp => List.mem_of_mem_drop (List.mem_of_mem_take hp)
  have hl : ((a.Frames.drop s).take n).length ≤ a.Frames.length := by rw [List.length_take, List.length_drop]; omega
  have := h.frames
  have := h.framesK
  exact ⟨by show (((a.Frames.drop s).take n).length : Int) ≤ _; omega, fun p hp => h.turns p (hm p hp), by show ((a.Frames.drop s).take n).length < _; omega, fun p hp => h.turnsK p (hm p hp)⟩

def sliceR (a : Recording) (s n : Int) : Recording × Bool :=
  if validR a = true ∧ 0 ≤ s ∧ s ≤ (a.Frames.length : Int) ∧ 0 ≤ n ∧ n ≤ (a.Frames.length : Int) - s then (Recording.mk a.Bones ((a.Frames.drop s.toNat).take n.toNat), true) else (Recording.mk 0 [], false)
theorem sliceR_ok {K : Nat} {a : Recording} (h : OkRec K a) (s n : Int) : OkRec K (sliceR a s n).1 := by
  unfold sliceR
  split
  · exact h.part _ _
  · exact OkRec.nil K (by have := h.framesK; omega)
theorem impl_slice {K : Nat} {a : Recording} (h : OkRec K a) (s n : Int) : impl_SliceFrames K a s n = some (sliceR a s n) := by
  have hf := h.frames
  have hfK := h.framesK
  unfold impl_SliceFrames sliceR
  rw [Valid_eq h, bind_of]
  cases hv : validR a
  · simp [ite2]
  · simp only [Bool.not_true, ite2_false, ite2_dec]
    by_cases h1 : s < 0
    · rw [if_pos h1, if_neg (by omega)]; rfl
    · rw [if_neg h1]
      by_cases h2 : s > (a.Frames.length : Int)
      · rw [if_pos h2, if_neg (by omega)]; rfl
      · rw [if_neg h2]
        have w : IntKind.i64.wrap ((a.Frames.length : Int) - s) = (a.Frames.length : Int) - s := wrap_in (by omega) (by omega)
        rw [w]
        by_cases h3 : n < 0
        · rw [if_pos h3, if_neg (by omega)]; rfl
        · rw [if_neg h3]
          by_cases h4 : n > (a.Frames.length : Int) - s
          · rw [decide_eq_true h4, if_neg (by omega)]; rfl
          · have w2 : IntKind.i64.wrap (s + n) = s + n := wrap_in (by omega) (by omega)
            rw [decide_eq_false h4, if_pos ⟨trivial, by omega, by omega, by omega, by omega⟩, bind_of, ite2_false, w2, chk_pos (by omega)]
            have e : (s + n).toNat - s.toNat = n.toNat := by omega
            have hp := h.part s.toNat n.toNat
            rw [e, frames_eq hp.frames hp.turns hp.framesK]
            rfl

theorem OkRec.join {K : Nat} {b : Int} {xs ys : List Pose} (h1 : (xs.length : Int) ≤ 1048576) (h2 : (ys.length : Int) ≤ 64) (hs : (xs.length : Int) ≤ 64) (ht1 : ∀ p ∈ xs, (p.Turns.length : Int) ≤ 1048576) (ht2 : ∀ p ∈ ys, (p.Turns.length : Int) ≤ 1048576) (k1 : xs.length + ys.length < K) (k2 : ∀ p ∈ xs, p.Turns.length < K) (k3 : ∀ p ∈ ys, p.Turns.length < K) : OkRec K (Recording.mk b (xs ++ ys)) := by
  refine ⟨by simp; omega, fun p hp => ?_, by simpa using k1, fun p hp => ?_⟩
  · rcases List.mem_append.1 hp with h | h
    · exact ht1 p h
    · exact ht2 p h
  · rcases List.mem_append.1 hp with h | h
    · exact k2 p h
    · exact k3 p h

def joinR (a b : Recording) : Recording × Bool :=
  if validR a = true ∧ validR b = true ∧ a.Bones = b.Bones ∧ (a.Frames.length : Int) + (b.Frames.length : Int) ≤ 64 then (Recording.mk a.Bones (a.Frames ++ b.Frames), true) else (Recording.mk 0 [], false)
theorem joinR_ok {K : Nat} {a b : Recording} (ha : OkRec K a) (hb : OkRec K b) (hK : a.Frames.length + b.Frames.length < K) : OkRec K (joinR a b).1 := by
  unfold joinR
  split
  · rename_i h
    exact OkRec.join ha.frames (by omega) (by omega) ha.turns hb.turns hK ha.turnsK hb.turnsK
  · exact OkRec.nil K (by omega)
theorem valid_join {a b : Recording} (ha : validR a = true) (hb : validR b = true) (e : a.Bones = b.Bones) : validR (Recording.mk a.Bones (a.Frames ++ b.Frames)) = decide ((a.Frames.length : Int) + (b.Frames.length : Int) ≤ 64) := by
  rw [validR_spec] at ha hb
  cases hv : validR (Recording.mk a.Bones (a.Frames ++ b.Frames))
  · symm
    rw [decide_eq_false_iff_not]
    intro h
    have : validR (Recording.mk a.Bones (a.Frames ++ b.Frames)) = true := validR_spec.2 ⟨ha.bones, by simp; omega, fun p hp => by
      rcases List.mem_append.1 hp with h | h
      · exact ha.turns p h
      · show (p.Turns.length : Int) = a.Bones
        rw [e]; exact hb.turns p h⟩
    rw [hv] at this; cases this
  · have h := (validR_spec.1 hv).frames
    simp at h
    exact (decide_eq_true (by omega)).symm
theorem impl_join {K : Nat} {a b : Recording} (ha : OkRec K a) (hb : OkRec K b) (hK : a.Frames.length + b.Frames.length < K) : impl_JoinRecordings K a b = some (joinR a b) := by
  have hfa := ha.frames
  have hfb := hb.frames
  unfold impl_JoinRecordings joinR
  rw [Valid_eq ha, bind_of]
  cases hva : validR a
  · simp [ite2]
  · rw [Valid_eq hb]
    simp only [Bool.not_true, ite2_false, bind_of]
    cases hvb : validR b
    · simp [ite2]
    · simp only [Bool.not_true, ite2_false]
      by_cases e : a.Bones = b.Bones
      · have : (a.Bones != b.Bones) = false := by simp [e]
        have ra := (validR_spec.1 hva).frames
        have rb := (validR_spec.1 hvb).frames
        have hj : OkRec K (Recording.mk a.Bones (a.Frames ++ b.Frames)) := OkRec.join hfa rb ra ha.turns hb.turns hK ha.turnsK hb.turnsK
        rw [this, bind_of, ite2_false, frames_eq ha.frames ha.turns ha.framesK, bind_of, frames_eq hb.frames hb.turns hb.framesK, bind_of, chk_pos (by omega)]
        unfold impl_validRecording
        rw [Valid_eq hj, valid_join hva hvb e]
        by_cases e2 : (a.Frames.length : Int) + (b.Frames.length : Int) ≤ 64
        · rw [decide_eq_true e2, if_pos ⟨trivial, trivial, e, e2⟩]; rfl
        · rw [decide_eq_false e2, if_neg (by omega)]; rfl
      · have : (a.Bones != b.Bones) = true := by simp [e]
        rw [this, if_neg (fun h => e (by first | exact h.2.2.1 | exact h.2.1))]; rfl

structure OkPose (K : Nat) (p : Pose) : Prop where
  turns : (p.Turns.length : Int) ≤ 1048576
  turnsK : p.Turns.length < K
def addR (a : Recording) (p : Pose) : Recording × Bool :=
  if validR a = true ∧ (p.Turns.length : Int) = a.Bones ∧ (a.Frames.length : Int) < 64 then (Recording.mk a.Bones (a.Frames ++ [p]), true) else (Recording.mk 0 [], false)
theorem OkRec.add {K : Nat} {a : Recording} {p : Pose} (ha : OkRec K a) (hp : OkPose K p) (hK : a.Frames.length + 1 < K) (hv : (a.Frames.length : Int) ≤ 64) : OkRec K (Recording.mk a.Bones (a.Frames ++ [p])) :=
  OkRec.join ha.frames (by simp) hv ha.turns (fun q hq => by rw [List.mem_singleton.1 hq]; exact hp.turns) (by simpa using hK) ha.turnsK (fun q hq => by rw [List.mem_singleton.1 hq]; exact hp.turnsK)
theorem addR_ok {K : Nat} {a : Recording} {p : Pose} (ha : OkRec K a) (hp : OkPose K p) (hK : a.Frames.length + 1 < K) : OkRec K (addR a p).1 := by
  unfold addR
  split
  · rename_i h
    exact ha.add hp hK (by omega)
  · exact OkRec.nil K (by omega)
theorem valid_add {a : Recording} {p : Pose} (ha : validR a = true) : validR (Recording.mk a.Bones (a.Frames ++ [p])) = (decide ((p.Turns.length : Int) = a.Bones) && decide ((a.Frames.length : Int) < 64)) := by
  have ha' := validR_spec.1 ha
  cases hv : validR (Recording.mk a.Bones (a.Frames ++ [p]))
  · symm
    rw [Bool.and_eq_false_iff, decide_eq_false_iff_not, decide_eq_false_iff_not]
    by_cases h : (p.Turns.length : Int) = a.Bones
    · right
      intro h2
      have : validR (Recording.mk a.Bones (a.Frames ++ [p])) = true := validR_spec.2 ⟨ha'.bones, by simp; omega, fun q hq => by
        rcases List.mem_append.1 hq with g | g
        · exact ha'.turns q g
        · rw [List.mem_singleton.1 g]; exact h⟩
      rw [hv] at this; cases this
    · exact .inl h
  · have h := validR_spec.1 hv
    have h1 := h.frames
    simp at h1
    have h2 := h.turns p (by simp)
    rw [decide_eq_true h2, decide_eq_true (by omega)]; rfl
theorem impl_add {K : Nat} {a : Recording} {p : Pose} (ha : OkRec K a) (hp : OkPose K p) (hK : a.Frames.length + 1 < K) : impl_AddFrame K a p = some (addR a p) := by
  have hfa := ha.frames
  unfold impl_AddFrame addR
  rw [Valid_eq ha, bind_of]
  cases hva : validR a
  · simp [ite2]
  · simp only [Bool.not_true, ite2_false]
    have ra := (validR_spec.1 hva).frames
    have hj := ha.add hp hK ra
    have h1 : impl_frames K [p] = some [p] := frames_eq (by simp) (fun q hq => by rw [List.mem_singleton.1 hq]; exact hp.turns) (by simp; omega)
    rw [frames_eq ha.frames ha.turns ha.framesK, bind_of, h1, bind_of, chk_pos (by simp; omega)]
    unfold impl_validRecording
    rw [Valid_eq hj, valid_add hva]
    by_cases e : (p.Turns.length : Int) = a.Bones
    · by_cases e2 : (a.Frames.length : Int) < 64
      · rw [decide_eq_true e, decide_eq_true e2, if_pos ⟨trivial, e, e2⟩]; rfl
      · rw [decide_eq_true e, decide_eq_false e2, if_neg (by omega)]; rfl
    · rw [decide_eq_false e, if_neg (fun h => e h.2.1)]; rfl


end Go.Fw
