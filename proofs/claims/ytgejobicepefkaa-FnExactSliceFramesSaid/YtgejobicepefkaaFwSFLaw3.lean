/- The laws of recordings, in plain Lean: recordings joined, a frame added. -/
import Derived.Test.YtgejobicepefkaaFwSFLaw2
namespace Go.Fw
open Go

theorem take_all {a : Recording} : ((a.Frames.drop 0).take a.Frames.length) = a.Frames := by simp
theorem l10Some_all {K : Nat} {a : Recording} (h : OkRec K a) : spec_l10Some K a 0 (a.Frames.length : Int) = some a := by
  have := l10Some_eq h 0 a.Frames.length (by omega)
  rw [take_all] at this
  exact this
theorem OkRec.join {K : Nat} {b : Int} {xs ys : List Pose} (h1 : (xs.length : Int) ≤ 1048576) (h2 : (ys.length : Int) ≤ 64) (hs : (xs.length : Int) ≤ 64) (ht1 : ∀ p ∈ xs, (p.Turns.length : Int) ≤ 1048576) (ht2 : ∀ p ∈ ys, (p.Turns.length : Int) ≤ 1048576) (k1 : xs.length + ys.length < K) (k2 : ∀ p ∈ xs, p.Turns.length < K) (k3 : ∀ p ∈ ys, p.Turns.length < K) : OkRec K (Recording.mk b (xs ++ ys)) := by
  refine ⟨by simp; omega, fun p hp => ?_, by simpa using k1, fun p hp => ?_⟩
  · rcases List.mem_append.1 hp with h | h
    · exact ht1 p h
    · exact ht2 p h
  · rcases List.mem_append.1 hp with h | h
    · exact k2 p h
    · exact k3 p h

def joinR (a b : Recording) : Recording × Bool :=
  if validR a = true ∧ validR b = true ∧ a.Bones = b.Bones ∧ (a.Frames.length : Int) + (b.Frames.length : Int) ≤ 64 then (Recording.mk a.Bones (a.Frames ++ b.Frames), true) else (Recording.mk 0 [], false)
theorem joinR_ok {K : Nat} {a b : Recording} (ha : OkRec K a) (hb : OkRec K b) (hK : a.Frames.length + b.Frames.length < K) : OkRec K (joinR a b).1 := by
  unfold joinR
  split
  · rename_i h
    exact OkRec.join ha.frames (by omega) (by omega) ha.turns hb.turns hK ha.turnsK hb.turnsK
  · exact OkRec.nil K (by omega)
theorem spec_join {K : Nat} {a b : Recording} (ha : OkRec K a) (hb : OkRec K b) : spec_JoinRecordings K a b = some (joinR a b) := by
  have hfa := ha.frames
  have hfb := hb.frames
  unfold spec_JoinRecordings joinR
  rw [l10Is_eq ha, bind_of]
  cases hva : validR a
  · simp [ite2]
  · rw [l10Is_eq hb]
    simp only [Bool.not_true, ite2_false, bind_of]
    cases hvb : validR b
    · simp [ite2]
    · simp only [Bool.not_true, ite2_false]
      have w : IntKind.i64.wrap ((a.Frames.length : Int) + (b.Frames.length : Int)) = (a.Frames.length : Int) + (b.Frames.length : Int) := wrap_in (by omega) (by omega)
      rw [w]
      by_cases e : a.Bones = b.Bones
      · have : (a.Bones != b.Bones) = false := by simp [e]
        rw [this, ite2_false]
        by_cases e2 : (a.Frames.length : Int) + (b.Frames.length : Int) ≤ 64
        · rw [decide_eq_false (by omega), if_pos ⟨trivial, trivial, e, e2⟩, bind_of, ite2_false, l10Some_all ha, bind_of, l10Some_all hb, bind_of, chk_pos (by omega)]
        · rw [decide_eq_true (by omega), if_neg (by omega)]; rfl
      · have : (a.Bones != b.Bones) = true := by simp [e]
        rw [this, if_neg (fun h => e (by first | exact h.2.2.1 | exact h.2.1))]; rfl
theorem valid_join {a b : Recording} (ha : validR a = true) (hb : validR b = true) (e : a.Bones = b.Bones) : validR (Recording.mk a.Bones (a.Frames ++ b.Frames)) = decide ((a.Frames.length : Int) + (b.Frames.length : Int) ≤ 64) := by
  rw [validR_spec] at ha hb
  cases hv : validR (Recording.mk a.Bones (a.Frames ++ b.Frames))
  · symm
    rw [decide_eq_false_iff_not]
    intro h
    have : validR (Recording.mk a.Bones (a.Frames ++ b.Frames)) = true := validR_spec.2 ⟨ha.bones, by simp; omega, fun p hp => by
      rcases List.mem_append.1 hp with h | h
      · exact ha.turns p h
      · show (p.Turns.length : Int) = a.Bones
        rw [e]; exact hb.turns p h⟩
    rw [hv] at this; cases this
  · have h := (validR_spec.1 hv).frames
    simp at h
    exact (decide_eq_true (by omega)).symm
theorem impl_join {K : Nat} {a b : Recording} (ha : OkRec K a) (hb : OkRec K b) (hK : a.Frames.length + b.Frames.length < K) : impl_JoinRecordings K a b = some (joinR a b) := by
  have hfa := ha.frames
  have hfb := hb.frames
  unfold impl_JoinRecordings joinR
  rw [Valid_eq ha, bind_of]
  cases hva : validR a
  · simp [ite2]
  · rw [Valid_eq hb]
    simp only [Bool.not_true, ite2_false, bind_of]
    cases hvb : validR b
    · simp [ite2]
    · simp only [Bool.not_true, ite2_false]
      by_cases e : a.Bones = b.Bones
      · have : (a.Bones != b.Bones) = false := by simp [e]
        have ra := (validR_spec.1 hva).frames
        have rb := (validR_spec.1 hvb).frames
        have hj : OkRec K (Recording.mk a.Bones (a.Frames ++ b.Frames)) := OkRec.join hfa rb ra ha.turns hb.turns hK ha.turnsK hb.turnsK
        rw [this, bind_of, ite2_false, frames_eq ha.frames ha.turns ha.framesK, bind_of, frames_eq hb.frames hb.turns hb.framesK, bind_of, chk_pos (by omega)]
        unfold impl_validRecording
        rw [Valid_eq hj, valid_join hva hvb e]
        by_cases e2 : (a.Frames.length : Int) + (b.Frames.length : Int) ≤ 64
        · rw [decide_eq_true e2, if_pos ⟨trivial, trivial, e, e2⟩]; rfl
        · rw [decide_eq_false e2, if_neg (by omega)]; rfl
      · have : (a.Bones != b.Bones) = true := by simp [e]
        rw [this, if_neg (fun h => e (by first | exact h.2.2.1 | exact h.2.1))]; rfl

theorem law_JoinRecordings (a b : Recording) (hl : a.Frames.length ≤ maxLen) (hl2 : ∀ p ∈ a.Frames, p.Turns.length ≤ maxLen) (gl : b.Frames.length ≤ maxLen) (gl2 : ∀ p ∈ b.Frames, p.Turns.length ≤ maxLen) : ∃ K, laws_FnExactJoinRecordings K a b = some true := by
  obtain ⟨m1, h1⟩ := list_max (fun p : Pose => p.Turns.length) a.Frames
  obtain ⟨m2, h2⟩ := list_max (fun p : Pose => p.Turns.length) b.Frames
  refine ⟨m1 + m2 + a.Frames.length + b.Frames.length + 1, ?_⟩
  generalize hKe : m1 + m2 + a.Frames.length + b.Frames.length + 1 = K
  unfold laws_FnExactJoinRecordings
  obtain ⟨r, er, e2, hr⟩ := OkRec.sized (K := K) a (s := 1048576) (by omega) (by omega) hl hl2 (by omega) (fun p hp => by have := h1 p hp; omega)
  rw [er, bind_of, ite2_dec]
  split
  · rfl
  · obtain ⟨r2, er2, e3, hr2⟩ := OkRec.sized (K := K) b (s := r) (by omega) (by omega) gl gl2 (by omega) (fun p hp => by have := h2 p hp; omega)
    rw [er2, bind_of, ite2_dec]
    split
    · rfl
    · have h := hr (by omega)
      have h' := hr2 (by omega)
      have hg := joinR_ok h h' (by omega)
      obtain ⟨m, ys, k1, k2, k3, k4, k5⟩ := h.mark (k0 := 1) (by omega) (by omega)
      obtain ⟨mm, zs, j1, j2, j3, j4, j5⟩ := h'.mark (k0 := m) (by omega) (by omega)
      obtain ⟨m', ys', l1, l2, l3, l4, l5⟩ := hg.mark (k0 := 1) (by omega) (by omega)
      have n1 : decide (mm < 0) = false := decide_eq_false (by omega)
      have n2 : decide (m' < 0) = false := decide_eq_false (by omega)
      simp only [h.to, h'.to, bind_of, spec_join h h', impl_join h h' (by omega), hg.eq, h.eq, h'.eq, Bool.not_true, ite2_false, beq_self_eq_true, k1, chk_pos k4, j1, chk_pos j4, n1, l1, chk_pos l4, l5, n2, bne_self_eq_false]

/-! AddFrame. -/
structure OkPose (K : Nat) (p : Pose) : Prop where
  turns : (p.Turns.length : Int) ≤ 1048576
  turnsK : p.Turns.length < K
theorem OkPose.to {K : Nat} {p : Pose} (h : OkPose K p) : laws_toPose K p = some p := to_Pose (by have := h.turns; omega) h.turnsK
theorem OkPose.eq {K : Nat} {p : Pose} (h : OkPose K p) : laws_eqPose K p p = some true := eq_Pose (by rw [maxLen_eq]; have := h.turns; omega) h.turnsK
theorem OkPose.mark {K : Nat} {p : Pose} (h : OkPose K p) {k0 : Int} (hk0 : 0 ≤ k0) (hk1 : k0 ≤ 8796093022208001) :
    ∃ m ys, laws_markPose K p k0 = some (m, ys) ∧ k0 ≤ m ∧ ys.length = p.Turns.length := by
  have ht := h.turns
  obtain ⟨ys, e1, e2, e3⟩ := mark_TurnS (K := K) hk0 h.turns (by omega) h.turnsK
  refine ⟨k0 + 4 * (p.Turns.length : Int), ys, ?_, by omega, e2⟩
  unfold laws_markPose
  rw [e1, bind_of, chk_pos e2, chk_pos e2]
def addR (a : Recording) (p : Pose) : Recording × Bool :=
  if validR a = true ∧ (p.Turns.length : Int) = a.Bones ∧ (a.Frames.length : Int) < 64 then (Recording.mk a.Bones (a.Frames ++ [p]), true) else (Recording.mk 0 [], false)
theorem OkRec.add {K : Nat} {a : Recording} {p : Pose} (ha : OkRec K a) (hp : OkPose K p) (hK : a.Frames.length + 1 < K) (hv : (a.Frames.length : Int) ≤ 64) : OkRec K (Recording.mk a.Bones (a.Frames ++ [p])) :=
  OkRec.join ha.frames (by simp) hv ha.turns (fun q hq => by rw [List.mem_singleton.1 hq]; exact hp.turns) (by simpa using hK) ha.turnsK (fun q hq => by rw [List.mem_singleton.1 hq]; exact hp.turnsK)
theorem addR_ok {K : Nat} {a : Recording} {p : Pose} (ha : OkRec K a) (hp : OkPose K p) (hK : a.Frames.length + 1 < K) : OkRec K (addR a p).1 := by
  unfold addR
  split
  · rename_i h
    exact ha.add hp hK (by omega)
  · exact OkRec.nil K (by omega)
theorem spec_add {K : Nat} {a : Recording} {p : Pose} (ha : OkRec K a) (hp : OkPose K p) : spec_AddFrame K a p = some (addR a p) := by
  have hfa := ha.frames
  unfold spec_AddFrame addR
  rw [l10Is_eq ha, bind_of]
  cases hva : validR a
  · simp [ite2]
  · simp only [Bool.not_true, ite2_false]
    by_cases e : (p.Turns.length : Int) = a.Bones
    · have : ((p.Turns.length : Int) != a.Bones) = false := by simp [e]
      rw [this, ite2_false]
      by_cases e2 : (a.Frames.length : Int) < 64
      · rw [decide_eq_false (by omega), if_pos ⟨trivial, e, e2⟩, bind_of, ite2_false, l10Some_all ha, bind_of, l10Copy_eq K p hp.turns, bind_of, chk_pos (by simp; omega)]
      · rw [decide_eq_true (by omega), if_neg (by omega)]; rfl
    · have : ((p.Turns.length : Int) != a.Bones) = true := by simp [e]
      rw [this, if_neg (fun h => e (by first | exact h.2.2.1 | exact h.2.1))]; rfl
theorem valid_add {a : Recording} {p : Pose} (ha : validR a = true) : validR (Recording.mk a.Bones (a.Frames ++ [p])) = (decide ((p.Turns.length : Int) = a.Bones) && decide ((a.Frames.length : Int) < 64)) := by
  have ha' := validR_spec.1 ha
  cases hv : validR (Recording.mk a.Bones (a.Frames ++ [p]))
  · symm
    rw [Bool.and_eq_false_iff, decide_eq_false_iff_not, decide_eq_false_iff_not]
    by_cases h : (p.Turns.length : Int) = a.Bones
    · right
      intro h2
      have : validR (Recording.mk a.Bones (a.Frames ++ [p])) = true := validR_spec.2 ⟨ha'.bones, by simp; omega, fun q hq => by
        rcases List.mem_append.1 hq with g | g
        · exact ha'.turns q g
        · rw [List.mem_singleton.1 g]; exact h⟩
      rw [hv] at this; cases this
    · exact .inl h
  · have h := validR_spec.1 hv
    have h1 := h.frames
    simp at h1
    have h2 := h.turns p (by simp)
    rw [decide_eq_true h2, decide_eq_true (by omega)]; rfl
theorem impl_add {K : Nat} {a : Recording} {p : Pose} (ha : OkRec K a) (hp : OkPose K p) (hK : a.Frames.length + 1 < K) : impl_AddFrame K a p = some (addR a p) := by
  have hfa := ha.frames
  unfold impl_AddFrame addR
  rw [Valid_eq ha, bind_of]
  cases hva : validR a
  · simp [ite2]
  · simp only [Bool.not_true, ite2_false]
    have ra := (validR_spec.1 hva).frames
    have hj := ha.add hp hK ra
    have h1 : impl_frames K [p] = some [p] := frames_eq (by simp) (fun q hq => by rw [List.mem_singleton.1 hq]; exact hp.turns) (by simp; omega)
    rw [frames_eq ha.frames ha.turns ha.framesK, bind_of, h1, bind_of, chk_pos (by simp; omega)]
    unfold impl_validRecording
    rw [Valid_eq hj, valid_add hva]
    by_cases e : (p.Turns.length : Int) = a.Bones
    · by_cases e2 : (a.Frames.length : Int) < 64
      · rw [decide_eq_true e, decide_eq_true e2, if_pos ⟨trivial, e, e2⟩]; rfl
      · rw [decide_eq_true e, decide_eq_false e2, if_neg (by omega)]; rfl
    · rw [decide_eq_false e, if_neg (fun h => e h.2.1)]; rfl

theorem law_AddFrame (a : Recording) (p : Pose) (hl : a.Frames.length ≤ maxLen) (hl2 : ∀ p ∈ a.Frames, p.Turns.length ≤ maxLen) (gl : p.Turns.length ≤ maxLen) : ∃ K, laws_FnExactAddFrame K a p = some true := by
  obtain ⟨m1, h1⟩ := list_max (fun p : Pose => p.Turns.length) a.Frames
  refine ⟨m1 + p.Turns.length + a.Frames.length + 2, ?_⟩
  generalize hKe : m1 + p.Turns.length + a.Frames.length + 2 = K
  unfold laws_FnExactAddFrame
  obtain ⟨r, er, e2, hr⟩ := OkRec.sized (K := K) a (s := 1048576) (by omega) (by omega) hl hl2 (by omega) (fun p hp => by have := h1 p hp; omega)
  rw [er, bind_of, ite2_dec]
  split
  · rfl
  · obtain ⟨r2, er2, e3, hr2⟩ := sz_Pose K p r (by omega) (by omega) gl
    rw [er2, bind_of, ite2_dec]
    split
    · rfl
    · have h := hr (by omega)
      have h' : OkPose K p := ⟨by have := hr2 (by omega); omega, by omega⟩
      have hg := addR_ok h h' (by omega)
      obtain ⟨m, ys, k1, k2, k3, k4, k5⟩ := h.mark (k0 := 1) (by omega) (by omega)
      obtain ⟨mm, zs, j1, j2, j4⟩ := h'.mark (k0 := m) (by omega) (by omega)
      obtain ⟨m', ys', l1, l2, l3, l4, l5⟩ := hg.mark (k0 := 1) (by omega) (by omega)
      have n1 : decide (mm < 0) = false := decide_eq_false (by omega)
      have n2 : decide (m' < 0) = false := decide_eq_false (by omega)
      simp only [h.to, h'.to, bind_of, spec_add h h', impl_add h h' (by omega), hg.eq, h.eq, h'.eq, Bool.not_true, ite2_false, beq_self_eq_true, k1, chk_pos k4, j1, chk_pos j4, n1, l1, chk_pos l4, l5, n2, bne_self_eq_false]

end Go.Fw
