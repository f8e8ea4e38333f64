/- Recordings: what is drawn, listed, compared, cut. (A template, put together by pick.py out of others.) -/
import Derived.Test.YtdddhokfmablnadFwGDSrcLaw
import Derived.Test.YtdddhokfmablnadFwGDSameLaw
import Derived.Test.YtdddhokfmablnadFwFC
namespace Go.Fw
open Go


structure OkRec (K : Nat) (a : Recording) : Prop where
  frames : (a.Frames.length : Int) ≤ 1048576
  turns : ∀ p ∈ a.Frames, (p.Turns.length : Int) ≤ 1048576
  framesK : a.Frames.length < K
  turnsK : ∀ p ∈ a.Frames, p.Turns.length < K
def validR (a : Recording) : Bool := (decide (1 ≤ a.Bones) && decide (a.Bones ≤ 12)) && (decide ((a.Frames.length : Int) ≤ 64) && a.Frames.all fun p => decide ((p.Turns.length : Int) = a.Bones))
theorem index_loop (K : Nat) (xs : List Pose) (a : Recording) (hl : (xs.length : Int) ≤ 1048576) : ∀ (k i : Nat), i ≤ xs.length → xs.length - i < k → ∃ r, slices_IndexFunc_impl_Pose_impl_Pose_l1 K xs a k (i : Int) = some r ∧ decide (r ≥ 0) = !((xs.drop i).all fun p => decide ((p.Turns.length : Int) = a.Bones)) := by
  intro k
  induction k with
  | zero => intro i _ h; omega
  | succ k ih =>
    intro i hi hk
    rw [slices_IndexFunc_impl_Pose_impl_Pose_l1, ite2_dec]
    by_cases h : i < xs.length
    · rw [if_pos (by omega), chk_pos (by omega), Int.toNat_natCast]
      have w5 : IntKind.i64.wrap ((i : Int) + 1) = ((i + 1 : Nat) : Int) := by rw [wrap_in (by omega) (by omega)]; omega
      unfold impl_ValidRecording_1
      obtain ⟨r, e1, e2⟩ := ih (i + 1) (by omega) (by omega)
      rw [w5, e1, bind_of, getD_of_lt h, List.drop_eq_getElem_cons h, List.all_cons]
      by_cases e : ((xs[i]).Turns.length : Int) = a.Bones
      · have : (((xs[i]).Turns.length : Int) != a.Bones) = false := by simp [e]
        rw [this, ite2_false, decide_eq_true e, Bool.true_and]
        exact ⟨r, rfl, e2⟩
      · have : (((xs[i]).Turns.length : Int) != a.Bones) = true := by simp [e]
        rw [this, ite2_true, decide_eq_false e, Bool.false_and]
        exact ⟨_, rfl, by simp⟩
    · rw [if_neg (by omega), List.drop_of_length_le (by omega)]
      exact ⟨-1, rfl, by simp⟩
theorem Valid_eq {K : Nat} {a : Recording} (h : OkRec K a) : impl_ValidRecording K a = some (validR a) := by
  unfold impl_ValidRecording impl_isCount validR
  rw [ite2_dec]
  by_cases e1 : 1 ≤ a.Bones
  · rw [if_pos (by omega), bind_of, bind_of, decide_eq_true e1, Bool.true_and]
    by_cases e2 : a.Bones ≤ 12
    · rw [decide_eq_true e2, Bool.true_and, ite2_true, ite2_dec]
      by_cases e : (a.Frames.length : Int) ≤ 64
      · rw [if_pos e, decide_eq_true e, Bool.true_and]
        unfold slices_ContainsFunc_impl_Pose_impl_Pose slices_IndexFunc_impl_Pose_impl_Pose
        obtain ⟨r, g1, g2⟩ := index_loop K a.Frames a h.frames K 0 (by omega) (by have := h.framesK; omega)
        rw [List.drop_zero] at g2
        rw [show slices_IndexFunc_impl_Pose_impl_Pose_l1 K a.Frames a K (0 : Int) = some r from g1]
        simp only [bind_of, g2, Bool.not_not]
      · rw [if_neg e, decide_eq_false e]; rfl
    · rw [decide_eq_false e2]; rfl
  · rw [if_neg (by omega), decide_eq_false e1]; rfl
structure Right (a : Recording) : Prop where
  bones : 1 ≤ a.Bones ∧ a.Bones ≤ 12
  frames : (a.Frames.length : Int) ≤ 64
  turns : ∀ p ∈ a.Frames, (p.Turns.length : Int) = a.Bones
theorem validR_spec {a : Recording} : validR a = true ↔ Right a := by
  unfold validR
  simp only [Bool.and_eq_true, decide_eq_true_eq, List.all_eq_true]
  exact ⟨fun h => ⟨h.1, h.2.1, h.2.2⟩, fun h => ⟨h.1, h.2, h.3⟩⟩
theorem Clone_eq (K : Nat) (a : List Turn) (h : (a.length : Int) ≤ 1048576) : slices_Clone_impl_Turn_impl_Turn K a = some a := by
  unfold slices_Clone_impl_Turn_impl_Turn
  rw [chk_pos (by simp; omega)]; rfl
theorem frames_eq {K : Nat} {a : List Pose} (hl : (a.length : Int) ≤ 1048576) (ht : ∀ p ∈ a, (p.Turns.length : Int) ≤ 1048576) (hK : a.length < K) : impl_frames K a = some a := by
  unfold impl_frames
  rw [chk_pos (by simp; omega)]
  refine copy_loop a (fun p => (slices_Clone_impl_Turn_impl_Turn K p.Turns).bind fun v => some (Pose.mk p.Root v)) (fun x hx => ?_) (by rw [maxLen_eq]; omega) (impl_frames_l1 K a) (fun k i ys => ?_) K 0 _ (by omega) (by simp) (by intro j hj; omega) (by omega)
  · simp only [Clone_eq K _ (ht x hx), bind_of]
  · rw [impl_frames_l1]
    cases slices_Clone_impl_Turn_impl_Turn K ((a.getD i.toNat default).Turns) <;> rfl
theorem OkRec.nil (K : Nat) (hK : 0 < K) : OkRec K (Recording.mk 0 []) := ⟨by simp, by simp, by simpa using hK, by simp⟩
theorem OkRec.part {K : Nat} {a : Recording} (h : OkRec K a) (s n : Nat) : OkRec K (Recording.mk a.Bones ((a.Frames.drop s).take n)) := by
  have hm : ∀ p ∈ (a.Frames.drop s).take n, p ∈ a.Frames := fun p hp => List.mem_of_mem_drop (List.mem_of_mem_take hp)
  have hl : ((a.Frames.drop s).take n).length ≤ a.Frames.length := by rw [List.length_take, List.length_drop]; omega
  have := h.frames
  have := h.framesK
  exact ⟨by show (((a.Frames.drop s).take n).length : Int) ≤ _; omega, fun p hp => h.turns p (hm p hp), by show ((a.Frames.drop s).take n).length < _; omega, fun p hp => h.turnsK p (hm p hp)⟩
def sliceR (a : Recording) (s n : Int) : Recording × Bool :=
  if validR a = true ∧ 0 ≤ s ∧ s ≤ (a.Frames.length : Int) ∧ 0 ≤ n ∧ n ≤ (a.Frames.length : Int) - s then (Recording.mk a.Bones ((a.Frames.drop s.toNat).take n.toNat), true) else (Recording.mk 0 [], false)
theorem sliceR_ok {K : Nat} {a : Recording} (h : OkRec K a) (s n : Int) : OkRec K (sliceR a s n).1 := by
  unfold sliceR
  split
  · exact h.part _ _
  · exact OkRec.nil K (by have := h.framesK; omega)
theorem impl_slice {K : Nat} {a : Recording} (h : OkRec K a) (s n : Int) : impl_SliceFrames K a s n = some (sliceR a s n) := by
  have hf := h.frames
  have hfK := h.framesK
  unfold impl_SliceFrames sliceR
  rw [Valid_eq h, bind_of]
  cases hv : validR a
  · simp [ite2]
  · simp only [Bool.not_true, ite2_false, ite2_dec]
    by_cases h1 : s < 0
    · rw [if_pos h1, if_neg (by omega)]; rfl
    · rw [if_neg h1]
      by_cases h2 : s > (a.Frames.length : Int)
      · rw [if_pos h2, if_neg (by omega)]; rfl
      · rw [if_neg h2]
        have w : IntKind.i64.wrap ((a.Frames.length : Int) - s) = (a.Frames.length : Int) - s := wrap_in (by omega) (by omega)
        rw [w]
        by_cases h3 : n < 0
        · rw [if_pos h3, if_neg (by omega)]; rfl
        · rw [if_neg h3]
          by_cases h4 : n > (a.Frames.length : Int) - s
          · rw [decide_eq_true h4, if_neg (by omega)]; rfl
          · have w2 : IntKind.i64.wrap (s + n) = s + n := wrap_in (by omega) (by omega)
            rw [decide_eq_false h4, if_pos ⟨trivial, by omega, by omega, by omega, by omega⟩, bind_of, ite2_false, w2, chk_pos (by omega)]
            have e : (s + n).toNat - s.toNat = n.toNat := by omega
            have hp := h.part s.toNat n.toNat
            rw [e, frames_eq hp.frames hp.turns hp.framesK]
            rfl

theorem ite2_some {α : Type} (b : Bool) (x y : α) : ite2 b (some x) (some y) = some (if b = true then x else y) := by cases b <;> rfl
theorem sqrt_spec (K : Nat) (x : F32) : spec_l01Sqrt K x = some (Fl.cv .f64 .f32 (Fl.cv .f32 .f64 x).sqrt) := by
  unfold spec_l01Sqrt math_Sqrt math_sqrt spec_l01Narrow
  simp only [bind_of, chk_pos (narrow_root x)]
theorem mend_some (K : Nat) (a : Turn) : ∃ t, spec_l02Mend K a = some t := by
  unfold spec_l02Mend spec_l02Inner spec_l01Finite spec_l02No
  simp only [bind_of, sqrt_spec, ite2_some]
  exact ⟨_, rfl⟩
theorem exact_dr {K : Nat} {c : List Int} (hc : Byt c) (at_ sd : Int) : Dr at_ 2 (spec_l02DrawExact K (l00Src.mk c at_ sd)) (fun _ => True) := by
  unfold spec_l02DrawExact
  refine Dr.bind (c2 := 0) (pick_dr hc at_ sd 24) (by decide) fun r a1 s1 _ => ?_
  have o : ∀ t : Turn, Dr a1 0 (some (t, a1, s1)) (fun _ => True) := fun t => .of trivial (by decide) rfl
  exact .ite (fun _ => .ite (fun _ => .chk (by decide) (.ite (fun _ => o _) fun _ => .ite (fun _ => o _) fun _ => .ite (fun _ => o _) fun _ => o _)) fun _ => .chk (by decide) (.ite (fun _ => o _) fun _ => .ite (fun _ => o _) fun _ => .ite (fun _ => o _) fun _ => o _)) fun _ => .chk (by decide) (.chk (by decide) (.chk (by decide) (o _)))
theorem turn_dr {K : Nat} {c : List Int} (hc : Byt c) (at_ sd : Int) : Dr at_ 10 (spec_l02DrawTurn K (l00Src.mk c at_ sd)) (fun _ => True) := by
  unfold spec_l02DrawTurn
  refine Dr.bind (c1 := 2) (c2 := 8) (one_dr hc at_ sd 2) (by decide) fun r a1 s1 _ => .ite (fun _ => ?_) fun _ => ?_
  · exact Dr.weak (c := 2 + 0) (P := fun _ => True) (Dr.bind (exact_dr hc a1 s1) (by decide) fun r2 a2 s2 _ => .of trivial (by decide) rfl) (by decide) (fun _ h => h)
  · refine Dr.bind (c1 := 2) (c2 := 6) (small_dr hc a1 s1) (by decide) fun r2 a2 s2 _ => Dr.bind (c1 := 2) (c2 := 4) (small_dr hc a2 s2) (by decide) fun r3 a3 s3 _ => Dr.bind (c1 := 2) (c2 := 2) (small_dr hc a3 s3) (by decide) fun r4 a4 s4 _ => Dr.bind (c1 := 2) (c2 := 0) (small_dr hc a4 s4) (by decide) fun r5 a5 s5 _ => ?_
    obtain ⟨t, ht⟩ := mend_some K (Turn.mk r2 r3 r4 r5)
    simp only [ht, bind_of]
    exact .of trivial (by decide) rfl
theorem pose_loop {K : Nat} {c : List Int} (hc : Byt c) (at_ sd : Int) (v1 : Vector × Int × Int) : ∀ (k m : Nat) (a s : Int) (xs : List Turn), m < k → xs.length + m ≤ 12 →
    Dr a (10 * (m : Int)) (spec_l03DrawPose_l1 K (l00Src.mk c at_ sd) v1 k (m : Int) a s xs) (fun p => p.Turns.length = xs.length + m) := by
  intro k
  induction k with
  | zero => intro m a s xs h; omega
  | succ k ih =>
    intro m a s xs hk hl
    rw [spec_l03DrawPose_l1]
    cases m with
    | zero => exact .ite (fun h => by have := of_decide_eq_true h; omega) fun _ => .of (by simp) (by decide) rfl
    | succ m =>
      refine .ite (fun _ => ?_) (fun h => by have := of_decide_eq_false h; omega)
      have e : (10 * ((m + 1 : Nat) : Int)) = 10 + 10 * (m : Int) := by omega
      rw [e]
      refine Dr.bind (turn_dr hc a s) (by omega) fun r a1 s1 _ => ?_
      have w : IntKind.i64.wrap (((m + 1 : Nat) : Int) - 1) = (m : Int) := by rw [wrap_in (by omega) (by omega)]; omega
      show Dr a1 _ (Go.Fw.chk ((xs.length + [r].length) * 16 ≤ 140737488355328) (spec_l03DrawPose_l1 K (l00Src.mk c at_ sd) v1 k (IntKind.i64.wrap (((m + 1 : Nat) : Int) - 1)) a1 s1 (xs ++ [r]))) _
      rw [w]
      refine .chk (by simp; omega) (Dr.weak (ih m a1 s1 (xs ++ [r]) (by omega) (by simp; omega)) (Int.le_refl _) fun p hp => ?_)
      rw [hp]; simp; omega
theorem pose_dr {K : Nat} {c : List Int} (hc : Byt c) (at_ sd : Int) (n : Nat) (hn : n ≤ 12) (hK : n < K) : Dr at_ (18 + 10 * (n : Int)) (spec_l03DrawPose K (l00Src.mk c at_ sd) (n : Int)) (fun p => p.Turns.length = n) := by
  unfold spec_l03DrawPose
  refine Dr.bind (vector_dr hc at_ sd) (by omega) fun r a1 s1 _ => ?_
  exact Dr.weak (pose_loop hc at_ sd (r, a1, s1) K n a1 s1 [] hK (by simpa using hn)) (Int.le_refl _) fun p hp => by simpa using hp
/-! Poses as lists of numbers. -/
def numT (t : Turn) : List F32 := [t.W, t.X, t.Y, t.Z]
def numsL (p : Pose) : List F32 := [p.Root.X, p.Root.Y, p.Root.Z] ++ p.Turns.flatMap numT
theorem flat_len : ∀ (l : List Turn), (l.flatMap numT).length = 4 * l.length
  | [] => rfl
  | t :: l => by rw [List.flatMap_cons, List.length_append, flat_len l]; simp [numT]; omega
theorem numsL_len (p : Pose) : (numsL p).length = 3 + 4 * p.Turns.length := by unfold numsL; rw [List.length_append, flat_len]; rfl
theorem flat_succ {l : List Turn} {i : Nat} (h : i < l.length) : (l.take (i + 1)).flatMap numT = (l.take i).flatMap numT ++ numT (l.getD i default) := by
  rw [List.take_succ_eq_append_getElem h, List.flatMap_append, getD_of_lt h]; simp
theorem numbers_spec {K : Nat} {p : Pose} (hp : p.Turns.length ≤ 12) (hK : 12 < K) : spec_l10Numbers K p = some (numsL p) := by
  unfold spec_l10Numbers
  have := fold_loop (σ := List F32) p.Turns.length (fun i => [p.Root.X, p.Root.Y, p.Root.Z] ++ (p.Turns.take i).flatMap numT) (numsL p) (spec_l10Numbers_l1 K p)
    (fun k i h1 h2 => by
      have : i = p.Turns.length := by omega
      subst this
      rw [spec_l10Numbers_l1, ite2_dec, if_neg (by omega), List.take_length]; rfl)
    (fun k i hi => by
      have hc : (i : Int) < (p.Turns.length : Int) := by omega
      have hl : ([p.Root.X, p.Root.Y, p.Root.Z] ++ (p.Turns.take i).flatMap numT).length ≤ 51 := by
        rw [List.length_append, flat_len, List.length_take]; simp; omega
      rw [spec_l10Numbers_l1, ite2_dec, if_pos hc, chk_pos (by omega), Int.toNat_natCast]
      unfold spec_l06List
      rw [bind_of, chk_pos (by simp only [List.length_cons, List.length_nil] at hl ⊢; omega), wrap_nat1 (by omega), flat_succ hi, ← List.append_assoc]
      rfl) K 0 (by omega) (by omega)
  simpa using this
def tnL (l : List F32) (i : Nat) : Turn := Turn.mk (l.getD (3 + 4 * i) default) (l.getD (3 + 4 * i + 1) default) (l.getD (3 + 4 * i + 2) default) (l.getD (3 + 4 * i + 3) default)
def poseL (l : List F32) (n : Nat) : Pose := Pose.mk (Vector.mk (l.getD 0 default) (l.getD 1 default) (l.getD 2 default)) ((List.range n).map (tnL l))
theorem posed_spec {K n : Nat} {l : List F32} (hl : l.length = 3 + 4 * n) (hn : n ≤ 12) (hK : 12 < K) : spec_l10Pose K l = some (poseL l n) := by
  have loop : ∀ (k i : Nat), i ≤ n → n - i < k → spec_l10Pose_l1 K l k ((3 + 4 * i : Nat) : Int) ((List.range i).map (tnL l)) = some (poseL l n) := by
    intro k
    induction k with
    | zero => intro i _ h; omega
    | succ k ih =>
      intro i hi hk
      rw [spec_l10Pose_l1, ite2_dec]
      by_cases h : i < n
      · have w1 : IntKind.i64.wrap (((3 + 4 * i : Nat) : Int) + 1) = ((3 + 4 * i + 1 : Nat) : Int) := by rw [wrap_in (by omega) (by omega)]; omega
        have w2 : IntKind.i64.wrap (((3 + 4 * i : Nat) : Int) + 2) = ((3 + 4 * i + 2 : Nat) : Int) := by rw [wrap_in (by omega) (by omega)]; omega
        have w3 : IntKind.i64.wrap (((3 + 4 * i : Nat) : Int) + 3) = ((3 + 4 * i + 3 : Nat) : Int) := by rw [wrap_in (by omega) (by omega)]; omega
        have w4 : IntKind.i64.wrap (((3 + 4 * i : Nat) : Int) + 4) = ((3 + 4 * (i + 1) : Nat) : Int) := by rw [wrap_in (by omega) (by omega)]; omega
        rw [if_pos (by omega)]
        simp only [w1, w2, w3, w4, Int.toNat_natCast]
        rw [chk_pos (by omega), chk_pos (by omega), chk_pos (by omega), chk_pos (by omega), chk_pos (by simp; omega)]
        have := ih (i + 1) h (by omega)
        rw [List.range_succ, List.map_append] at this
        exact this
      · have : i = n := by omega
        subst this
        rw [if_neg (by omega)]
        rfl
  unfold spec_l10Pose
  rw [chk_pos (by omega), chk_pos (by omega), chk_pos (by omega)]
  exact loop K 0 (by omega) (by omega)
theorem poseL_len (l : List F32) (n : Nat) : (poseL l n).Turns.length = n := by simp [poseL]
/-! Recordings that are drawn. -/
theorem mix_loop {K : Nat} {c : List Int} (hc : Byt c) (at_ sd : Int) : ∀ (k i : Nat) (a s : Int) (l : List F32), i ≤ l.length → l.length - i < k → l.length ≤ 60 → 0 ≤ a → a + 12 * ((l.length : Int) - i) ≤ 4611686018427387904 →
    ∃ a' s' l', spec_l10DrawOk_l4 K (l00Src.mk c at_ sd) k (i : Int) a s l = some (a', s', l') ∧ l'.length = l.length ∧ 0 ≤ a' ∧ a' ≤ a + 12 * ((l.length : Int) - i) := by
  intro k
  induction k with
  | zero => intro i a s l _ h; omega
  | succ k ih =>
    intro i a s l hi hk hl ha hM
    rw [spec_l10DrawOk_l4, ite2_dec]
    by_cases h : i < l.length
    · rw [if_pos (by omega), wrap_nat1 (by omega)]
      obtain ⟨r, a1, s1, e1, _, h1, h2⟩ := one_dr (K := K) hc a s 3 ha (by omega)
      have e1' : spec_l00Src_one K (l00Src.mk (l00Src.mk c at_ sd).code a s) 3 = some (r, a1, s1) := e1
      rw [e1', bind_of]
      cases r
      · rw [ite2_false]
        obtain ⟨a', s', l', q1, q2, q3, q4⟩ := ih (i + 1) a1 s1 l (by omega) (by omega) hl h1 (by omega)
        exact ⟨a', s', l', q1, q2, q3, by omega⟩
      · obtain ⟨f, a2, s2, e2, _, h3, h4⟩ := float_dr (K := K) hc a1 s1 h1 (by omega)
        have e2' : spec_l01DrawFloat K (l00Src.mk (l00Src.mk c at_ sd).code a1 s1) = some (f, a2, s2) := e2
        rw [ite2_true]
        show ∃ a' s' l', (spec_l01DrawFloat K (l00Src.mk (l00Src.mk c at_ sd).code a1 s1)).bind _ = some (a', s', l') ∧ _
        rw [e2', bind_of, chk_pos (by omega), Int.toNat_natCast]
        have hls : (l.set i f).length = l.length := List.length_set
        obtain ⟨a', s', l', q1, q2, q3, q4⟩ := ih (i + 1) a2 s2 (l.set i f) (by omega) (by omega) (by omega) h3 (by rw [hls]; omega)
        rw [hls] at q2 q4
        exact ⟨a', s', l', q1, q2, q3, by omega⟩
    · rw [if_neg (by omega)]
      exact ⟨a, s, l, rfl, rfl, ha, by omega⟩
/-- What a drawn recording is like. -/
structure Drawn (r : Recording) : Prop where
  bones : 1 ≤ r.Bones ∧ r.Bones ≤ 3
  frames : r.Frames.length ≤ 4
  turns : ∀ p ∈ r.Frames, (p.Turns.length : Int) = r.Bones
theorem draw_loop {K : Nat} (hK : 100 < K) {c : List Int} (hc : Byt c) (at_ sd : Int) (v1 : Int × Int × Int) (n : Nat) (hv : 1 + v1.1 = (n : Int)) (hn : 1 ≤ n ∧ n ≤ 3) : ∀ (k m : Nat) (a s : Int) (xs : List Pose) (ts : List Turn) (x y z : F32), m < k → xs.length + m ≤ 4 → ts.length = n → (∀ p ∈ xs, p.Turns.length = n) →
    Dr a (300 * (m : Int)) (spec_l10DrawOk_l3 K (l00Src.mk c at_ sd) v1 k (m : Int) a s xs ts x y z) (fun r => Drawn r) := by
  intro k
  induction k with
  | zero => intro m a s xs ts x y z h; omega
  | succ k ih =>
    intro m a s xs ts x y z hk hl ht hx
    have wb : IntKind.i64.wrap (1 + v1.1) = (n : Int) := by rw [hv, wrap_in (by omega) (by omega)]
    rw [spec_l10DrawOk_l3, wb]
    cases m with
    | zero =>
      refine .ite (fun h => by have := of_decide_eq_true h; omega) fun _ => .of ⟨⟨?_, ?_⟩, ?_, ?_⟩ (by decide) rfl
      · show 1 ≤ (n : Int); omega
      · show (n : Int) ≤ 3; omega
      · show xs.length ≤ 4; omega
      · intro p hp
        show (p.Turns.length : Int) = (n : Int)
        rw [hx p hp]
    | succ m =>
      refine .ite (fun _ => ?_) (fun h => by have := of_decide_eq_false h; omega)
      intro h0 hM
      have w : IntKind.i64.wrap (((m + 1 : Nat) : Int) - 1) = (m : Int) := by rw [wrap_in (by omega) (by omega)]; omega
      have hnl := numsL_len (Pose.mk (Vector.mk x y z) ts)
      have hnl' : (numsL (Pose.mk (Vector.mk x y z) ts)).length = 3 + 4 * n := by rw [hnl]; show 3 + 4 * ts.length = _; rw [ht]
      rw [numbers_spec (show (Pose.mk (Vector.mk x y z) ts).Turns.length ≤ 12 by show ts.length ≤ 12; omega) (by omega), bind_of]
      obtain ⟨a1, s1, l1, e1, q1, q2, q3⟩ := mix_loop (K := K) hc at_ sd K 0 a s (numsL (Pose.mk (Vector.mk x y z) ts)) (Nat.zero_le _) (by omega) (by omega) h0 (by omega)
      rw [show ((0 : Nat) : Int) = 0 from rfl] at e1
      rw [e1, bind_of]
      have hp2 := posed_spec (K := K) (n := n) (l := l1) (by omega) (by omega) (by omega)
      simp only [hp2, bind_of]
      obtain ⟨r, a2, s2, e2, _, h3, h4⟩ := one_dr (K := K) hc a1 s1 3 q2 (by omega)
      have e2' : spec_l00Src_one K (l00Src.mk (l00Src.mk c at_ sd).code a1 s1) 3 = some (r, a2, s2) := e2
      rw [e2', bind_of]
      have hcopy : ∀ p : Pose, p.Turns.length = n → spec_l10Copy K p = some p := fun p hp => by
        unfold spec_l10Copy
        rw [chk_pos (by simp; omega)]; rfl
      cases r
      · rw [ite2_false, hcopy _ (poseL_len l1 n), bind_of, chk_pos (by simp; omega), w]
        obtain ⟨rr, a', s', g1, g2, g3, g4⟩ := ih m a2 s2 (xs ++ [poseL l1 n]) (poseL l1 n).Turns (poseL l1 n).Root.X (poseL l1 n).Root.Y (poseL l1 n).Root.Z (by omega) (by simp; omega) (poseL_len l1 n) (fun p hp => by
          rcases List.mem_append.1 hp with hp | hp
          · exact hx p hp
          · rw [List.mem_singleton.1 hp]; exact poseL_len l1 n) h3 (by omega)
        exact ⟨rr, a', s', g1, g2, g3, by omega⟩
      · obtain ⟨p, a3, s3, e3, hp3, h5, h6⟩ := pose_dr (K := K) hc a2 s2 n (by omega) (by omega) h3 (by omega)
        have e3' : spec_l03DrawPose K (l00Src.mk (l00Src.mk c at_ sd).code a2 s2) (n : Int) = some (p, a3, s3) := e3
        rw [ite2_true]
        show ∃ r at' sd', (spec_l03DrawPose K (l00Src.mk (l00Src.mk c at_ sd).code a2 s2) (n : Int)).bind _ = some (r, at', sd') ∧ _
        rw [e3', bind_of]
        simp only [hcopy p hp3, bind_of, w]
        rw [chk_pos (by simp; omega)]
        obtain ⟨rr, a', s', g1, g2, g3, g4⟩ := ih m a3 s3 (xs ++ [p]) p.Turns p.Root.X p.Root.Y p.Root.Z (by omega) (by simp; omega) hp3 (fun q hq => by
          rcases List.mem_append.1 hq with hq | hq
          · exact hx q hq
          · rw [List.mem_singleton.1 hq]; exact hp3) h5 (by omega)
        exact ⟨rr, a', s', g1, g2, g3, by omega⟩
theorem recording_drawn {K : Nat} (hK : 100 < K) {c : List Int} (hc : Byt c) : ∃ r, spec_R8Recording K c = some r ∧ Drawn r := by
  have key : Dr 0 (2 + (60 + (2 + 1300))) (spec_l10DrawOk K (l00Src.mk c 0 0)) (fun r => Drawn r) := by
    unfold spec_l10DrawOk
    refine Dr.bind (pick_dr hc 0 0 3) (by decide) fun r a1 s1 hr => ?_
    obtain ⟨q, hq⟩ : ∃ q : Nat, 1 + r = (q : Int) := ⟨(1 + r).toNat, by omega⟩
    have w : IntKind.i64.wrap (1 + r) = (q : Int) := by rw [hq, wrap_in (by omega) (by omega)]
    show Dr a1 _ ((spec_l03DrawPose K (l00Src.mk c a1 s1) (IntKind.i64.wrap (1 + r))).bind _) _
    rw [w]
    refine Dr.bind (Dr.weak (pose_dr hc a1 s1 q (by omega) (by omega)) (by omega) fun _ h => h) (by decide) fun p a2 s2 hp => ?_
    refine Dr.bind (pick_dr hc a2 s2 5) (by decide) fun m a3 s3 hm => ?_
    obtain ⟨m', rfl⟩ : ∃ m' : Nat, m = (m' : Int) := ⟨m.toNat, by omega⟩
    exact Dr.weak (draw_loop hK hc 0 0 (r, a1, s1) q hq (by omega) K m' a3 s3 [] p.Turns _ _ _ (by omega) (by simp; omega) hp (by simp)) (by omega) fun _ h => h
  obtain ⟨r, a', s', h1, h2, _, _⟩ := key (Int.le_refl _) (by decide)
  refine ⟨r, ?_, h2⟩
  unfold spec_R8Recording
  rw [h1]; rfl

theorem app_l {α : Type} {a b : List α} {i : Nat} {d : α} (h : i < a.length) : (a ++ b).getD i d = a.getD i d := by
  rw [List.getD_eq_getElem?_getD, List.getElem?_append_left h, ← List.getD_eq_getElem?_getD]
theorem app_r {α : Type} {a b : List α} {i : Nat} {d : α} (h : a.length ≤ i) : (a ++ b).getD i d = b.getD (i - a.length) d := by
  rw [List.getD_eq_getElem?_getD, List.getElem?_append_right h, ← List.getD_eq_getElem?_getD]
theorem same_refl (K : Nat) (a : F32) : impl_SameNumber K a a = some true := by rw [same_impl]; simp
theorem sameV_refl (K : Nat) (a : Vector) : impl_SameVector K a a = some true := by
  unfold impl_SameVector
  simp only [same_refl, bind_of, ite2_true]
theorem sameT_refl (K : Nat) (a : Turn) : impl_SameTurn K a a = some true := by
  unfold impl_SameTurn
  simp only [same_refl, bind_of, ite2_true]
theorem equalT_refl {K : Nat} {a : List Turn} (hl : a.length ≤ 1048576) (hK : a.length < K) : slices_EqualFunc_impl_Turn_impl_Turn_impl_Turn_impl_Turn K a a = some true := by
  unfold slices_EqualFunc_impl_Turn_impl_Turn_impl_Turn_impl_Turn
  rw [show ((a.length : Int) != (a.length : Int)) = false by simp, ite2_false]
  exact cnt_loop a.length true (slices_EqualFunc_impl_Turn_impl_Turn_impl_Turn_impl_Turn_l1 K a a) (fun k i h => by rw [slices_EqualFunc_impl_Turn_impl_Turn_impl_Turn_impl_Turn_l1, ite2_dec, if_neg (by omega)]) (fun k i h => by
    rw [slices_EqualFunc_impl_Turn_impl_Turn_impl_Turn_impl_Turn_l1, ite2_dec, if_pos (by omega), chk_pos (by omega), chk_pos (by omega), sameT_refl, bind_of, wrap_nat1 (by omega)]
    rfl) K 0 (by omega)
theorem sameP_refl {K : Nat} {p : Pose} (hl : p.Turns.length ≤ 1048576) (hK : p.Turns.length < K) : impl_SamePose K p p = some true := by
  unfold impl_SamePose
  simp only [sameV_refl, equalT_refl hl hK, bind_of, ite2_true]
theorem equalP_refl {K : Nat} {a : List Pose} (hl : a.length ≤ 1048576) (hK : a.length < K) (h2 : ∀ p ∈ a, p.Turns.length ≤ 1048576 ∧ p.Turns.length < K) : slices_EqualFunc_impl_Pose_impl_Pose_impl_Pose_impl_Pose K a a = some true := by
  unfold slices_EqualFunc_impl_Pose_impl_Pose_impl_Pose_impl_Pose
  rw [show ((a.length : Int) != (a.length : Int)) = false by simp, ite2_false]
  exact cnt_loop a.length true (slices_EqualFunc_impl_Pose_impl_Pose_impl_Pose_impl_Pose_l1 K a a) (fun k i h => by rw [slices_EqualFunc_impl_Pose_impl_Pose_impl_Pose_impl_Pose_l1, ite2_dec, if_neg (by omega)]) (fun k i h => by
    have hm := h2 _ (getD_mem (xs := a) (i := i) h)
    rw [slices_EqualFunc_impl_Pose_impl_Pose_impl_Pose_impl_Pose_l1, ite2_dec, if_pos (by omega), chk_pos (by omega), chk_pos (by omega), Int.toNat_natCast, sameP_refl hm.1 hm.2, bind_of, wrap_nat1 (by omega)]
    rfl) K 0 (by omega)
theorem drawn_right {r : Recording} (h : Drawn r) : validR r = true := validR_spec.2 ⟨⟨h.bones.1, by have := h.bones; omega⟩, by have := h.frames; omega, h.turns⟩
theorem drawn_turns {r : Recording} (h : Drawn r) {p : Pose} (hp : p ∈ r.Frames) : 1 ≤ p.Turns.length ∧ p.Turns.length ≤ 3 := by
  have := h.turns p hp
  have := h.bones
  omega
theorem drawn_ok {K : Nat} (hK : 100 < K) {r : Recording} (h : Drawn r) : OkRec K r := ⟨by have := h.frames; omega, fun p hp => by have := drawn_turns h hp; omega, by have := h.frames; omega, fun p hp => by have := drawn_turns h hp; omega⟩
theorem sameR_refl {K : Nat} (hK : 100 < K) {r : Recording} (h : Drawn r) : impl_SameRecording K r r = some true := by
  unfold impl_SameRecording
  have hf := h.frames
  rw [Valid_eq (drawn_ok hK h), drawn_right h, equalP_refl (by omega) (by omega) (fun p hp => by have := drawn_turns h hp; omega)]
  simp only [bind_of, ite2_true, beq_self_eq_true]
theorem listed_eq {K : Nat} {p : Pose} (hp : p.Turns.length ≤ 12) (hK : 12 < K) : impl_listed K p = some (numsL p) := by
  unfold impl_listed
  have := fold_loop (σ := List F32) p.Turns.length (fun i => [p.Root.X, p.Root.Y, p.Root.Z] ++ (p.Turns.take i).flatMap numT) (numsL p) (impl_listed_l1 K p)
    (fun k i h1 h2 => by
      have : i = p.Turns.length := by omega
      subst this
      rw [impl_listed_l1, ite2_dec, if_neg (by omega), List.take_length]; rfl)
    (fun k i hi => by
      have hc : (i : Int) < (p.Turns.length : Int) := by omega
      have hl : ([p.Root.X, p.Root.Y, p.Root.Z] ++ (p.Turns.take i).flatMap numT).length ≤ 51 := by
        rw [List.length_append, flat_len, List.length_take]; simp; omega
      rw [impl_listed_l1, ite2_dec, if_pos hc, chk_pos (by omega), Int.toNat_natCast]
      rw [chk_pos (by simp only [List.length_cons, List.length_nil] at hl ⊢; omega), wrap_nat1 (by omega), flat_succ hi, ← List.append_assoc]
      rfl) K 0 (by omega) (by omega)
  simpa using this
theorem posed_impl {K n : Nat} {l : List F32} (hl : l.length = 3 + 4 * n) (h1 : 1 ≤ n) (hn : n ≤ 12) (hK : 12 < K) : impl_PoseOfNumbers K l = some (poseL l n, true) := by
  have loop : ∀ (k i : Nat), i ≤ n → n - i < k → impl_PoseOfNumbers_l1 K l k ((3 + 4 * i : Nat) : Int) ((List.range i).map (tnL l)) = some (poseL l n, true) := by
    intro k
    induction k with
    | zero => intro i _ h; omega
    | succ k ih =>
      intro i hi hk
      rw [impl_PoseOfNumbers_l1, ite2_dec]
      by_cases h : i < n
      · have w1 : IntKind.i64.wrap (((3 + 4 * i : Nat) : Int) + 1) = ((3 + 4 * i + 1 : Nat) : Int) := by rw [wrap_in (by omega) (by omega)]; omega
        have w2 : IntKind.i64.wrap (((3 + 4 * i : Nat) : Int) + 2) = ((3 + 4 * i + 2 : Nat) : Int) := by rw [wrap_in (by omega) (by omega)]; omega
        have w3 : IntKind.i64.wrap (((3 + 4 * i : Nat) : Int) + 3) = ((3 + 4 * i + 3 : Nat) : Int) := by rw [wrap_in (by omega) (by omega)]; omega
        have w4 : IntKind.i64.wrap (((3 + 4 * i : Nat) : Int) + 4) = ((3 + 4 * (i + 1) : Nat) : Int) := by rw [wrap_in (by omega) (by omega)]; omega
        rw [if_pos (by omega)]
        simp only [w1, w2, w3, w4, Int.toNat_natCast]
        rw [chk_pos (by omega), chk_pos (by omega), chk_pos (by omega), chk_pos (by omega), chk_pos (by simp; omega)]
        have := ih (i + 1) h (by omega)
        rw [List.range_succ, List.map_append] at this
        exact this
      · have : i = n := by omega
        subst this
        rw [if_neg (by omega)]
        rfl
  have w : IntKind.i64.wrap ((l.length : Int) - 3) = ((4 * n : Nat) : Int) := by rw [wrap_in (by omega) (by omega)]; omega
  have t1 : (((4 * n : Nat) : Int).tmod 4 != 0) = false := by
    rw [Int.tmod_eq_emod_of_nonneg (by omega)]
    have : ((4 * n : Nat) : Int) % 4 = 0 := by omega
    rw [this]; rfl
  have t2 : IntKind.i64.wrap (((4 * n : Nat) : Int).tdiv 4) = (n : Int) := by
    rw [Int.tdiv_eq_ediv_of_nonneg (by omega), wrap_in (by omega) (by omega)]; omega
  unfold impl_PoseOfNumbers
  rw [w, t1, t2, decide_eq_false (show ¬ ((l.length : Int) < 7) by omega), decide_eq_false (show ¬ ((n : Int) > 12) by omega), ite2_false, chk_pos (by decide), ite2_false, bind_of, ite2_false, chk_pos (by omega), chk_pos (by omega), chk_pos (by omega)]
  exact loop K 0 (by omega) (by omega)
theorem flat_getD : ∀ (l : List Turn) (i j : Nat), i < l.length → j < 4 → (l.flatMap numT).getD (4 * i + j) default = (numT (l.getD i default)).getD j default
  | [], i, j, h, _ => by simp at h
  | t :: l, 0, j, _, hj => by
    rw [List.flatMap_cons, app_l (by simp [numT]; omega)]
    simp
  | t :: l, i + 1, j, h, hj => by
    rw [List.flatMap_cons, app_r (by simp [numT]; omega)]
    have e : 4 * (i + 1) + j - (numT t).length = 4 * i + j := by simp [numT]; omega
    rw [e, flat_getD l i j (by simpa using h) hj]
    rfl
theorem pose_back (p : Pose) : poseL (numsL p) p.Turns.length = p := by
  have hg : ∀ i, i < p.Turns.length → ∀ j, j < 4 → (numsL p).getD (3 + (4 * i + j)) default = (numT (p.Turns.getD i default)).getD j default := by
    intro i hi j hj
    unfold numsL
    rw [app_r (by simp)]
    have e : 3 + (4 * i + j) - [p.Root.X, p.Root.Y, p.Root.Z].length = 4 * i + j := by simp
    rw [e, flat_getD _ i j hi hj]
  have ht : (List.range p.Turns.length).map (tnL (numsL p)) = p.Turns := by
    apply List.ext_getElem (by simp)
    intro i h1 h2
    have hi : i < p.Turns.length := h2
    simp only [List.getElem_map, List.getElem_range]
    unfold tnL
    have g0 := hg i hi 0 (by decide)
    have g1 := hg i hi 1 (by decide)
    have g2 := hg i hi 2 (by decide)
    have g3 := hg i hi 3 (by decide)
    rw [show 3 + (4 * i + 0) = 3 + 4 * i by omega] at g0
    rw [show 3 + (4 * i + 1) = 3 + 4 * i + 1 by omega] at g1
    rw [show 3 + (4 * i + 2) = 3 + 4 * i + 2 by omega] at g2
    rw [show 3 + (4 * i + 3) = 3 + 4 * i + 3 by omega] at g3
    rw [g0, g1, g2, g3, getD_of_lt hi]
    rfl
  unfold poseL
  rw [ht]
  rfl
/-! What is changed. -/
def diff (a b : List F32) (j : Nat) : Bool := !(bitsN (a.getD j default) == bitsN (b.getD j default))
def chL (a b : List F32) (n : Nat) : List Int := ((List.range n).filter (diff a b)).map fun j : Nat => (j : Int)
theorem chL_succ (a b : List F32) (n : Nat) : chL a b (n + 1) = chL a b n ++ (if diff a b n = true then [(n : Int)] else []) := by
  unfold chL
  rw [List.range_succ, List.filter_append, List.map_append]
  congr 1
  by_cases h : diff a b n = true
  · simp [h]
  · simp [h]
theorem chL_len (a b : List F32) : ∀ n, (chL a b n).length ≤ n
  | 0 => by simp [chL]
  | n + 1 => by
    rw [chL_succ, List.length_append]
    have := chL_len a b n
    split <;> simp <;> omega
theorem chL_at (a b : List F32) {i : Nat} : ∀ {n : Nat}, i < n → diff a b i = true → (chL a b i).length < (chL a b n).length ∧ (chL a b n).getD (chL a b i).length default = (i : Int)
  | 0, h, _ => by omega
  | n + 1, h, hd => by
    rw [chL_succ]
    by_cases e : i = n
    · subst e
      rw [if_pos hd, List.length_append]
      exact ⟨by simp, by rw [app_r (Nat.le_refl _)]; simp⟩
    · obtain ⟨h1, h2⟩ := chL_at a b (n := n) (by omega) hd
      rw [List.length_append]
      exact ⟨by omega, by rw [app_l h1]; exact h2⟩
theorem changed_eq {K : Nat} {a b : List F32} (hl : a.length = b.length) (ha : a.length ≤ 51) (hK : 51 < K) : impl_changed K a b = some (chL a b a.length) := by
  unfold impl_changed
  have := fold_loop (σ := List Int) a.length (fun i => chL a b i) (chL a b a.length) (impl_changed_l1 K a b)
    (fun k i h1 h2 => by
      have : i = a.length := by omega
      subst this
      rw [impl_changed_l1, ite2_dec, if_neg (by omega)])
    (fun k i hi => by
      have hn := chL_len a b i
      rw [impl_changed_l1, ite2_dec, if_pos (by omega), chk_pos (by omega), chk_pos (by omega), Int.toNat_natCast, same_impl, bind_of, wrap_nat1 (by omega), chL_succ]
      unfold diff
      cases bitsN (a.getD i default) == bitsN (b.getD i default)
      · simp only [Bool.not_false, ite2_true, if_true]
        rw [chk_pos (by simp; omega)]
      · simp only [Bool.not_true, ite2_false, Bool.false_eq_true, if_false, List.append_nil]) K 0 (by omega) (by omega)
  simpa [chL] using this
theorem slice_of {K : Nat} (hK : 100 < K) {r : Recording} (h : Drawn r) (s n : Nat) (hs : s + n ≤ r.Frames.length) : impl_SliceFrames K r (s : Int) (n : Int) = some (Recording.mk r.Bones ((r.Frames.drop s).take n), true) := by
  rw [impl_slice (drawn_ok hK h)]
  unfold sliceR
  rw [if_pos ⟨drawn_right h, by omega, by omega, by omega, by omega⟩, Int.toNat_natCast, Int.toNat_natCast]
theorem drawn_part {r : Recording} (h : Drawn r) (s n : Nat) : Drawn (Recording.mk r.Bones ((r.Frames.drop s).take n)) :=
  ⟨h.bones, by have := h.frames; simp only [List.length_take, List.length_drop]; omega, fun p hp => h.turns p (List.mem_of_mem_drop (List.mem_of_mem_take hp))⟩

end Go.Fw
