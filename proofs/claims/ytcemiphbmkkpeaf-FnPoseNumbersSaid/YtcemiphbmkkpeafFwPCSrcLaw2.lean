/- Turns, poses and recordings that are drawn. (A template.) -/
import Derived.Test.YtcemiphbmkkpeafFwPCSrcLaw
import Derived.Test.YtcemiphbmkkpeafFwPCRecI
import Derived.Test.YtcemiphbmkkpeafFwFC
namespace Go.Fw
open Go

theorem ite2_some {α : Type} (b : Bool) (x y : α) : ite2 b (some x) (some y) = some (if b = true then x else y) := by cases b <;> rfl
theorem sqrt_spec (K : Nat) (x : F32) : spec_l01Sqrt K x = some (Fl.cv .f64 .f32 (Fl.cv .f32 .f64 x).sqrt) := by
  unfold spec_l01Sqrt math_Sqrt math_sqrt spec_l01Narrow
  simp only [bind_of, chk_pos (narrow_root x)]
theorem mend_some (K : Nat) (a : Turn) : ∃ t, spec_l02Mend K a = some t := by
  unfold spec_l02Mend spec_l02Inner spec_l01Finite spec_l02No
  simp only [bind_of, sqrt_spec, ite2_some]
  exact ⟨_, rfl⟩
theorem exact_dr {K : Nat} {c : List Int} (hc : Byt c) (at_ sd : Int) : Dr at_ 2 (spec_l02DrawExact K (l00Src.mk c at_ sd)) (fun _ => True) := by
  unfold spec_l02DrawExact
  refine Dr.bind (c2 := 0) (pick_dr hc at_ sd 24) (by decide) fun r a1 s1 _ => ?_
  have o : ∀ t : Turn, Dr a1 0 (some (t, a1, s1)) (fun _ => True) := fun t => .of trivial (by decide) rfl
  exact .ite (fun _ => .ite (fun _ => .chk (by decide) (.ite (fun _ => o _) fun _ => .ite (fun _ => o _) fun _ => .ite (fun _ => o _) fun _ => o _)) fun _ => .chk (by decide) (.ite (fun _ => o _) fun _ => .ite (fun _ => o _) fun _ => .ite (fun _ => o _) fun _ => o _)) fun _ => .chk (by decide) (.chk (by decide) (.chk (by decide) (o _)))
theorem turn_dr {K : Nat} {c : List Int} (hc : Byt c) (at_ sd : Int) : Dr at_ 10 (spec_l02DrawTurn K (l00Src.mk c at_ sd)) (fun _ => True) := by
  unfold spec_l02DrawTurn
  refine Dr.bind (c1 := 2) (c2 := 8) (one_dr hc at_ sd 2) (by decide) fun r a1 s1 _ => .ite (fun _ => ?_) fun _ => ?_
  · exact Dr.weak (c := 2 + 0) (P := fun _ => True) (Dr.bind (exact_dr hc a1 s1) (by decide) fun r2 a2 s2 _ => .of trivial (by decide) rfl) (by decide) (fun _ h => h)
  · refine Dr.bind (c1 := 2) (c2 := 6) (small_dr hc a1 s1) (by decide) fun r2 a2 s2 _ => Dr.bind (c1 := 2) (c2 := 4) (small_dr hc a2 s2) (by decide) fun r3 a3 s3 _ => Dr.bind (c1 := 2) (c2 := 2) (small_dr hc a3 s3) (by decide) fun r4 a4 s4 _ => Dr.bind (c1 := 2) (c2 := 0) (small_dr hc a4 s4) (by decide) fun r5 a5 s5 _ => ?_
    obtain ⟨t, ht⟩ := mend_some K (Turn.mk r2 r3 r4 r5)
    simp only [ht, bind_of]
    exact .of trivial (by decide) rfl
theorem pose_loop {K : Nat} {c : List Int} (hc : Byt c) (at_ sd : Int) (v1 : Vector × Int × Int) : ∀ (k m : Nat) (a s : Int) (xs : List Turn), m < k → xs.length + m ≤ 12 →
    Dr a (10 * (m : Int)) (spec_l03DrawPose_l1 K (l00Src.mk c at_ sd) v1 k (m : Int) a s xs) (fun p => p.Turns.length = xs.length + m) := by
  intro k
  induction k with
  | zero => intro m a s xs h; omega
  | succ k ih =>
    intro m a s xs hk hl
    rw [spec_l03DrawPose_l1]
    cases m with
    | zero => exact .ite (fun h => by have := of_decide_eq_true h; omega) fun _ => .of (by simp) (by decide) rfl
    | succ m =>
      refine .ite (fun _ => ?_) (fun h => by have := of_decide_eq_false h; omega)
      have e : (10 * ((m + 1 : Nat) : Int)) = 10 + 10 * (m : Int) := by omega
      rw [e]
      refine Dr.bind (turn_dr hc a s) (by omega) fun r a1 s1 _ => ?_
      have w : IntKind.i64.wrap (((m + 1 : Nat) : Int) - 1) = (m : Int) := by rw [wrap_in (by omega) (by omega)]; omega
      show Dr a1 _ (Go.Fw.chk ((xs.length + [r].length) * 16 ≤ 140737488355328) (spec_l03DrawPose_l1 K (l00Src.mk c at_ sd) v1 k (IntKind.i64.wrap (((m + 1 : Nat) : Int) - 1)) a1 s1 (xs ++ [r]))) _
      rw [w]
      refine .chk (by simp; omega) (Dr.weak (ih m a1 s1 (xs ++ [r]) (by omega) (by simp; omega)) (Int.le_refl _) fun p hp => ?_)
      rw [hp]; simp; omega
theorem pose_dr {K : Nat} {c : List Int} (hc : Byt c) (at_ sd : Int) (n : Nat) (hn : n ≤ 12) (hK : n < K) : Dr at_ (18 + 10 * (n : Int)) (spec_l03DrawPose K (l00Src.mk c at_ sd) (n : Int)) (fun p => p.Turns.length = n) := by
  unfold spec_l03DrawPose
  refine Dr.bind (vector_dr hc at_ sd) (by omega) fun r a1 s1 _ => ?_
  exact Dr.weak (pose_loop hc at_ sd (r, a1, s1) K n a1 s1 [] hK (by simpa using hn)) (Int.le_refl _) fun p hp => by simpa using hp

/-! Poses as lists of numbers. -/
def numT (t : Turn) : List F32 := [t.W, t.X, t.Y, t.Z]
def numsL (p : Pose) : List F32 := [p.Root.X, p.Root.Y, p.Root.Z] ++ p.Turns.flatMap numT
theorem flat_len : ∀ (l : List Turn), (l.flatMap numT).length = 4 * l.length
  | [] => rfl
  | t :: l => by rw [List.flatMap_cons, List.length_append, flat_len l]; simp [numT]; omega
theorem numsL_len (p : Pose) : (numsL p).length = 3 + 4 * p.Turns.length := by unfold numsL; rw [List.length_append, flat_len]; rfl
theorem flat_succ {l : List Turn} {i : Nat} (h : i < l.length) : (l.take (i + 1)).flatMap numT = (l.take i).flatMap numT ++ numT (l.getD i default) := by
  rw [List.take_succ_eq_append_getElem h, List.flatMap_append, getD_of_lt h]; simp
theorem numbers_spec {K : Nat} {p : Pose} (hp : p.Turns.length ≤ 12) (hK : 12 < K) : spec_l10Numbers K p = some (numsL p) := by
  unfold spec_l10Numbers
  have := fold_loop (σ := List F32) p.Turns.length (fun i => [p.Root.X, p.Root.Y, p.Root.Z] ++ (p.Turns.take i).flatMap numT) (numsL p) (spec_l10Numbers_l1 K p)
    (fun k i h1 h2 => by
      have : i = p.Turns.length := by omega
      subst this
      rw [spec_l10Numbers_l1, ite2_dec, if_neg (by omega), List.take_length]; rfl)
    (fun k i hi => by
      have hc : (i : Int) < (p.Turns.length : Int) := by omega
      have hl : ([p.Root.X, p.Root.Y, p.Root.Z] ++ (p.Turns.take i).flatMap numT).length ≤ 51 := by
        rw [List.length_append, flat_len, List.length_take]; simp; omega
      rw [spec_l10Numbers_l1, ite2_dec, if_pos hc, chk_pos (by omega), Int.toNat_natCast]
      unfold spec_l06List
      rw [bind_of, chk_pos (by simp only [List.length_cons, List.length_nil] at hl ⊢; omega), wrap_nat1 (by omega), flat_succ hi, ← List.append_assoc]
      rfl) K 0 (by omega) (by omega)
  simpa using this
def tnL (l : List F32) (i : Nat) : Turn := Turn.mk (l.getD (3 + 4 * i) default) (l.getD (3 + 4 * i + 1) default) (l.getD (3 + 4 * i + 2) default) (l.getD (3 + 4 * i + 3) default)
def poseL (l : List F32) (n : Nat) : Pose := Pose.mk (Vector.mk (l.getD 0 default) (l.getD 1 default) (l.getD 2 default)) ((List.range n).map (tnL l))
theorem posed_spec {K n : Nat} {l : List F32} (hl : l.length = 3 + 4 * n) (hn : n ≤ 12) (hK : 12 < K) : spec_l10Pose K l = some (poseL l n) := by
  have loop : ∀ (k i : Nat), i ≤ n → n - i < k → spec_l10Pose_l1 K l k ((3 + 4 * i : Nat) : Int) ((List.range i).map (tnL l)) = some (poseL l n) := by
    intro k
    induction k with
    | zero => intro i _ h; omega
    | succ k ih =>
      intro i hi hk
      rw [spec_l10Pose_l1, ite2_dec]
      by_cases h : i < n
      · have w1 : IntKind.i64.wrap (((3 + 4 * i : Nat) : Int) + 1) = ((3 + 4 * i + 1 : Nat) : Int) := by rw [wrap_in (by omega) (by omega)]; omega
        have w2 : IntKind.i64.wrap (((3 + 4 * i : Nat) : Int) + 2) = ((3 + 4 * i + 2 : Nat) : Int) := by rw [wrap_in (by omega) (by omega)]; omega
        have w3 : IntKind.i64.wrap (((3 + 4 * i : Nat) : Int) + 3) = ((3 + 4 * i + 3 : Nat) : Int) := by rw [wrap_in (by omega) (by omega)]; omega
        have w4 : IntKind.i64.wrap (((3 + 4 * i : Nat) : Int) + 4) = ((3 + 4 * (i + 1) : Nat) : Int) := by rw [wrap_in (by omega) (by omega)]; omega
        rw [if_pos (by omega)]
        simp only [w1, w2, w3, w4, Int.toNat_natCast]
        rw [chk_pos (by omega), chk_pos (by omega), chk_pos (by omega), chk_pos (by omega), chk_pos (by simp; omega)]
        have := ih (i + 1) h (by omega)
        rw [List.range_succ, List.map_append] at this
        exact this
      · have : i = n := by omega
        subst this
        rw [if_neg (by omega)]
        rfl
  unfold spec_l10Pose
  rw [chk_pos (by omega), chk_pos (by omega), chk_pos (by omega)]
  exact loop K 0 (by omega) (by omega)
theorem poseL_len (l : List F32) (n : Nat) : (poseL l n).Turns.length = n := by simp [poseL]

/-! Recordings that are drawn. -/
theorem mix_loop {K : Nat} {c : List Int} (hc : Byt c) (at_ sd : Int) : ∀ (k i : Nat) (a s : Int) (l : List F32), i ≤ l.length → l.length - i < k → l.length ≤ 60 → 0 ≤ a → a + 12 * ((l.length : Int) - i) ≤ 4611686018427387904 →
    ∃ a' s' l', spec_l10DrawOk_l4 K (l00Src.mk c at_ sd) k (i : Int) a s l = some (a', s', l') ∧ l'.length = l.length ∧ 0 ≤ a' ∧ a' ≤ a + 12 * ((l.length : Int) - i) := by
  intro k
  induction k with
  | zero => intro i a s l _ h; omega
  | succ k ih =>
    intro i a s l hi hk hl ha hM
    rw [spec_l10DrawOk_l4, ite2_dec]
    by_cases h : i < l.length
    · rw [if_pos (by omega), wrap_nat1 (by omega)]
      obtain ⟨r, a1, s1, e1, _, h1, h2⟩ := one_dr (K := K) hc a s 3 ha (by omega)
      have e1' : spec_l00Src_one K (l00Src.mk (l00Src.mk c at_ sd).code a s) 3 = some (r, a1, s1) := e1
      rw [e1', bind_of]
      cases r
      · rw [ite2_false]
        obtain ⟨a', s', l', q1, q2, q3, q4⟩ := ih (i + 1) a1 s1 l (by omega) (by omega) hl h1 (by omega)
        exact ⟨a', s', l', q1, q2, q3, by omega⟩
      · obtain ⟨f, a2, s2, e2, _, h3, h4⟩ := float_dr (K := K) hc a1 s1 h1 (by omega)
        have e2' : spec_l01DrawFloat K (l00Src.mk (l00Src.mk c at_ sd).code a1 s1) = some (f, a2, s2) := e2
        rw [ite2_true]
        show ∃ a' s' l', (spec_l01DrawFloat K (l00Src.mk (l00Src.mk c at_ sd).code a1 s1)).bind _ = some (a', s', l') ∧ _
        rw [e2', bind_of, chk_pos (by omega), Int.toNat_natCast]
        have hls : (l.set i f).length = l.length := List.length_set
        obtain ⟨a', s', l', q1, q2, q3, q4⟩ := ih (i + 1) a2 s2 (l.set i f) (by omega) (by omega) (by omega) h3 (by rw [hls]; omega)
        rw [hls] at q2 q4
        exact ⟨a', s', l', q1, q2, q3, by omega⟩
    · rw [if_neg (by omega)]
      exact ⟨a, s, l, rfl, rfl, ha, by omega⟩
/-- What a drawn recording is like. -/
structure Drawn (r : Recording) : Prop where
  bones : 1 ≤ r.Bones ∧ r.Bones ≤ 3
  frames : r.Frames.length ≤ 4
  turns : ∀ p ∈ r.Frames, (p.Turns.length : Int) = r.Bones
theorem draw_loop {K : Nat} (hK : 100 < K) {c : List Int} (hc : Byt c) (at_ sd : Int) (v1 : Int × Int × Int) (n : Nat) (hv : 1 + v1.1 = (n : Int)) (hn : 1 ≤ n ∧ n ≤ 3) : ∀ (k m : Nat) (a s : Int) (xs : List Pose) (ts : List Turn) (x y z : F32), m < k → xs.length + m ≤ 4 → ts.length = n → (∀ p ∈ xs, p.Turns.length = n) →
    Dr a (300 * (m : Int)) (spec_l10DrawOk_l3 K (l00Src.mk c at_ sd) v1 k (m : Int) a s xs ts x y z) (fun r => Drawn r) := by
  intro k
  induction k with
  | zero => intro m a s xs ts x y z h; omega
  | succ k ih =>
    intro m a s xs ts x y z hk hl ht hx
    have wb : IntKind.i64.wrap (1 + v1.1) = (n : Int) := by rw [hv, wrap_in (by omega) (by omega)]
    rw [spec_l10DrawOk_l3, wb]
    cases m with
    | zero =>
      refine .ite (fun h => by have := of_decide_eq_true h; omega) fun _ => .of ⟨⟨?_, ?_⟩, ?_, ?_⟩ (by decide) rfl
      · show 1 ≤ (n : Int); omega
      · show (n : Int) ≤ 3; omega
      · show xs.length ≤ 4; omega
      · intro p hp
        show (p.Turns.length : Int) = (n : Int)
        rw [hx p hp]
    | succ m =>
      refine .ite (fun _ => ?_) (fun h => by have := of_decide_eq_false h; omega)
      intro h0 hM
      have w : IntKind.i64.wrap (((m + 1 : Nat) : Int) - 1) = (m : Int) := by rw [wrap_in (by omega) (by omega)]; omega
      have hnl := numsL_len (Pose.mk (Vector.mk x y z) ts)
      have hnl' : (numsL (Pose.mk (Vector.mk x y z) ts)).length = 3 + 4 * n := by rw [hnl]; show 3 + 4 * ts.length = _; rw [ht]
      rw [numbers_spec (show (Pose.mk (Vector.mk x y z) ts).Turns.length ≤ 12 by show ts.length ≤ 12; omega) (by omega), bind_of]
      obtain ⟨a1, s1, l1, e1, q1, q2, q3⟩ := mix_loop (K := K) hc at_ sd K 0 a s (numsL (Pose.mk (Vector.mk x y z) ts)) (Nat.zero_le _) (by omega) (by omega) h0 (by omega)
      rw [show ((0 : Nat) : Int) = 0 from rfl] at e1
      rw [e1, bind_of]
      have hp2 := posed_spec (K := K) (n := n) (l := l1) (by omega) (by omega) (by omega)
      simp only [hp2, bind_of]
      obtain ⟨r, a2, s2, e2, _, h3, h4⟩ := one_dr (K := K) hc a1 s1 3 q2 (by omega)
      have e2' : spec_l00Src_one K (l00Src.mk (l00Src.mk c at_ sd).code a1 s1) 3 = some (r, a2, s2) := e2
      rw [e2', bind_of]
      have hcopy : ∀ p : Pose, p.Turns.length = n → spec_l10Copy K p = some p := fun p hp => by
        unfold spec_l10Copy
        rw [chk_pos (by simp; omega)]; rfl
      cases r
      · rw [ite2_false, hcopy _ (poseL_len l1 n), bind_of, chk_pos (by simp; omega), w]
        obtain ⟨rr, a', s', g1, g2, g3, g4⟩ := ih m a2 s2 (xs ++ [poseL l1 n]) (poseL l1 n).Turns (poseL l1 n).Root.X (poseL l1 n).Root.Y (poseL l1 n).Root.Z (by omega) (by simp; omega) (poseL_len l1 n) (fun p hp => by
          rcases List.mem_append.1 hp with hp | hp
          · exact hx p hp
          · rw [List.mem_singleton.1 hp]; exact poseL_len l1 n) h3 (by omega)
        exact ⟨rr, a', s', g1, g2, g3, by omega⟩
      · obtain ⟨p, a3, s3, e3, hp3, h5, h6⟩ := pose_dr (K := K) hc a2 s2 n (by omega) (by omega) h3 (by omega)
        have e3' : spec_l03DrawPose K (l00Src.mk (l00Src.mk c at_ sd).code a2 s2) (n : Int) = some (p, a3, s3) := e3
        rw [ite2_true]
        show ∃ r at' sd', (spec_l03DrawPose K (l00Src.mk (l00Src.mk c at_ sd).code a2 s2) (n : Int)).bind _ = some (r, at', sd') ∧ _
        rw [e3', bind_of]
        simp only [hcopy p hp3, bind_of, w]
        rw [chk_pos (by simp; omega)]
        obtain ⟨rr, a', s', g1, g2, g3, g4⟩ := ih m a3 s3 (xs ++ [p]) p.Turns p.Root.X p.Root.Y p.Root.Z (by omega) (by simp; omega) hp3 (fun q hq => by
          rcases List.mem_append.1 hq with hq | hq
          · exact hx q hq
          · rw [List.mem_singleton.1 hq]; exact hp3) h5 (by omega)
        exact ⟨rr, a', s', g1, g2, g3, by omega⟩
theorem recording_drawn {K : Nat} (hK : 100 < K) {c : List Int} (hc : Byt c) : ∃ r, spec_R8Recording K c = some r ∧ Drawn r := by
  have key : Dr 0 (2 + (60 + (2 + 1300))) (spec_l10DrawOk K (l00Src.mk c 0 0)) (fun r => Drawn r) := by
    unfold spec_l10DrawOk
    refine Dr.bind (pick_dr hc 0 0 3) (by decide) fun r a1 s1 hr => ?_
    obtain ⟨q, hq⟩ : ∃ q : Nat, 1 + r = (q : Int) := ⟨(1 + r).toNat, by omega⟩
    have w : IntKind.i64.wrap (1 + r) = (q : Int) := by rw [hq, wrap_in (by omega) (by omega)]
    show Dr a1 _ ((spec_l03DrawPose K (l00Src.mk c a1 s1) (IntKind.i64.wrap (1 + r))).bind _) _
    rw [w]
    refine Dr.bind (Dr.weak (pose_dr hc a1 s1 q (by omega) (by omega)) (by omega) fun _ h => h) (by decide) fun p a2 s2 hp => ?_
    refine Dr.bind (pick_dr hc a2 s2 5) (by decide) fun m a3 s3 hm => ?_
    obtain ⟨m', rfl⟩ : ∃ m' : Nat, m = (m' : Int) := ⟨m.toNat, by omega⟩
    exact Dr.weak (draw_loop hK hc 0 0 (r, a1, s1) q hq (by omega) K m' a3 s3 [] p.Turns _ _ _ (by omega) (by simp; omega) hp (by simp)) (by omega) fun _ h => h
  obtain ⟨r, a', s', h1, h2, _, _⟩ := key (Int.le_refl _) (by decide)
  refine ⟨r, ?_, h2⟩
  unfold spec_R8Recording
  rw [h1]; rfl

end Go.Fw
