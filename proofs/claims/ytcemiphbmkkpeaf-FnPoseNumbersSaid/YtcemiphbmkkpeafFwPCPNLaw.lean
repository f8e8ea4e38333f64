/- The law of poses' numbers, in plain Lean: they come back, what is changed is told, recordings are their parts. -/
import Derived.Test.YtcemiphbmkkpeafFwPCSrcLaw2
import Derived.Test.YtcemiphbmkkpeafFwPCSameLaw
namespace Go.Fw
open Go

theorem app_l {α : Type} {a b : List α} {i : Nat} {d : α} (h : i < a.length) : (a ++ b).getD i d = a.getD i d := by
  rw [List.getD_eq_getElem?_getD, List.getElem?_append_left h, ← List.getD_eq_getElem?_getD]
theorem app_r {α : Type} {a b : List α} {i : Nat} {d : α} (h : a.length ≤ i) : (a ++ b).getD i d = b.getD (i - a.length) d := by
  rw [List.getD_eq_getElem?_getD, List.getElem?_append_right h, ← List.getD_eq_getElem?_getD]
theorem same_refl (K : Nat) (a : F32) : impl_SameNumber K a a = some true := by rw [same_impl]; simp
theorem sameV_refl (K : Nat) (a : Vector) : impl_SameVector K a a = some true := by
  unfold impl_SameVector
  simp only [same_refl, bind_of, ite2_true]
theorem sameT_refl (K : Nat) (a : Turn) : impl_SameTurn K a a = some true := by
  unfold impl_SameTurn
  simp only [same_refl, bind_of, ite2_true]
theorem equalT_refl {K : Nat} {a : List Turn} (hl : a.length ≤ 1048576) (hK : a.length < K) : slices_EqualFunc_impl_Turn_impl_Turn_impl_Turn_impl_Turn K a a = some true := by
  unfold slices_EqualFunc_impl_Turn_impl_Turn_impl_Turn_impl_Turn
  rw [show ((a.length : Int) != (a.length : Int)) = false by simp, ite2_false]
  exact cnt_loop a.length true (slices_EqualFunc_impl_Turn_impl_Turn_impl_Turn_impl_Turn_l1 K a a) (fun k i h => by rw [slices_EqualFunc_impl_Turn_impl_Turn_impl_Turn_impl_Turn_l1, ite2_dec, if_neg (by omega)]) (fun k i h => by
    rw [slices_EqualFunc_impl_Turn_impl_Turn_impl_Turn_impl_Turn_l1, ite2_dec, if_pos (by omega), chk_pos (by omega), chk_pos (by omega), sameT_refl, bind_of, wrap_nat1 (by omega)]
    rfl) K 0 (by omega)
theorem sameP_refl {K : Nat} {p : Pose} (hl : p.Turns.length ≤ 1048576) (hK : p.Turns.length < K) : impl_SamePose K p p = some true := by
  unfold impl_SamePose
  simp only [sameV_refl, equalT_refl hl hK, bind_of, ite2_true]
theorem equalP_refl {K : Nat} {a : List Pose} (hl : a.length ≤ 1048576) (hK : a.length < K) (h2 : ∀ p ∈ a, p.Turns.length ≤ 1048576 ∧ p.Turns.length < K) : slices_EqualFunc_impl_Pose_impl_Pose_impl_Pose_impl_Pose K a a = some true := by
  unfold slices_EqualFunc_impl_Pose_impl_Pose_impl_Pose_impl_Pose
  rw [show ((a.length : Int) != (a.length : Int)) = false by simp, ite2_false]
  exact cnt_loop a.length true (slices_EqualFunc_impl_Pose_impl_Pose_impl_Pose_impl_Pose_l1 K a a) (fun k i h => by rw [slices_EqualFunc_impl_Pose_impl_Pose_impl_Pose_impl_Pose_l1, ite2_dec, if_neg (by omega)]) (fun k i h => by
    have hm := h2 _ (getD_mem (xs := a) (i := i) h)
    rw [slices_EqualFunc_impl_Pose_impl_Pose_impl_Pose_impl_Pose_l1, ite2_dec, if_pos (by omega), chk_pos (by omega), chk_pos (by omega), Int.toNat_natCast, sameP_refl hm.1 hm.2, bind_of, wrap_nat1 (by omega)]
    rfl) K 0 (by omega)
theorem drawn_right {r : Recording} (h : Drawn r) : validR r = true := validR_spec.2 ⟨⟨h.bones.1, by have := h.bones; omega⟩, by have := h.frames; omega, h.turns⟩
theorem drawn_turns {r : Recording} (h : Drawn r) {p : Pose} (hp : p ∈ r.Frames) : 1 ≤ p.Turns.length ∧ p.Turns.length ≤ 3 := by
  have := h.turns p hp
  have := h.bones
  omega
theorem drawn_ok {K : Nat} (hK : 100 < K) {r : Recording} (h : Drawn r) : OkRec K r := ⟨by have := h.frames; omega, fun p hp => by have := drawn_turns h hp; omega, by have := h.frames; omega, fun p hp => by have := drawn_turns h hp; omega⟩
theorem sameR_refl {K : Nat} (hK : 100 < K) {r : Recording} (h : Drawn r) : impl_SameRecording K r r = some true := by
  unfold impl_SameRecording
  have hf := h.frames
  rw [Valid_eq (drawn_ok hK h), drawn_right h, equalP_refl (by omega) (by omega) (fun p hp => by have := drawn_turns h hp; omega)]
  simp only [bind_of, ite2_true, beq_self_eq_true]

theorem listed_eq {K : Nat} {p : Pose} (hp : p.Turns.length ≤ 12) (hK : 12 < K) : impl_listed K p = some (numsL p) := by
  unfold impl_listed
  have := fold_loop (σ := List F32) p.Turns.length (fun i => [p.Root.X, p.Root.Y, p.Root.Z] ++ (p.Turns.take i).flatMap numT) (numsL p) (impl_listed_l1 K p)
    (fun k i h1 h2 => by
      have : i = p.Turns.length := by omega
      subst this
      rw [impl_listed_l1, ite2_dec, if_neg (by omega), List.take_length]; rfl)
    (fun k i hi => by
      have hc : (i : Int) < (p.Turns.length : Int) := by omega
      have hl : ([p.Root.X, p.Root.Y, p.Root.Z] ++ (p.Turns.take i).flatMap numT).length ≤ 51 := by
        rw [List.length_append, flat_len, List.length_take]; simp; omega
      rw [impl_listed_l1, ite2_dec, if_pos hc, chk_pos (by omega), Int.toNat_natCast]
      rw [chk_pos (by simp only [List.length_cons, List.length_nil] at hl ⊢; omega), wrap_nat1 (by omega), flat_succ hi, ← List.append_assoc]
      rfl) K 0 (by omega) (by omega)
  simpa using this
theorem posed_impl {K n : Nat} {l : List F32} (hl : l.length = 3 + 4 * n) (h1 : 1 ≤ n) (hn : n ≤ 12) (hK : 12 < K) : impl_PoseOfNumbers K l = some (poseL l n, true) := by
  have loop : ∀ (k i : Nat), i ≤ n → n - i < k → impl_PoseOfNumbers_l1 K l k ((3 + 4 * i : Nat) : Int) ((List.range i).map (tnL l)) = some (poseL l n, true) := by
    intro k
    induction k with
    | zero => intro i _ h; omega
    | succ k ih =>
      intro i hi hk
      rw [impl_PoseOfNumbers_l1, ite2_dec]
      by_cases h : i < n
      · have w1 : IntKind.i64.wrap (((3 + 4 * i : Nat) : Int) + 1) = ((3 + 4 * i + 1 : Nat) : Int) := by rw [wrap_in (by omega) (by omega)]; omega
        have w2 : IntKind.i64.wrap (((3 + 4 * i : Nat) : Int) + 2) = ((3 + 4 * i + 2 : Nat) : Int) := by rw [wrap_in (by omega) (by omega)]; omega
        have w3 : IntKind.i64.wrap (((3 + 4 * i : Nat) : Int) + 3) = ((3 + 4 * i + 3 : Nat) : Int) := by rw [wrap_in (by omega) (by omega)]; omega
        have w4 : IntKind.i64.wrap (((3 + 4 * i : Nat) : Int) + 4) = ((3 + 4 * (i + 1) : Nat) : Int) := by rw [wrap_in (by omega) (by omega)]; omega
        rw [if_pos (by omega)]
        simp only [w1, w2, w3, w4, Int.toNat_natCast]
        rw [chk_pos (by omega), chk_pos (by omega), chk_pos (by omega), chk_pos (by omega), chk_pos (by simp; omega)]
        have := ih (i + 1) h (by omega)
        rw [List.range_succ, List.map_append] at this
        exact this
      · have : i = n := by omega
        subst this
        rw [if_neg (by omega)]
        rfl
  have w : IntKind.i64.wrap ((l.length : Int) - 3) = ((4 * n : Nat) : Int) := by rw [wrap_in (by omega) (by omega)]; omega
  have t1 : (((4 * n : Nat) : Int).tmod 4 != 0) = false := by
    rw [Int.tmod_eq_emod_of_nonneg (by omega)]
    have : ((4 * n : Nat) : Int) % 4 = 0 := by omega
    rw [this]; rfl
  have t2 : IntKind.i64.wrap (((4 * n : Nat) : Int).tdiv 4) = (n : Int) := by
    rw [Int.tdiv_eq_ediv_of_nonneg (by omega), wrap_in (by omega) (by omega)]; omega
  unfold impl_PoseOfNumbers
  rw [w, t1, t2, decide_eq_false (show ¬ ((l.length : Int) < 7) by omega), decide_eq_false (show ¬ ((n : Int) > 12) by omega), ite2_false, chk_pos (by decide), ite2_false, bind_of, ite2_false, chk_pos (by omega), chk_pos (by omega), chk_pos (by omega)]
  exact loop K 0 (by omega) (by omega)
theorem flat_getD : ∀ (l : List Turn) (i j : Nat), i < l.length → j < 4 → (l.flatMap numT).getD (4 * i + j) default = (numT (l.getD i default)).getD j default
  | [], i, j, h, _ => by simp at h
  | t :: l, 0, j, _, hj => by
    rw [List.flatMap_cons, app_l (by simp [numT]; omega)]
    simp
  | t :: l, i + 1, j, h, hj => by
    rw [List.flatMap_cons, app_r (by simp [numT]; omega)]
    have e : 4 * (i + 1) + j - (numT t).length = 4 * i + j := by simp [numT]; omega
    rw [e, flat_getD l i j (by simpa using h) hj]
    rfl
theorem pose_back (p : Pose) : poseL (numsL p) p.Turns.length = p := by
  have hg : ∀ i, i < p.Turns.length → ∀ j, j < 4 → (numsL p).getD (3 + (4 * i + j)) default = (numT (p.Turns.getD i default)).getD j default := by
    intro i hi j hj
    unfold numsL
    rw [app_r (by simp)]
    have e : 3 + (4 * i + j) - [p.Root.X, p.Root.Y, p.Root.Z].length = 4 * i + j := by simp
    rw [e, flat_getD _ i j hi hj]
  have ht : (List.range p.Turns.length).map (tnL (numsL p)) = p.Turns := by
    apply List.ext_getElem (by simp)
    intro i h1 h2
    have hi : i < p.Turns.length := h2
    simp only [List.getElem_map, List.getElem_range]
    unfold tnL
    have g0 := hg i hi 0 (by decide)
    have g1 := hg i hi 1 (by decide)
    have g2 := hg i hi 2 (by decide)
    have g3 := hg i hi 3 (by decide)
    rw [show 3 + (4 * i + 0) = 3 + 4 * i by omega] at g0
    rw [show 3 + (4 * i + 1) = 3 + 4 * i + 1 by omega] at g1
    rw [show 3 + (4 * i + 2) = 3 + 4 * i + 2 by omega] at g2
    rw [show 3 + (4 * i + 3) = 3 + 4 * i + 3 by omega] at g3
    rw [g0, g1, g2, g3, getD_of_lt hi]
    rfl
  unfold poseL
  rw [ht]
  rfl

/-! What is changed. -/
def diff (a b : List F32) (j : Nat) : Bool := !(bitsN (a.getD j default) == bitsN (b.getD j default))
def chL (a b : List F32) (n : Nat) : List Int := ((List.range n).filter (diff a b)).map fun j : Nat => (j : Int)
theorem chL_succ (a b : List F32) (n : Nat) : chL a b (n + 1) = chL a b n ++ (if diff a b n = true then [(n : Int)] else []) := by
  unfold chL
  rw [List.range_succ, List.filter_append, List.map_append]
  congr 1
  by_cases h : diff a b n = true
  · simp [h]
  · simp [h]
theorem chL_len (a b : List F32) : ∀ n, (chL a b n).length ≤ n
  | 0 => by simp [chL]
  | n + 1 => by
    rw [chL_succ, List.length_append]
    have := chL_len a b n
    split <;> simp <;> omega
theorem chL_at (a b : List F32) {i : Nat} : ∀ {n : Nat}, i < n → diff a b i = true → (chL a b i).length < (chL a b n).length ∧ (chL a b n).getD (chL a b i).length default = (i : Int)
  | 0, h, _ => by omega
  | n + 1, h, hd => by
    rw [chL_succ]
    by_cases e : i = n
    · subst e
      rw [if_pos hd, List.length_append]
      exact ⟨by simp, by rw [app_r (Nat.le_refl _)]; simp⟩
    · obtain ⟨h1, h2⟩ := chL_at a b (n := n) (by omega) hd
      rw [List.length_append]
      exact ⟨by omega, by rw [app_l h1]; exact h2⟩
theorem changed_eq {K : Nat} {a b : List F32} (hl : a.length = b.length) (ha : a.length ≤ 51) (hK : 51 < K) : impl_changed K a b = some (chL a b a.length) := by
  unfold impl_changed
  have := fold_loop (σ := List Int) a.length (fun i => chL a b i) (chL a b a.length) (impl_changed_l1 K a b)
    (fun k i h1 h2 => by
      have : i = a.length := by omega
      subst this
      rw [impl_changed_l1, ite2_dec, if_neg (by omega)])
    (fun k i hi => by
      have hn := chL_len a b i
      rw [impl_changed_l1, ite2_dec, if_pos (by omega), chk_pos (by omega), chk_pos (by omega), Int.toNat_natCast, same_impl, bind_of, wrap_nat1 (by omega), chL_succ]
      unfold diff
      cases bitsN (a.getD i default) == bitsN (b.getD i default)
      · simp only [Bool.not_false, ite2_true, if_true]
        rw [chk_pos (by simp; omega)]
      · simp only [Bool.not_true, ite2_false, Bool.false_eq_true, if_false, List.append_nil]) K 0 (by omega) (by omega)
  simpa [chL] using this
theorem told_loop {K : Nat} {a b : List F32} (hl : a.length = b.length) (ha : a.length ≤ 51) (x y z : Bool) : ∀ (k i : Nat), i ≤ a.length → a.length - i < k →
    laws_FnPoseNumbers_l1 K (a, x) (b, y) (chL a b a.length, z) k (i : Int) ((chL a b i).length : Int) = some true := by
  intro k
  induction k with
  | zero => intro i _ h; omega
  | succ k ih =>
    intro i hi hk
    rw [laws_FnPoseNumbers_l1]
    simp only []
    rw [ite2_dec]
    by_cases h : i < a.length
    · have hn := chL_len a b i
      rw [if_pos (by omega), chk_pos (by omega), chk_pos (by omega), Int.toNat_natCast, same_impl, bind_of, wrap_nat1 (by omega), wrap_nat1 (by omega)]
      have hih := ih (i + 1) h (by omega)
      rw [chL_succ] at hih
      cases hd : bitsN (a.getD i default) == bitsN (b.getD i default)
      · have hd' : diff a b i = true := by unfold diff; rw [hd]; rfl
        obtain ⟨h1, h2⟩ := chL_at a b h hd'
        rw [ite2_false, decide_eq_false (by omega), ite2_false, chk_pos (by omega), Int.toNat_natCast, h2, bne_self_eq_false, bind_of, ite2_false]
        rw [if_pos hd', List.length_append] at hih
        exact hih
      · have hd' : diff a b i = false := by unfold diff; rw [hd]; rfl
        rw [ite2_true]
        rw [hd', if_neg (by decide), List.append_nil] at hih
        exact hih
    · have : i = a.length := by omega
      subst this
      rw [if_neg (by omega), beq_self_eq_true]

theorem slice_of {K : Nat} (hK : 100 < K) {r : Recording} (h : Drawn r) (s n : Nat) (hs : s + n ≤ r.Frames.length) : impl_SliceFrames K r (s : Int) (n : Int) = some (Recording.mk r.Bones ((r.Frames.drop s).take n), true) := by
  rw [impl_slice (drawn_ok hK h)]
  unfold sliceR
  rw [if_pos ⟨drawn_right h, by omega, by omega, by omega, by omega⟩, Int.toNat_natCast, Int.toNat_natCast]
theorem drawn_part {r : Recording} (h : Drawn r) (s n : Nat) : Drawn (Recording.mk r.Bones ((r.Frames.drop s).take n)) :=
  ⟨h.bones, by have := h.frames; simp only [List.length_take, List.length_drop]; omega, fun p hp => h.turns p (List.mem_of_mem_drop (List.mem_of_mem_take hp))⟩
theorem law_FnPoseNumbers (a b : List Int) (ha : a.length ≤ maxLen ∧ ∀ x ∈ a, (Lit.int .u8 x).wf = true) (hb : b.length ≤ maxLen ∧ ∀ x ∈ b, (Lit.int .u8 x).wf = true) : ∃ K, laws_FnPoseNumbers K a b = some true := by
  have byt : ∀ {c : List Int}, (∀ x ∈ c, (Lit.int .u8 x).wf = true) → Byt c := fun h x hx => by
    have := h x hx
    simp only [Lit.wf, Bool.and_eq_true, decide_eq_true_eq] at this
    have e1 : IntKind.u8.min = 0 := by decide
    have e2 : IntKind.u8.max = 255 := by decide
    omega
  have hca := byt ha.2
  have hcb := byt hb.2
  refine ⟨1000, ?_⟩
  obtain ⟨K, hKe⟩ : ∃ K, K = 1000 := ⟨_, rfl⟩
  rw [← hKe]
  have hK : 100 < K := by omega
  unfold laws_FnPoseNumbers laws_r8Long
  rw [ite2_dec]
  by_cases hl : (a.length : Int) > 48
  · rw [if_pos hl]; rfl
  · rw [if_neg hl]
    simp only [bind_of]
    rw [ite2_dec]
    by_cases hl2 : (b.length : Int) > 48
    · rw [if_pos hl2]
    · rw [if_neg hl2]
      obtain ⟨r, er, hr⟩ := recording_drawn hK hca
      have hf := hr.frames
      have hat : ∃ n : Nat, n ≤ r.Frames.length ∧ laws_r8At K b 0 (IntKind.i64.wrap ((r.Frames.length : Int) + 1)) = some (n : Int) := by
        have w : IntKind.i64.wrap ((r.Frames.length : Int) + 1) = ((r.Frames.length + 1 : Nat) : Int) := by rw [wrap_in (by omega) (by omega)]; omega
        rw [w]
        unfold laws_r8At
        rw [ite2_dec]
        by_cases h1 : ((r.Frames.length + 1 : Nat) : Int) ≤ 1
        · rw [if_pos h1, bind_of, ite2_true]; exact ⟨0, by omega, rfl⟩
        · rw [if_neg h1, bind_of, ite2_dec]
          by_cases h2 : (0 : Int) ≥ (b.length : Int)
          · rw [if_pos h2]; exact ⟨0, by omega, rfl⟩
          · rw [if_neg h2, chk_pos (by omega), chk_pos (by omega)]
            have hx := hcb _ (getD_mem (xs := b) (i := (0 : Int).toNat) (by show 0 < b.length; omega))
            rw [wrap_in (n := b.getD (0 : Int).toNat default) (by omega) (by omega)]
            obtain ⟨q1, q2⟩ := tmod_in (x := b.getD (0 : Int).toNat default) (n := ((r.Frames.length + 1 : Nat) : Int)) hx.1 (by omega)
            refine ⟨((b.getD (0 : Int).toNat default).tmod ((r.Frames.length + 1 : Nat) : Int)).toNat, by omega, ?_⟩
            rw [Int.toNat_of_nonneg q1]
      obtain ⟨n, hn, en⟩ := hat
      have w2 : IntKind.i64.wrap ((r.Frames.length : Int) - (n : Int)) = ((r.Frames.length - n : Nat) : Int) := by rw [wrap_in (by omega) (by omega)]; omega
      have e1 : impl_SliceFrames K r 0 (n : Int) = _ := slice_of hK hr 0 n (by omega)
      have e2 := slice_of hK hr n (r.Frames.length - n) (by omega)
      have p1 := drawn_part hr 0 n
      have p2 := drawn_part hr n (r.Frames.length - n)
      have hjoin : joinR (Recording.mk r.Bones ((r.Frames.drop 0).take n)) (Recording.mk r.Bones ((r.Frames.drop n).take (r.Frames.length - n))) = (r, true) := by
        unfold joinR
        rw [if_pos ⟨drawn_right p1, drawn_right p2, rfl, by have := p1.frames; have := p2.frames; omega⟩]
        have : (r.Frames.drop 0).take n ++ (r.Frames.drop n).take (r.Frames.length - n) = r.Frames := by
          rw [List.drop_zero, List.take_of_length_le (l := r.Frames.drop n) (by rw [List.length_drop]; omega), List.take_append_drop]
        simp only [this]
      have e3 := impl_join (K := K) (drawn_ok hK p1) (drawn_ok hK p2) (by have := p1.frames; have := p2.frames; omega)
      rw [hjoin] at e3
      simp only [er, bind_of, ite2_false, en, e1, w2, e2, e3, Bool.not_true, sameR_refl hK hr]
      by_cases h0 : r.Frames.length = 0
      · rw [show ((r.Frames.length : Int) == 0) = true by rw [h0]; rfl, ite2_true, Valid_eq (drawn_ok hK hr), bind_of, drawn_right hr]
      · have hlast : r.Frames.length - 1 < r.Frames.length := by omega
        have w3 : IntKind.i64.wrap ((r.Frames.length : Int) - 1) = ((r.Frames.length - 1 : Nat) : Int) := by rw [wrap_in (by omega) (by omega)]; omega
        have m0 := getD_mem (xs := r.Frames) (i := 0) (by omega)
        have ml := getD_mem (xs := r.Frames) (i := r.Frames.length - 1) hlast
        have t0 := drawn_turns hr m0
        have tl := drawn_turns hr ml
        have b0 := hr.turns _ m0
        have bl := hr.turns _ ml
        have e4 : impl_SliceFrames K r 0 ((r.Frames.length - 1 : Nat) : Int) = _ := slice_of hK hr 0 (r.Frames.length - 1) (by omega)
        have p4 := drawn_part hr 0 (r.Frames.length - 1)
        have hadd : addR (Recording.mk r.Bones ((r.Frames.drop 0).take (r.Frames.length - 1))) (r.Frames.getD (r.Frames.length - 1) default) = (r, true) := by
          unfold addR
          rw [if_pos ⟨drawn_right p4, bl, by have := p4.frames; omega⟩]
          have : (r.Frames.drop 0).take (r.Frames.length - 1) ++ [r.Frames.getD (r.Frames.length - 1) default] = r.Frames := by
            rw [List.drop_zero, getD_of_lt hlast, ← List.take_succ_eq_append_getElem hlast, List.take_of_length_le (by omega)]
          simp only [this]
        have e5 := impl_add (K := K) (drawn_ok hK p4) (p := r.Frames.getD (r.Frames.length - 1) default) ⟨by omega, by omega⟩ (by have := p4.frames; omega)
        rw [hadd] at e5
        have isP : ∀ p : Pose, 1 ≤ p.Turns.length → p.Turns.length ≤ 3 → impl_isPose K p = some true := fun p h1 h2 => by
          unfold impl_isPose
          rw [ite2_dec, if_pos (by omega), bind_of, decide_eq_true (by omega)]
        have e6 : ∀ p : Pose, 1 ≤ p.Turns.length → p.Turns.length ≤ 3 → impl_NumbersOfPose K p = some (numsL p, true) := fun p h1 h2 => by
          unfold impl_NumbersOfPose
          rw [isP p h1 h2, bind_of, Bool.not_true, ite2_false, listed_eq (by omega) (by omega), bind_of]
        have e7 := posed_impl (K := K) (numsL_len (r.Frames.getD 0 default)) t0.1 (by omega) (by omega)
        rw [pose_back] at e7
        have l0 := numsL_len (r.Frames.getD 0 default)
        have ll := numsL_len (r.Frames.getD (r.Frames.length - 1) default)
        have e8 : impl_ChangedNumbers K (r.Frames.getD 0 default) (r.Frames.getD (r.Frames.length - 1) default) = some (chL (numsL (r.Frames.getD 0 default)) (numsL (r.Frames.getD (r.Frames.length - 1) default)) (numsL (r.Frames.getD 0 default)).length, true) := by
          unfold impl_ChangedNumbers impl_arePair
          have : ((((r.Frames.getD 0 default).Turns.length : Int) == ((r.Frames.getD (r.Frames.length - 1) default).Turns.length : Int))) = true := by rw [beq_iff_eq]; omega
          rw [isP _ t0.1 t0.2, bind_of, ite2_true, this, bind_of, bind_of, Bool.not_true, ite2_false, listed_eq (by omega) (by omega), bind_of, listed_eq (by omega) (by omega), bind_of, changed_eq (by omega) (by omega) (by omega), bind_of]
        have z0 : (0 : Int).toNat = 0 := rfl
        have c4 : IntKind.i64.wrap (3 + IntKind.i64.wrap (4 * r.Bones)) = ((numsL (r.Frames.getD 0 default)).length : Int) := by
          have hbn := hr.bones
          rw [wrap_in (n := 4 * r.Bones) (by omega) (by omega), wrap_in (by omega) (by omega)]
          omega
        have c5 : ((numsL (r.Frames.getD (r.Frames.length - 1) default)).length : Int) = ((numsL (r.Frames.getD 0 default)).length : Int) := by omega
        rw [show ((r.Frames.length : Int) == 0) = false by rw [beq_eq_false_iff_ne]; omega, ite2_false, w3]
        simp only [Int.toNat_natCast, z0, e4, bind_of]
        rw [chk_pos (by omega)]
        simp only [e5, bind_of]
        rw [chk_pos (by omega)]
        simp only [e6 _ t0.1 t0.2, e6 _ tl.1 tl.2, e7, e8, bind_of, Bool.not_true, ite2_false, sameR_refl hK hr, sameP_refl (K := K) (p := r.Frames.getD 0 default) (by omega) (by omega), c4, c5, bne_self_eq_false]
        have := told_loop (K := K) (a := numsL (r.Frames.getD 0 default)) (b := numsL (r.Frames.getD (r.Frames.length - 1) default)) (by omega) (by omega) true true true K 0 (by omega) (by omega)
        exact this

end Go.Fw
