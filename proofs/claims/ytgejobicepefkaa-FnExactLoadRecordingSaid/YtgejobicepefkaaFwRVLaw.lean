/- The laws of recordings, in plain Lean: what is compared, marked and held. -/
import Derived.Test.YtgejobicepefkaaFwRV
import Derived.Test.YtgejobicepefkaaFwPu
namespace Go.Fw
open Go


theorem same_Float (K : Nat) (a : F64) : laws_sameFloat K a a = some true := by
  unfold laws_sameFloat
  cases h : a.ne a
  · have heq : a.eq a = true := by
      unfold Fl.ne cmpBits at h
      unfold Fl.eq cmpBits
      simpa using h
    simp only [ite2_false, bind_of, heq]
    cases a.eq (Fl.mk (k := .f64) 0 (by decide)) <;> simp [ite2]
  · simp [ite2]
theorem eq_Vector (K : Nat) (a : Vector) : laws_eqVector K a a = some true := by
  unfold laws_eqVector
  simp [same_Float, ite2]
theorem eq_Turn (K : Nat) (a : Turn) : laws_eqTurn K a a = some true := by
  unfold laws_eqTurn
  simp [same_Float, ite2]
theorem eq_TurnS {K : Nat} {a : List Turn} (hl : a.length ≤ maxLen) (hK : a.length < K) : laws_eqTurnS K a a = some true := by
  unfold laws_eqTurnS
  simp only [bne_self_eq_false, ite2_false]
  exact eq_loop a (laws_eqTurn K) (fun x _ => eq_Turn K x) hl (laws_eqTurnS_l1 K a a) (fun k i => by rw [laws_eqTurnS_l1]) K 0 (by omega) (by omega)
theorem eq_Pose {K : Nat} {a : Pose} (hl : a.Turns.length ≤ maxLen) (hK : a.Turns.length < K) : laws_eqPose K a a = some true := by
  unfold laws_eqPose
  simp [eq_Vector, eq_TurnS hl hK, ite2]
theorem eq_PoseS {K : Nat} {a : List Pose} (hl : a.length ≤ maxLen) (hl2 : ∀ p ∈ a, p.Turns.length ≤ maxLen) (hK : a.length < K) (hK2 : ∀ p ∈ a, p.Turns.length < K) : laws_eqPoseS K a a = some true := by
  unfold laws_eqPoseS
  simp only [bne_self_eq_false, ite2_false]
  exact eq_loop a (laws_eqPose K) (fun x hx => eq_Pose (hl2 x hx) (hK2 x hx)) hl (laws_eqPoseS_l1 K a a) (fun k i => by rw [laws_eqPoseS_l1]) K 0 (by omega) (by omega)
theorem eq_Recording {K : Nat} {a : Recording} (hl : a.Frames.length ≤ maxLen) (hl2 : ∀ p ∈ a.Frames, p.Turns.length ≤ maxLen) (hK : a.Frames.length < K) (hK2 : ∀ p ∈ a.Frames, p.Turns.length < K) : laws_eqRecording K a a = some true := by
  unfold laws_eqRecording
  simp [eq_PoseS hl hl2 hK hK2, ite2]
/-! Marks. -/
theorem word_mod (f : Ieee.Format) (neg : Bool) {r : Nat} (h : r < f.signWeight) : f.word neg r % f.signWeight = r := by
  unfold Ieee.Format.word
  split
  · rw [Nat.add_mod_left, Nat.mod_eq_of_lt h]
  · exact Nat.mod_eq_of_lt h
theorem read_word_num (f : Ieee.Format) (neg : Bool) {r : Nat} (h : r ≤ f.infRung) : (f.read (f.word neg r)).isNaN = false := by
  unfold Ieee.Format.read
  simp only [word_mod f neg (Nat.lt_of_le_of_lt h f.infRung_lt)]
  split
  · rfl
  · split
    · rfl
    · split
      · rfl
      · omega
theorem nearest_num (f : Ieee.Format) (neg : Bool) (m : Nat) (p : Int) : (f.read (f.nearest neg m p)).isNaN = false := by
  unfold Ieee.Format.nearest
  dsimp only
  split
  · exact read_word_num f neg (Nat.zero_le _)
  · exact read_word_num f neg (Nat.min_le_right ..)
theorem order_self {d : Ieee.Datum} (h : d.isNaN = false) : d.order d = some .eq := by
  cases d with
  | number s m i => simp [Ieee.Datum.order]
  | infinity s => simp [Ieee.Datum.order]
  | nan s t => cases h
theorem ofInt_ne (k : FloatKind) (n : Int) : (Fl.ofInt k n).ne (Fl.ofInt k n) = false := by
  have : k.format.order (canonF k (k.nearest n)) (canonF k (k.nearest n)) = some .eq := by
    rw [← order_canon]
    exact order_self (nearest_num _ _ _ _)
  show (k.format.order (canonF k (k.nearest n)) (canonF k (k.nearest n)) != some .eq) = false
  rw [this]; rfl
theorem set_getD {α : Type} [Inhabited α] {xs : List α} {i : Nat} {v : α} (h : i < xs.length) : (xs.set i v).getD i default = v := by
  rw [List.getD_eq_getElem?_getD, List.getElem?_set_self h]; rfl
def mkTurn (k : Int) : Turn := Turn.mk (Fl.ofInt .f32 k) (Fl.ofInt .f32 (k + 1)) (Fl.ofInt .f32 (k + 2)) (Fl.ofInt .f32 (k + 3))
theorem markTurnS_step (K : Nat) (a0 : List Turn) (k : Nat) (x4 : Int) (i : Nat) (xs : List Turn) (h0 : 0 ≤ x4) (h1 : x4 ≤ 4611686018427387904) (hi : i < xs.length) (hl : xs.length ≤ maxLen) :
    laws_markTurnS_l1 K a0 (k + 1) x4 (i : Int) xs = laws_markTurnS_l1 K a0 k (x4 + 4) ((i + 1 : Nat) : Int) (xs.set i (mkTurn x4)) := by
  rw [maxLen_eq] at hl
  have w1 : IntKind.i64.wrap (x4 + 1) = x4 + 1 := wrap_in (by omega) (by omega)
  have w2 : IntKind.i64.wrap (x4 + 1 + 1) = x4 + 2 := by rw [wrap_in (by omega) (by omega)]; omega
  have w3 : IntKind.i64.wrap (x4 + 2 + 1) = x4 + 3 := by rw [wrap_in (by omega) (by omega)]; omega
  have w4 : IntKind.i64.wrap (x4 + 3 + 1) = x4 + 4 := by rw [wrap_in (by omega) (by omega)]; omega
  have w5 : IntKind.i64.wrap ((i : Int) + 1) = ((i + 1 : Nat) : Int) := by rw [wrap_in (by omega) (by omega)]; omega
  have hc : (0 ≤ (i : Int) ∧ (i : Int) < (xs.length : Int)) := by omega
  rw [laws_markTurnS_l1]
  simp only [Int.toNat_natCast, w1, w2, w3, w4, w5, List.length_set, bind_of, set_getD hi, List.set_set, ite2_dec, if_pos hc.2, chk_pos hc]
  rfl
theorem markTurnS_end (K : Nat) (a0 : List Turn) (k : Nat) (x4 : Int) (i : Nat) (xs : List Turn) (hi : xs.length ≤ i) (he : xs.length = a0.length) :
    laws_markTurnS_l1 K a0 (k + 1) x4 (i : Int) xs = some (x4, xs) := by
  rw [laws_markTurnS_l1, ite2_dec, if_neg (by omega), chk_pos he]
theorem markTurnS_loop (K : Nat) (a0 : List Turn) (k0 : Int) (hk0 : 0 ≤ k0) (hl : (a0.length : Int) ≤ 1048576) (hk1 : k0 + 4 * (a0.length : Int) ≤ 4611686018427387904) : ∀ (k i : Nat) (xs : List Turn), i ≤ a0.length → xs.length = a0.length → a0.length - i < k →
    (∀ j, j < i → xs[j]? = some (mkTurn (k0 + 4 * (j : Int)))) → ∃ ys, laws_markTurnS_l1 K a0 k (k0 + 4 * (i : Int)) (i : Int) xs = some (k0 + 4 * (a0.length : Int), ys) ∧ ys.length = a0.length ∧ ∀ j, j < a0.length → ys[j]? = some (mkTurn (k0 + 4 * (j : Int))) := by
  intro k
  induction k with
  | zero => intro i xs _ _ h _; omega
  | succ k ih =>
    intro i xs hi hx hk hp
    by_cases h : i < a0.length
    · rw [markTurnS_step K a0 k _ i xs (by omega) (by omega) (by omega) (by rw [maxLen_eq]; omega)]
      have : k0 + 4 * (i : Int) + 4 = k0 + 4 * ((i + 1 : Nat) : Int) := by omega
      rw [this]
      refine ih (i + 1) _ (by omega) (by simpa using hx) (by omega) (fun j hj => ?_)
      by_cases e : j = i
      · subst e
        rw [List.getElem?_set_self (by omega)]
      · rw [List.getElem?_set_ne (by omega)]
        exact hp j (by omega)
    · have e : i = a0.length := by omega
      rw [markTurnS_end K a0 k _ i xs (by omega) hx]
      subst e
      exact ⟨xs, rfl, hx, hp⟩
theorem mark_TurnS {K : Nat} {a : List Turn} {k0 : Int} (hk0 : 0 ≤ k0) (hl : (a.length : Int) ≤ 1048576) (hk1 : k0 + 4 * (a.length : Int) ≤ 4611686018427387904) (hK : a.length < K) :
    ∃ ys, laws_markTurnS K a k0 = some (k0 + 4 * (a.length : Int), ys) ∧ ys.length = a.length ∧ ∀ j, j < a.length → ys[j]? = some (mkTurn (k0 + 4 * (j : Int))) := by
  unfold laws_markTurnS
  have := markTurnS_loop K a k0 hk0 hl hk1 K 0 a (by omega) rfl (by omega) (fun j hj => by omega)
  simpa using this
theorem held_TurnS_loop (K : Nat) (a : List Turn) (k0 : Int) (hk0 : 0 ≤ k0) (hl : (a.length : Int) ≤ 1048576) (hk1 : k0 + 4 * (a.length : Int) ≤ 4611686018427387904) (hp : ∀ j, j < a.length → a[j]? = some (mkTurn (k0 + 4 * (j : Int)))) : ∀ (k i : Nat), i ≤ a.length → a.length - i < k →
    laws_heldTurnS_l1 K a k (k0 + 4 * (i : Int)) (i : Int) = some (k0 + 4 * (a.length : Int)) := by
  intro k
  induction k with
  | zero => intro i _ h; omega
  | succ k ih =>
    intro i hi hk
    rw [laws_heldTurnS_l1, ite2_dec]
    by_cases h : i < a.length
    · rw [if_pos (by omega), chk_pos (by omega), Int.toNat_natCast]
      have hg : a.getD i default = mkTurn (k0 + 4 * (i : Int)) := by rw [List.getD_eq_getElem?_getD, hp i h]; rfl
      generalize hx : k0 + 4 * (i : Int) = x at hg
      have w1 : IntKind.i64.wrap (x + 1) = x + 1 := wrap_in (by omega) (by omega)
      have w2 : IntKind.i64.wrap (x + 1 + 1) = x + 2 := by rw [wrap_in (by omega) (by omega)]; omega
      have w3 : IntKind.i64.wrap (x + 2 + 1) = x + 3 := by rw [wrap_in (by omega) (by omega)]; omega
      have w4 : IntKind.i64.wrap (x + 3 + 1) = x + 4 := by rw [wrap_in (by omega) (by omega)]; omega
      have w5 : IntKind.i64.wrap ((i : Int) + 1) = ((i + 1 : Nat) : Int) := by rw [wrap_in (by omega) (by omega)]; omega
      simp only [hg, mkTurn, w1, w2, w3, w4, w5, ofInt_ne, ite2_false]
      have : x + 4 = k0 + 4 * ((i + 1 : Nat) : Int) := by omega
      rw [this]
      exact ih (i + 1) (by omega) (by omega)
    · rw [if_neg (by omega)]
      have : i = a.length := by omega
      rw [this]
theorem held_TurnS {K : Nat} {a : List Turn} {k0 : Int} (hk0 : 0 ≤ k0) (hl : (a.length : Int) ≤ 1048576) (hk1 : k0 + 4 * (a.length : Int) ≤ 4611686018427387904) (hp : ∀ j, j < a.length → a[j]? = some (mkTurn (k0 + 4 * (j : Int)))) (hK : a.length < K) :
    laws_heldTurnS K a k0 = some (k0 + 4 * (a.length : Int)) := by
  unfold laws_heldTurnS
  have := held_TurnS_loop K a k0 hk0 hl hk1 hp K 0 (by omega) (by omega)
  simpa using this
def mkVec (k : Int) : Vector := Vector.mk (Fl.ofInt .f32 k) (Fl.ofInt .f32 (k + 1)) (Fl.ofInt .f32 (k + 2))
theorem markPoseS_step (K : Nat) (a0 : List Pose) (k : Nat) (x4 : Int) (i : Nat) (xs : List Pose) (h0 : 0 ≤ x4) (h1 : x4 ≤ 4611686018427387904) (hi : i < xs.length) (hl : xs.length ≤ maxLen) :
    laws_markPoseS_l1 K a0 (k + 1) x4 (i : Int) xs = (laws_markTurnS K (xs.getD i default).Turns (x4 + 3)).bind fun v => laws_markPoseS_l1 K a0 k v.1 ((i + 1 : Nat) : Int) (xs.set i (Pose.mk (mkVec x4) v.2)) := by
  rw [maxLen_eq] at hl
  have w1 : IntKind.i64.wrap (x4 + 1) = x4 + 1 := wrap_in (by omega) (by omega)
  have w2 : IntKind.i64.wrap (x4 + 1 + 1) = x4 + 2 := by rw [wrap_in (by omega) (by omega)]; omega
  have w3 : IntKind.i64.wrap (x4 + 2 + 1) = x4 + 3 := by rw [wrap_in (by omega) (by omega)]; omega
  have w5 : IntKind.i64.wrap ((i : Int) + 1) = ((i + 1 : Nat) : Int) := by rw [wrap_in (by omega) (by omega)]; omega
  have hc : (0 ≤ (i : Int) ∧ (i : Int) < (xs.length : Int)) := by omega
  rw [laws_markPoseS_l1]
  simp only [Int.toNat_natCast, w1, w2, w3, w5, List.length_set, bind_of, set_getD hi, List.set_set, ite2_dec, if_pos hc.2, chk_pos hc]
  rfl
theorem markPoseS_end (K : Nat) (a0 : List Pose) (k : Nat) (x4 : Int) (i : Nat) (xs : List Pose) (hi : xs.length ≤ i) (he : xs.length = a0.length) :
    laws_markPoseS_l1 K a0 (k + 1) x4 (i : Int) xs = some (x4, xs) := by
  rw [laws_markPoseS_l1, ite2_dec, if_neg (by omega), chk_pos he]
/-- Where the count stands in front of pose j. -/
def poseK (a : List Pose) (k0 : Int) : Nat → Int
  | 0 => k0
  | j + 1 => poseK a k0 j + 3 + 4 * ((a.getD j default).Turns.length : Int)
def MkPose (q : Int) (n : Nat) (p : Pose) : Prop := p.Root = mkVec q ∧ p.Turns.length = n ∧ ∀ t, t < n → p.Turns[t]? = some (mkTurn (q + 3 + 4 * (t : Int)))
theorem poseK_bound {a : List Pose} {k0 : Int} (_hk0 : 0 ≤ k0) (ht : ∀ p ∈ a, (p.Turns.length : Int) ≤ 1048576) : ∀ j, j ≤ a.length → k0 ≤ poseK a k0 j ∧ poseK a k0 j ≤ k0 + (j : Int) * 4194307 := by
  intro j
  induction j with
  | zero => intro _; exact ⟨by simp [poseK], by simp [poseK]⟩
  | succ j ih =>
    intro hj
    obtain ⟨h1, h2⟩ := ih (by omega)
    have h3 := ht _ (getD_mem (xs := a) (i := j) (by omega))
    simp only [poseK]
    omega
theorem markPoseS_loop (K : Nat) (a0 : List Pose) (k0 : Int) (hk0 : 0 ≤ k0) (hl : (a0.length : Int) ≤ 1048576) (ht : ∀ p ∈ a0, (p.Turns.length : Int) ≤ 1048576) (hk1 : k0 + (a0.length : Int) * 4194307 ≤ 4611686018427387904) (hKt : ∀ p ∈ a0, p.Turns.length < K) : ∀ (k i : Nat) (xs : List Pose), i ≤ a0.length → xs.length = a0.length → a0.length - i < k →
    (∀ j, j < i → ∃ p, xs[j]? = some p ∧ MkPose (poseK a0 k0 j) (a0.getD j default).Turns.length p) → (∀ j, i ≤ j → xs[j]? = a0[j]?) → ∃ ys, laws_markPoseS_l1 K a0 k (poseK a0 k0 i) (i : Int) xs = some (poseK a0 k0 a0.length, ys) ∧ ys.length = a0.length ∧ ∀ j, j < a0.length → ∃ p, ys[j]? = some p ∧ MkPose (poseK a0 k0 j) (a0.getD j default).Turns.length p := by
  intro k
  induction k with
  | zero => intro i xs _ _ h _ _; omega
  | succ k ih =>
    intro i xs hi hx hk hp hq
    by_cases h : i < a0.length
    · obtain ⟨b1, b2⟩ := poseK_bound hk0 ht i hi
      obtain ⟨b3, b4⟩ := poseK_bound hk0 ht (i + 1) h
      have hmem := getD_mem (xs := a0) (i := i) h
      have hg : xs.getD i default = a0.getD i default := by rw [List.getD_eq_getElem?_getD, List.getD_eq_getElem?_getD, hq i (Nat.le_refl _)]
      have hn := ht _ hmem
      rw [markPoseS_step K a0 k _ i xs (by omega) (by omega) (by omega) (by rw [maxLen_eq]; omega), hg]
      simp only [poseK] at b3 b4
      obtain ⟨ys, e1, e2, e3⟩ := mark_TurnS (K := K) (a := (a0.getD i default).Turns) (k0 := poseK a0 k0 i + 3) (by omega) hn (by omega) (hKt _ hmem)
      rw [e1, bind_of]
      refine ih (i + 1) _ (by omega) (by simpa using hx) (by omega) (fun j hj => ?_) (fun j hj => ?_)
      · by_cases e : j = i
        · subst e
          exact ⟨_, List.getElem?_set_self (by omega), rfl, e2, e3⟩
        · rw [List.getElem?_set_ne (by omega)]
          exact hp j (by omega)
      · rw [List.getElem?_set_ne (by omega)]
        exact hq j (by omega)
    · have e : i = a0.length := by omega
      rw [markPoseS_end K a0 k _ i xs (by omega) hx]
      subst e
      exact ⟨xs, rfl, hx, hp⟩
theorem mark_PoseS {K : Nat} {a : List Pose} {k0 : Int} (hk0 : 0 ≤ k0) (hl : (a.length : Int) ≤ 1048576) (ht : ∀ p ∈ a, (p.Turns.length : Int) ≤ 1048576) (hk1 : k0 + (a.length : Int) * 4194307 ≤ 4611686018427387904) (hK : a.length < K) (hKt : ∀ p ∈ a, p.Turns.length < K) :
    ∃ ys, laws_markPoseS K a k0 = some (poseK a k0 a.length, ys) ∧ ys.length = a.length ∧ ∀ j, j < a.length → ∃ p, ys[j]? = some p ∧ MkPose (poseK a k0 j) (a.getD j default).Turns.length p :=
  markPoseS_loop K a k0 hk0 hl ht hk1 hKt K 0 a (by omega) rfl (by omega) (fun j hj => by omega) (fun j _ => rfl)
theorem held_PoseS_loop (K : Nat) (a ys : List Pose) (k0 : Int) (hk0 : 0 ≤ k0) (hl : (a.length : Int) ≤ 1048576) (ht : ∀ p ∈ a, (p.Turns.length : Int) ≤ 1048576) (hk1 : k0 + (a.length : Int) * 4194307 ≤ 4611686018427387904) (hKt : ∀ p ∈ a, p.Turns.length < K) (hy : ys.length = a.length) (hp : ∀ j, j < a.length → ∃ p, ys[j]? = some p ∧ MkPose (poseK a k0 j) (a.getD j default).Turns.length p) : ∀ (k i : Nat), i ≤ a.length → a.length - i < k →
    laws_heldPoseS_l1 K ys k (poseK a k0 i) (i : Int) = some (poseK a k0 a.length) := by
  intro k
  induction k with
  | zero => intro i _ h; omega
  | succ k ih =>
    intro i hi hk
    rw [laws_heldPoseS_l1, ite2_dec]
    by_cases h : i < a.length
    · rw [if_pos (by omega), chk_pos (by omega), Int.toNat_natCast]
      obtain ⟨p, hpi, hr, hn, hm⟩ := hp i h
      have hg : ys.getD i default = p := by rw [List.getD_eq_getElem?_getD, hpi]; rfl
      obtain ⟨b1, b2⟩ := poseK_bound hk0 ht i hi
      obtain ⟨b3, b4⟩ := poseK_bound hk0 ht (i + 1) h
      have hmem := getD_mem (xs := a) (i := i) h
      have hnn := ht _ hmem
      have hKn := hKt _ hmem
      have hnext : poseK a k0 (i + 1) = poseK a k0 i + 3 + 4 * ((a.getD i default).Turns.length : Int) := rfl
      generalize hx : poseK a k0 i = x at *
      have w1 : IntKind.i64.wrap (x + 1) = x + 1 := wrap_in (by omega) (by omega)
      have w2 : IntKind.i64.wrap (x + 1 + 1) = x + 2 := by rw [wrap_in (by omega) (by omega)]; omega
      have w3 : IntKind.i64.wrap (x + 2 + 1) = x + 3 := by rw [wrap_in (by omega) (by omega)]; omega
      have w5 : IntKind.i64.wrap ((i : Int) + 1) = ((i + 1 : Nat) : Int) := by rw [wrap_in (by omega) (by omega)]; omega
      have hT := held_TurnS (K := K) (a := p.Turns) (k0 := x + 3) (by omega) (by omega) (by omega) (fun t htt => hm t (by omega)) (by omega)
      simp only [hg, hr, mkVec, w1, w2, w3, w5, ofInt_ne, ite2_false, hT, bind_of, ite2_dec]
      rw [if_neg (by omega)]
      have : x + 3 + 4 * (p.Turns.length : Int) = poseK a k0 (i + 1) := by rw [hnext, hn]
      rw [this]
      exact ih (i + 1) (by omega) (by omega)
    · rw [if_neg (by omega)]
      have : i = a.length := by omega
      rw [this]
theorem held_PoseS {K : Nat} {a ys : List Pose} {k0 : Int} (hk0 : 0 ≤ k0) (hl : (a.length : Int) ≤ 1048576) (ht : ∀ p ∈ a, (p.Turns.length : Int) ≤ 1048576) (hk1 : k0 + (a.length : Int) * 4194307 ≤ 4611686018427387904) (hK : a.length < K) (hKt : ∀ p ∈ a, p.Turns.length < K) (hy : ys.length = a.length) (hp : ∀ j, j < a.length → ∃ p, ys[j]? = some p ∧ MkPose (poseK a k0 j) (a.getD j default).Turns.length p) :
    laws_heldPoseS K ys k0 = some (poseK a k0 a.length) :=
  held_PoseS_loop K a ys k0 hk0 hl ht hk1 hKt hy hp K 0 (by omega) (by omega)
/-- A recording of a size that the laws bear. -/
structure OkRec (K : Nat) (a : Recording) : Prop where
  frames : (a.Frames.length : Int) ≤ 1048576
  turns : ∀ p ∈ a.Frames, (p.Turns.length : Int) ≤ 1048576
  framesK : a.Frames.length < K
  turnsK : ∀ p ∈ a.Frames, p.Turns.length < K
theorem OkRec.eq {K : Nat} {a : Recording} (h : OkRec K a) : laws_eqRecording K a a = some true :=
  eq_Recording (by rw [maxLen_eq]; have := h.frames; omega) (fun p hp => by rw [maxLen_eq]; have := h.turns p hp; omega) h.framesK h.turnsK
/-- Marked from 1, or from what another left: it is held, and the count stays small. -/
theorem OkRec.mark {K : Nat} {a : Recording} (h : OkRec K a) {k0 : Int} (hk0 : 0 ≤ k0) (hk1 : k0 ≤ 43980465111040010) :
    ∃ m ys, laws_markRecording K a k0 = some (m, ys) ∧ k0 ≤ m ∧ m ≤ k0 + 4398046511104000 ∧ ys.length = a.Frames.length ∧ ∀ b, laws_heldRecording K (Recording.mk b ys) k0 = some m := by
  have hf := h.frames
  obtain ⟨ys, e1, e2, e3⟩ := mark_PoseS (K := K) hk0 h.frames h.turns (by omega) h.framesK h.turnsK
  obtain ⟨b1, b2⟩ := poseK_bound (a := a.Frames) hk0 h.turns a.Frames.length (Nat.le_refl _)
  refine ⟨poseK a.Frames k0 a.Frames.length, ys, ?_, b1, by omega, e2, fun b => ?_⟩
  · unfold laws_markRecording
    rw [e1, bind_of, chk_pos e2, chk_pos e2]
  · unfold laws_heldRecording
    rw [held_PoseS hk0 h.frames h.turns (by omega) h.framesK h.turnsK e2 e3, bind_of, ite2_dec, if_neg (by omega)]

end Go.Fw
