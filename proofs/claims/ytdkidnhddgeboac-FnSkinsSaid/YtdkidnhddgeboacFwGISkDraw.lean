/- Skeletons that are drawn: their parents come first, their offsets are integers. (A template.) -/
import Derived.Test.YtdkidnhddgeboacFwGISrcLaw
import Derived.Test.YtdkidnhddgeboacFwFD
namespace Go.Fw
open Go

theorem set_ne {α : Type} [Inhabited α] {xs : List α} {i j : Nat} {v : α} (h : i ≠ j) : (xs.set i v).getD j default = xs.getD j default := by
  rw [List.getD_eq_getElem?_getD, List.getElem?_set_ne h, ← List.getD_eq_getElem?_getD]
theorem getD_left {α : Type} [Inhabited α] {a b : List α} {j : Nat} (h : j < a.length) : (a ++ b).getD j default = a.getD j default := by
  rw [List.getD_eq_getElem?_getD, List.getElem?_append_left h, ← List.getD_eq_getElem?_getD]
theorem getD_end {α : Type} [Inhabited α] {a : List α} {x : α} {j : Nat} (h : j = a.length) : (a ++ [x]).getD j default = x := by
  subst h
  rw [List.getD_eq_getElem?_getD, List.getElem?_append_right (Nat.le_refl _), Nat.sub_self]; rfl
/-- A parent of the bone i. -/
def Par (i : Nat) (p : Int) : Prop := (i = 0 → p = -1) ∧ (0 < i → 0 ≤ p ∧ p < (i : Int))
/-- A skeleton that is right. -/
structure Sk (n : Nat) (s : Skeleton) : Prop where
  len : s.Bones.length = n
  n1 : 1 ≤ n
  n12 : n ≤ 12
  par : ∀ i, i < n → Par i (s.Bones.getD i default).Parent
/-- A small integer's number. -/
def In4 (f : F32) : Prop := ∃ q : Int, -4 ≤ q ∧ q ≤ 4 ∧ f = Fl.ofInt .f32 q
def Off4 (v : Vector) : Prop := In4 v.X ∧ In4 v.Y ∧ In4 v.Z
theorem sized_loop {K n : Nat} {c : List Int} (hc : Byt c) (at0 sd0 : Int) (hn : n ≤ 12) : ∀ (k i : Nat) (a s : Int) (bs : List Bone), i ≤ n → n - i < k → bs.length = i → (∀ j, j < i → Par j (bs.getD j default).Parent) →
    Dr a (22 * ((n - i : Nat) : Int)) (spec_l03DrawSized_l1 K (l00Src.mk c at0 sd0) (n : Int) k (i : Int) a s bs) (fun x => x.Bones.length = n ∧ ∀ j, j < n → Par j (x.Bones.getD j default).Parent) := by
  intro k
  induction k with
  | zero => intro i a s bs _ h; omega
  | succ k ih =>
    intro i a s bs h1 h2 h3 h4
    rw [spec_l03DrawSized_l1]
    refine .ite (fun h => ?_) fun h => ?_
    · have hi : i < n := by have := of_decide_eq_true h; omega
      have w : IntKind.i64.wrap ((i : Int) + 1) = ((i + 1 : Nat) : Int) := by rw [wrap_in (by omega) (by omega)]; omega
      have w2 : IntKind.i64.wrap ((i : Int) - 1) = (i : Int) - 1 := wrap_in (by omega) (by omega)
      rw [show 22 * ((n - i : Nat) : Int) = 2 + (2 + (18 + 22 * ((n - (i + 1) : Nat) : Int))) by omega, w, w2]
      have step : ∀ (p : Int) (v : Vector), Par i p → ∀ j, j < i + 1 → Par j ((bs ++ [Bone.mk p v]).getD j default).Parent := by
        intro p v hp j hj
        by_cases e : j < i
        · rw [getD_left (by omega)]; exact h4 j e
        · have : j = i := by omega
          subst this
          rw [getD_end (by omega)]; exact hp
      refine .ite (fun g => ?_) fun g => ?_
      · have hpos : 0 < i := by have := of_decide_eq_true g; omega
        refine Dr.bind (pick_dr hc a s (i : Int)) (by omega) fun r a1 s1 hr => Dr.bind (one_dr hc a1 s1 2) (by omega) fun q a2 s2 _ => .ite (fun _ => ?_) fun _ => ?_
        · refine Dr.bind (vector_dr hc a2 s2) (by omega) fun v a3 s3 _ => .chk (by simp; omega) ?_
          exact ih (i + 1) a3 s3 _ (by omega) (by omega) (by simp; omega) (step _ _ ⟨fun e => by omega, fun _ => by omega⟩)
        · refine Dr.bind (vector_dr hc a2 s2) (by omega) fun v a3 s3 _ => .chk (by simp; omega) ?_
          exact ih (i + 1) a3 s3 _ (by omega) (by omega) (by simp; omega) (step _ _ ⟨fun e => by omega, fun _ => by show 0 ≤ r ∧ r < (i : Int); omega⟩)
      · have hz : i = 0 := by have := of_decide_eq_false g; omega
        refine Dr.weak (c := 18 + 22 * ((n - (i + 1) : Nat) : Int)) (P := fun x => x.Bones.length = n ∧ ∀ j, j < n → Par j (x.Bones.getD j default).Parent) ?_ (by omega) (fun _ h => h)
        refine Dr.bind (vector_dr hc a s) (by omega) fun v a3 s3 _ => .chk (by simp; omega) ?_
        exact ih (i + 1) a3 s3 _ (by omega) (by omega) (by simp; omega) (step _ _ ⟨fun _ => rfl, fun e => by omega⟩)
    · have hi : i = n := by have := of_decide_eq_false h; omega
      subst hi
      exact .of ⟨h3, h4⟩ (by omega) rfl
theorem offs_loop {K n : Nat} {c : List Int} (hc : Byt c) (v : Skeleton × Int × Int) (hv : v.1.Bones.length = n) (hn : n ≤ 12) : ∀ (k i : Nat) (a s : Int) (bs : List Bone), i ≤ n → n - i < k → 0 ≤ a → a + 6 * ((n - i : Nat) : Int) ≤ 4611686018427387904 → bs.length = n → (∀ j, j < n → Par j (bs.getD j default).Parent) → (∀ j, j < i → Off4 (bs.getD j default).Offset) →
    ∃ x, spec_B10Skeleton_l1 K c v k (i : Int) a s bs = some x ∧ x.Bones.length = n ∧ (∀ j, j < n → Par j (x.Bones.getD j default).Parent) ∧ ∀ j, j < n → Off4 (x.Bones.getD j default).Offset := by
  intro k
  induction k with
  | zero => intro i a s bs _ h; omega
  | succ k ih =>
    intro i a s bs h1 h2 h0 hm h3 h4 h5
    rw [spec_B10Skeleton_l1, ite2_dec]
    by_cases hi : i < n
    · obtain ⟨r1, a1, s1, e1, p1, q1, q2⟩ := pick_dr (K := K) hc a s 9 h0 (by omega)
      obtain ⟨r2, a2, s2, e2, p2, q3, q4⟩ := pick_dr (K := K) hc a1 s1 9 q1 (by omega)
      obtain ⟨r3, a3, s3, e3, p3, q5, q6⟩ := pick_dr (K := K) hc a2 s2 9 q3 (by omega)
      rw [if_pos (by omega)]
      simp only [e1, bind_of, e2, e3, Int.toNat_natCast, List.length_set, set_getD (show i < bs.length by omega), List.set_set]
      rw [chk_pos (by omega), chk_pos (by omega), chk_pos (by omega), wrap_nat1 (by omega), wrap_in (n := r1 - 4) (by omega) (by omega), wrap_in (n := r2 - 4) (by omega) (by omega), wrap_in (n := r3 - 4) (by omega) (by omega)]
      have g1 : i < bs.length := by omega
      refine ih (i + 1) a3 s3 _ (by omega) (by omega) q5 (by omega) (by simp; exact h3) (fun j hj => ?_) (fun j hj => ?_)
      · by_cases e : i = j
        · subst e
          first
          | (rw [set_getD g1]; exact h4 i hi)
          | (rw [set_getD (by simp; exact g1)]; exact h4 i hi)
        · rw [set_ne e]; exact h4 j hj
      · by_cases e : i = j
        · subst e
          rw [set_getD g1]
          exact ⟨⟨r1 - 4, by omega, by omega, rfl⟩, ⟨r2 - 4, by omega, by omega, rfl⟩, ⟨r3 - 4, by omega, by omega, rfl⟩⟩
        · rw [set_ne e]; exact h5 j (by omega)
    · rw [if_neg (by omega)]
      exact ⟨_, rfl, h3, h4, fun j hj => h5 j (by omega)⟩
theorem skeleton_drawn {K : Nat} (hK : 100 < K) {c : List Int} (hc : Byt c) : ∃ x n, spec_B10Skeleton K c = some x ∧ Sk n x ∧ n ≤ 6 ∧ ∀ j, j < n → Off4 (x.Bones.getD j default).Offset := by
  obtain ⟨r, a1, s1, e1, p1, q1, q2⟩ := pick_dr (K := K) hc 0 0 6 (by omega) (by omega)
  obtain ⟨m, hm⟩ : ∃ m : Nat, 1 + r = (m : Int) := ⟨(1 + r).toNat, by omega⟩
  obtain ⟨x, a2, s2, e2, ⟨x1, x2⟩, q3, q4⟩ := sized_loop (K := K) (n := m) hc a1 s1 (by omega) K 0 a1 s1 [] (by omega) (by omega) rfl (fun j hj => by omega) q1 (by omega)
  obtain ⟨y, e3, y1, y2, y3⟩ := offs_loop (K := K) hc (x, a2, s2) x1 (by omega) K 0 a2 s2 x.Bones (by omega) (by omega) q3 (by omega) x1 x2 (fun j hj => by omega)
  refine ⟨y, m, ?_, ⟨y1, by omega, by omega, y2⟩, by omega, y3⟩
  unfold spec_B10Skeleton spec_l03DrawSized
  rw [e1, bind_of, wrap_in (by omega) (by omega), hm]
  rw [show ((0 : Nat) : Int) = 0 from rfl] at e2 e3
  rw [e2, bind_of]
  exact e3
theorem Sk.valid {K n : Nat} {x : Skeleton} (hK : 20 < K) (h : Sk n x) : impl_ValidSkeleton K x = some true := by
  have h1 := h.len; have h2 := h.n1; have h3 := h.n12
  have loop : ∀ (k i : Nat), i + 1 ≤ n → n - i < k + 1 → impl_ValidSkeleton_l1 K x k (i : Int) = some true := by
    intro k
    induction k with
    | zero => intro i _ h; omega
    | succ k ih =>
      intro i g1 g2
      have hl : ((x.Bones.drop (1 : Int).toNat).take ((x.Bones.length : Int).toNat - (1 : Int).toNat)).length = n - 1 := by
        rw [List.length_take, List.length_drop]; simp; omega
      rw [impl_ValidSkeleton_l1, hl, ite2_dec, wrap_nat1 (by omega)]
      by_cases hi : i + 1 < n
      · have hg : ((x.Bones.drop (1 : Int).toNat).take (x.Bones.length - (1 : Int).toNat)).getD i default = x.Bones.getD (i + 1) default := by
          rw [List.getD_eq_getElem?_getD, List.getElem?_take, if_pos (by simp; omega), List.getElem?_drop, List.getD_eq_getElem?_getD]
          congr 2
          show 1 + i = i + 1
          omega
        have hp := (h.par (i + 1) hi).2 (by omega)
        rw [if_pos (by omega), chk_pos (by omega), Int.toNat_natCast, Int.toNat_natCast, hg, ite2_dec, if_neg (by omega), bind_of, ite2_dec, if_neg (by omega)]
        exact ih (i + 1) (by omega) (by omega)
      · rw [if_neg (by omega)]
  unfold impl_ValidSkeleton
  have hp := (h.par 0 (by omega)).1 rfl
  rw [ite2_dec, if_neg (by omega), ite2_dec, if_neg (by omega), chk_pos (by omega), bind_of]
  rw [show ((x.Bones.getD ((0 : Int).toNat) default).Parent != (-1 : Int)) = false by rw [show ((0 : Int).toNat) = 0 from rfl, hp]; rfl, ite2_false, chk_pos (by omega)]
  have := loop K 0 (by omega) (by omega)
  exact this

end Go.Fw
