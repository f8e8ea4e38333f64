/- The law FnExactValidStage, in plain Lean: the two answers agree. -/
import Derived.Test.YtgejobicepefkaaFwVSLaw
import Derived.Laws.Strings
namespace Go.Fw
open Go

theorem In_eq (K : Nat) (a b c : Int) : spec_l00In K a b c = some (decide (b ≤ a) && decide (a ≤ c)) := by
  unfold spec_l00In
  rw [ite2_dec]
  by_cases h : b ≤ a
  · rw [if_pos (by omega)]; simp [h]
  · rw [if_neg (by omega)]; simp [h]

theorem toList_data (s : ByteArray) : s.toList = s.data.toList := ByteArray.toList_eq s
theorem empty_list (s : ByteArray) : (!(s.toList == ByteArray.empty.toList)) = decide ((s.size : Int) ≥ 1) := by
  rw [toList_data, toList_data]
  have e : ByteArray.empty.data.toList = [] := rfl
  have hsz : s.size = s.data.toList.length := by simp
  rw [e]
  cases hs : s.data.toList with
  | nil =>
    rw [hs] at hsz
    simp at hsz
    simp [hsz]
  | cons x l =>
    rw [hs] at hsz
    simp at hsz
    have h1 : ((x :: l) == ([] : List UInt8)) = false := rfl
    rw [h1]
    simp; omega

theorem IsName_loop (K : Nat) (s : ByteArray) : ∀ (k : Nat) (i : Int), spec_IsName_l1 K s k i = impl_IsName_l1 K s k i := by
  intro k
  induction k with
  | zero => intro i; rw [spec_IsName_l1, impl_IsName_l1]
  | succ k ih =>
    intro i
    rw [spec_IsName_l1, impl_IsName_l1, empty_list]
    simp only [ih]
theorem IsName_eq (K : Nat) (s : ByteArray) : spec_IsName K s = impl_IsName K s := IsName_loop K s K 0
theorem IsName_some_loop (K : Nat) (s : ByteArray) (hs : s.size ≤ maxLen) : ∀ (k i : Nat), i ≤ s.size → s.size - i < k → ∃ b, impl_IsName_l1 K s k (i : Int) = some b := by
  intro k
  induction k with
  | zero => intro i _ h; omega
  | succ k ih =>
    intro i hi hk
    rw [impl_IsName_l1, ite2_dec]
    by_cases h : i < s.size
    · rw [if_pos (by omega), chk_pos (by omega)]
      have hw : IntKind.i64.wrap ((i : Int) + 1) = ((i + 1 : Nat) : Int) := by
        rw [maxLen_eq] at hs
        rw [wrap_in (by omega) (by omega)]; omega
      rw [hw]
      obtain ⟨b, hb⟩ := ih (i + 1) (by omega) (by omega)
      rw [ite2_dec]
      split
      · exact ⟨false, rfl⟩
      · rw [bind_of, ite2_dec]
        split
        · exact ⟨false, rfl⟩
        · exact ⟨b, hb⟩
    · rw [if_neg (by omega)]
      cases (!(s.toList == ByteArray.empty.toList))
      · exact ⟨false, rfl⟩
      · exact ⟨_, rfl⟩
theorem IsName_some {K : Nat} {s : ByteArray} (hs : s.size ≤ maxLen) (hK : s.size < K) : ∃ b, impl_IsName K s = some b := IsName_some_loop K s hs K 0 (by omega) (by omega)

theorem tail_list (a : List Bone) : (a.drop (1 : Int).toNat).take ((a.length : Int).toNat - (1 : Int).toNat) = a.drop 1 := by
  have : (1 : Int).toNat = 1 := rfl
  rw [this, Int.toNat_natCast, List.take_of_length_le (by simp)]

theorem Skeleton_loop (K : Nat) (a : Skeleton) (hl : a.Bones.length ≤ 12) : ∀ (k i : Nat), i + 1 ≤ a.Bones.length → spec_l03Is_l1 K a k ((i + 1 : Nat) : Int) = impl_ValidSkeleton_l1 K a k (i : Int) := by
  intro k
  induction k with
  | zero => intro i _; rw [spec_l03Is_l1, impl_ValidSkeleton_l1]
  | succ k ih =>
    intro i hi
    rw [spec_l03Is_l1, impl_ValidSkeleton_l1, tail_list, ite2_dec, ite2_dec]
    by_cases h : i + 1 < a.Bones.length
    · have hd : (a.Bones.drop 1).length = a.Bones.length - 1 := by simp
      rw [if_pos (by omega), if_pos (by omega), chk_pos (by omega), chk_pos (by omega), In_eq, bind_of]
      have hg : (a.Bones.drop 1).getD (i : Int).toNat default = a.Bones.getD ((i + 1 : Nat) : Int).toNat default := by
        rw [Int.toNat_natCast, Int.toNat_natCast, List.getD_eq_getElem?_getD, List.getD_eq_getElem?_getD, List.getElem?_drop, Nat.add_comm]
      rw [hg]
      generalize (a.Bones.getD ((i + 1 : Nat) : Int).toNat default).Parent = p
      have w1 : IntKind.i64.wrap (((i + 1 : Nat) : Int) - 1) = i := by rw [wrap_in (by omega) (by omega)]; omega
      have w2 : IntKind.i64.wrap (((i + 1 : Nat) : Int) + 1) = ((i + 1 + 1 : Nat) : Int) := by rw [wrap_in (by omega) (by omega)]; omega
      have w3 : IntKind.i64.wrap ((i : Int) + 1) = ((i + 1 : Nat) : Int) := by rw [wrap_in (by omega) (by omega)]; omega
      rw [w1, w2, w3, ih (i + 1) (by omega), ite2_dec]
      by_cases hp : p < 0
      · rw [if_pos hp]
        have : (!(decide (0 ≤ p) && decide (p ≤ (i : Int)))) = true := by simp; omega
        rw [this]; rfl
      · rw [if_neg hp, bind_of]
        have : (!(decide (0 ≤ p) && decide (p ≤ (i : Int)))) = decide (p > (i : Int)) := by
          have h4 : 0 ≤ p := by omega
          by_cases h2 : p ≤ (i : Int)
          · have h3 : ¬ p > (i : Int) := by omega
            rw [decide_eq_true h4, decide_eq_true h2, decide_eq_false h3]; rfl
          · have h3 : p > (i : Int) := by omega
            rw [decide_eq_true h4, decide_eq_false h2, decide_eq_true h3]; rfl
        rw [this]
    · have hd : (a.Bones.drop 1).length = a.Bones.length - 1 := by simp
      rw [if_neg (by omega), if_neg (by omega)]

theorem Skeleton_some_loop (K : Nat) (a : Skeleton) (hl : a.Bones.length ≤ 12) : ∀ (k i : Nat), i + 1 ≤ a.Bones.length → a.Bones.length - i < k → ∃ b, impl_ValidSkeleton_l1 K a k (i : Int) = some b := by
  intro k
  induction k with
  | zero => intro i _ h; omega
  | succ k ih =>
    intro i hi hk
    rw [impl_ValidSkeleton_l1, tail_list, ite2_dec]
    have hd : (a.Bones.drop 1).length = a.Bones.length - 1 := by simp
    by_cases h : i + 1 < a.Bones.length
    · rw [if_pos (by omega), chk_pos (by omega)]
      have w3 : IntKind.i64.wrap ((i : Int) + 1) = ((i + 1 : Nat) : Int) := by rw [wrap_in (by omega) (by omega)]; omega
      rw [w3]
      obtain ⟨b, hb⟩ := ih (i + 1) (by omega) (by omega)
      rw [ite2_dec]
      split
      · exact ⟨false, rfl⟩
      · rw [bind_of, ite2_dec]
        split
        · exact ⟨false, rfl⟩
        · exact ⟨b, hb⟩
    · rw [if_neg (by omega)]
      exact ⟨true, rfl⟩

theorem Skeleton_eq (K : Nat) (a : Skeleton) : spec_l03Is K a = impl_ValidSkeleton K a := by
  unfold spec_l03Is impl_ValidSkeleton
  rw [In_eq, bind_of, ite2_dec, ite2_dec]
  by_cases h1 : (a.Bones.length : Int) < 1
  · have : (!(decide (1 ≤ (a.Bones.length : Int)) && decide ((a.Bones.length : Int) ≤ 12))) = true := by simp; omega
    rw [this, if_pos h1]; rfl
  · by_cases h2 : (a.Bones.length : Int) > 12
    · have : (!(decide (1 ≤ (a.Bones.length : Int)) && decide ((a.Bones.length : Int) ≤ 12))) = true := by simp; omega
      rw [this, if_neg h1, if_pos h2]; rfl
    · have : (!(decide (1 ≤ (a.Bones.length : Int)) && decide ((a.Bones.length : Int) ≤ 12))) = false := by simp; omega
      rw [this, if_neg h1, if_neg h2, ite2_false]
      cases hc : chk (0 ≤ (0 : Int) ∧ (0 : Int) < (a.Bones.length : Int)) (some ((a.Bones.getD ((0 : Int).toNat) default).Parent != ((-1) : Int))) with
      | none => rfl
      | some j =>
        rw [bind_of, bind_of]
        cases j
        · rw [ite2_false, ite2_false, chk_pos (by omega)]
          exact Skeleton_loop K a (by omega) K 0 (by omega)
        · rfl
theorem Skeleton_some {K : Nat} (a : Skeleton) (hK : a.Bones.length < K) : ∃ b, impl_ValidSkeleton K a = some b := by
  unfold impl_ValidSkeleton
  rw [ite2_dec, ite2_dec]
  by_cases h1 : (a.Bones.length : Int) < 1
  · rw [if_pos h1]; exact ⟨false, rfl⟩
  · by_cases h2 : (a.Bones.length : Int) > 12
    · rw [if_neg h1, if_pos h2]; exact ⟨false, rfl⟩
    · rw [if_neg h1, if_neg h2, chk_pos (by omega), bind_of]
      cases ((a.Bones.getD ((0 : Int).toNat) default).Parent != ((-1) : Int))
      · rw [ite2_false, chk_pos (by omega)]
        exact Skeleton_some_loop K a (by omega) K 0 (by omega) (by omega)
      · exact ⟨false, rfl⟩

theorem Stage_loop (K : Nat) (a : Stage) : ∀ (k : Nat) (i : Int), spec_l11Is_l1 K a k i = impl_ValidStage_l1 K a k i := by
  intro k
  induction k with
  | zero => intro i; rw [spec_l11Is_l1, impl_ValidStage_l1]
  | succ k ih =>
    intro i
    rw [spec_l11Is_l1, impl_ValidStage_l1]
    simp only [ih, IsName_eq]
theorem Stage_eq (K : Nat) (a : Stage) : spec_ValidStage K a = impl_ValidStage K a := by
  unfold spec_ValidStage spec_l11Is impl_ValidStage
  simp only [Skeleton_eq, Stage_loop]
  have : ∀ x : Option Bool, (x.bind fun v => some v) = x := fun x => by cases x <;> rfl
  rw [this]
theorem Stage_some_loop (K : Nat) (a : Stage) (hn : a.Names.length ≤ 1048576) (hp : a.Poses.length = a.Names.length) (hs : ∀ s ∈ a.Names, s.size ≤ maxLen ∧ s.size < K) : ∀ (k i : Nat), i ≤ a.Names.length → a.Names.length - i < k → ∃ b, impl_ValidStage_l1 K a k (i : Int) = some b := by
  intro k
  induction k with
  | zero => intro i _ h; omega
  | succ k ih =>
    intro i hi hk
    rw [impl_ValidStage_l1, ite2_dec]
    by_cases h : i < a.Names.length
    · rw [if_pos (by omega), chk_pos (by omega)]
      have w3 : IntKind.i64.wrap ((i : Int) + 1) = ((i + 1 : Nat) : Int) := by rw [wrap_in (by omega) (by omega)]; omega
      have w1 : IntKind.i64.wrap ((i : Int) - 1) = (i : Int) - 1 := by rw [wrap_in (by omega) (by omega)]
      rw [w3, w1]
      obtain ⟨b, hb⟩ := ih (i + 1) (by omega) (by omega)
      obtain ⟨v, hv⟩ := IsName_some (K := K) (hs _ (getD_mem (xs := a.Names) (i := i) h)).1 (hs _ (getD_mem (xs := a.Names) (i := i) h)).2
      rw [Int.toNat_natCast, hv, bind_of]
      have fin : ∀ c : Bool, ∃ b', ((some c : Option Bool).bind fun j => ite2 j (some false) (impl_ValidStage_l1 K a k ((i + 1 : Nat) : Int))) = some b' := by
        intro c
        cases c
        · exact ⟨b, hb⟩
        · exact ⟨false, rfl⟩
      cases v
      · exact fin true
      · simp only [Bool.not_true, ite2_false]
        rw [ite2_dec]
        by_cases h0 : (i : Int) > 0
        · rw [if_pos h0, chk_pos (by omega), chk_pos (by omega)]
          cases (!(Op.bytesLess (a.Names.getD (((i : Int) - 1).toNat) default).toList (a.Names.getD i default).toList))
          · exact fin _
          · exact fin _
        · rw [if_neg h0, chk_pos (by omega)]
          exact fin _
    · rw [if_neg (by omega)]
      exact ⟨true, rfl⟩
theorem Stage_some {K : Nat} (a : Stage) (hn : a.Names.length ≤ 1048576) (hs : ∀ s ∈ a.Names, s.size ≤ maxLen ∧ s.size < K) (hb : a.Skeleton.Bones.length < K) (hnK : a.Names.length < K) : ∃ b, impl_ValidStage K a = some b := by
  unfold impl_ValidStage
  obtain ⟨v, hv⟩ := Skeleton_some (K := K) a.Skeleton hb
  rw [hv, bind_of]
  cases v
  · exact ⟨false, rfl⟩
  · simp only [Bool.not_true, ite2_false]
    rw [ite2_dec]
    split
    · exact ⟨false, rfl⟩
    · rw [bind_of]
      cases hc : ((a.Poses.length : Int) != (a.Names.length : Int))
      · rw [ite2_false]
        have h' : (a.Poses.length : Int) = a.Names.length := by simpa using hc
        have : a.Poses.length = a.Names.length := by omega
        exact Stage_some_loop K a hn this hs K 0 (by omega) (by omega)
      · exact ⟨false, rfl⟩

theorem list_max {α : Type} (f : α → Nat) : ∀ (l : List α), ∃ m, ∀ x ∈ l, f x < m := by
  intro l
  induction l with
  | nil => exact ⟨0, by simp⟩
  | cons y l ih =>
    obtain ⟨m, hm⟩ := ih
    refine ⟨max m (f y + 1), fun x hx => ?_⟩
    cases hx with
    | head => omega
    | tail _ hx => have := hm x hx; omega

/-- THE LAW. -/
theorem law_ValidStage (a : Stage) (h : OkStage a) : ∃ K, laws_FnExactValidStage K a = some true := by
  obtain ⟨m1, h1⟩ := list_max (fun s : ByteArray => s.size) a.Names
  obtain ⟨m2, h2⟩ := list_max (fun p : Pose => p.Turns.length) a.Poses
  refine ⟨m1 + m2 + a.Skeleton.Bones.length + a.Names.length + a.Poses.length + 1, ?_⟩
  generalize hKe : m1 + m2 + a.Skeleton.Bones.length + a.Names.length + a.Poses.length + 1 = K
  have hb : a.Skeleton.Bones.length < K := by omega
  have hn : a.Names.length < K := by omega
  have hp : a.Poses.length < K := by omega
  have hs : ∀ s ∈ a.Names, s.size < K := fun s hs => by have := h1 s hs; omega
  have ht : ∀ p ∈ a.Poses, p.Turns.length < K := fun p hp => by have := h2 p hp; omega
  unfold laws_FnExactValidStage
  obtain ⟨r, er, hr⟩ := sz_Stage K a h hn hp
  rw [er, bind_of, ite2_dec]
  split
  · rfl
  · obtain ⟨c1, c2, c3, c4⟩ := hr (by omega)
    have hto : laws_toStage K a = some a := by
      unfold laws_toStage
      rw [to_Skeleton (by omega) hb, bind_of, to_StringS (by omega) hn, bind_of, to_PoseS (by omega) (fun p hp => by have := c4 p hp; omega) hp ht, bind_of]
    have heq : laws_eqStage K a a = some true := by
      unfold laws_eqStage
      rw [eq_Skeleton h.bones hb, bind_of, eq_StringS h.names hn, eq_PoseS h.poses h.turns hp ht]
      rfl
    obtain ⟨b, hbb⟩ := Stage_some (K := K) a c2 (fun s hsm => ⟨h.name s hsm, hs s hsm⟩) hb hn
    rw [hto, bind_of, Stage_eq, hbb, bind_of, bind_of, hbb, bind_of]
    have hbe : (!(b == b)) = false := by simp
    rw [hbe, ite2_false, bind_of, heq]
    rfl

end Go.Fw
