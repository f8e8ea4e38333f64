/- The law of MirrorClip, in plain Lean: a clip in the mirror. -/
import Derived.Test.YtihokgnenjemmaaFwC8CLaw2
namespace Go.Fw
open Go

/-- A loop that turns each element where it lies. -/
theorem mapset_loop {α γ : Type} [Inhabited α] (a : List α) (g : α → α) (r : Option γ) (l : Nat → Int → List α → Option γ) (hend : ∀ (k i : Nat), a.length ≤ i → l (k + 1) (i : Int) (a.map g) = r)
    (hstep : ∀ (k i : Nat) (xs : List α), i < a.length → xs.length = a.length → xs.getD i default = a.getD i default → l (k + 1) (i : Int) xs = l k ((i + 1 : Nat) : Int) (xs.set i (g (a.getD i default)))) : ∀ (K : Nat), a.length < K → l K 0 a = r := by
  have key : ∀ (k i : Nat), i ≤ a.length → a.length - i < k → l k (i : Int) ((a.take i).map g ++ a.drop i) = r := by
    intro k
    induction k with
    | zero => intro i _ h; omega
    | succ k ih =>
      intro i hi hk
      by_cases h : i < a.length
      · have hl1 : ((a.take i).map g).length = i := by simp; omega
        have hl : ((a.take i).map g ++ a.drop i).length = a.length := by rw [List.length_append, hl1, List.length_drop]; omega
        have hg : ((a.take i).map g ++ a.drop i).getD i default = a.getD i default := by
          rw [List.getD_eq_getElem?_getD, List.getElem?_append_right (by omega), hl1, Nat.sub_self, List.getElem?_drop, Nat.add_zero, ← List.getD_eq_getElem?_getD]
        rw [hstep k i _ h hl hg, List.set_append_right _ _ (by omega), hl1, Nat.sub_self, List.drop_eq_getElem_cons h, List.set_cons_zero]
        have : (a.take i).map g ++ g (a.getD i default) :: a.drop (i + 1) = (a.take (i + 1)).map g ++ a.drop (i + 1) := by
          rw [take_succ_getD h, List.map_append, List.append_assoc]; rfl
        rw [this]
        exact ih (i + 1) (by omega) (by omega)
      · have e : i = a.length := by omega
        rw [e, List.take_length, List.drop_length, List.append_nil]
        exact hend k _ (Nat.le_refl _)
  intro K hK
  have := key K 0 (by omega) (by omega)
  simpa using this
/-- A loop that asks of each. -/
theorem all_loop (n : Nat) (f : Nat → Bool) (l : Nat → Int → Option Bool) (hend : ∀ (k i : Nat), n ≤ i → l (k + 1) (i : Int) = some true)
    (hstep : ∀ (k i : Nat), i < n → l (k + 1) (i : Int) = ite2 (f i) (l k ((i + 1 : Nat) : Int)) (some false)) : ∀ (k i : Nat), n - i < k → ∃ b, l k (i : Int) = some b ∧ (b = true ↔ ∀ j, i ≤ j → j < n → f j = true) := by
  intro k
  induction k with
  | zero => intro i h; omega
  | succ k ih =>
    intro i hk
    by_cases h : i < n
    · rw [hstep k i h]
      cases hf : f i
      · exact ⟨false, rfl, fun h' => (by cases h'), fun h' => by rw [h' i (Nat.le_refl _) h] at hf; cases hf⟩
      · obtain ⟨b, e, hb⟩ := ih (i + 1) (by omega)
        refine ⟨b, e, hb.trans ⟨fun hj j h1 h2 => ?_, fun hj j h1 h2 => hj j (by omega) h2⟩⟩
        rcases Nat.lt_or_ge i j with g | g
        · exact hj j g h2
        · have : j = i := by omega
          rw [this]; exact hf
    · exact ⟨true, hend k i (by omega), fun _ j h1 h2 => by omega, fun _ => rfl⟩

/-- A skeleton that is right. -/
structure Rk (k : Skeleton) : Prop where
  len : 1 ≤ k.Bones.length ∧ k.Bones.length ≤ 12
  first : (k.Bones.getD 0 default).Parent = -1
  par : ∀ i, 1 ≤ i → i < k.Bones.length → 0 ≤ (k.Bones.getD i default).Parent ∧ (k.Bones.getD i default).Parent ≤ (i : Int) - 1
theorem specK {K : Nat} (hK : 1048577 < K) (k : Skeleton) (_hs : k.Bones.length ≤ 1048576) : ∃ b, spec_l03Is K k = some b ∧ (b = true ↔ Rk k) := by
  unfold spec_l03Is
  rw [In_eq, bind_of]
  by_cases hl : 1 ≤ k.Bones.length ∧ k.Bones.length ≤ 12
  · have d : (decide ((1 : Int) ≤ (k.Bones.length : Int)) && decide ((k.Bones.length : Int) ≤ 12)) = true := by
      rw [Bool.and_eq_true, decide_eq_true_eq, decide_eq_true_eq]; omega
    simp (disch := omega) only [d, Bool.not_true, ite2_false, chk_pos, bind_of]
    have e0 : (0 : Int).toNat = 0 := rfl
    rw [e0]
    by_cases h1 : (k.Bones.getD 0 default).Parent = -1
    · have : ((k.Bones.getD 0 default).Parent != -1) = false := by rw [h1]; rfl
      rw [this, ite2_false]
      obtain ⟨b, e, hb⟩ := all_loop k.Bones.length (fun i => decide (0 ≤ (k.Bones.getD i default).Parent) && decide ((k.Bones.getD i default).Parent ≤ IntKind.i64.wrap ((i : Int) - 1))) (spec_l03Is_l1 K k)
        (fun n i hi => by rw [spec_l03Is_l1, ite2_dec, if_neg (by omega)]) (fun n i hi => by
          have hc : (i : Int) < (k.Bones.length : Int) := by omega
          rw [spec_l03Is_l1]
          simp (disch := omega) only [ite2_dec, if_pos hc, chk_pos, Int.toNat_natCast, wrap_nat1, In_eq, bind_of]
          cases (decide (0 ≤ (k.Bones.getD i default).Parent) && decide ((k.Bones.getD i default).Parent ≤ IntKind.i64.wrap ((i : Int) - 1))) <;> rfl) K 1 (by omega)
      refine ⟨b, e, hb.trans ⟨fun h => ⟨hl, h1, fun i hi hi2 => ?_⟩, fun h j hj hj2 => ?_⟩⟩
      · have := h i hi hi2
        rw [Bool.and_eq_true, decide_eq_true_eq, decide_eq_true_eq, wrap_in (by omega) (by omega)] at this
        exact this
      · rw [Bool.and_eq_true, decide_eq_true_eq, decide_eq_true_eq, wrap_in (by omega) (by omega)]
        exact h.par j hj hj2
    · have : ((k.Bones.getD 0 default).Parent != -1) = true := by simpa using h1
      rw [this]
      exact ⟨false, rfl, fun h => (by cases h), fun h => absurd h.first h1⟩
  · have d : (decide ((1 : Int) ≤ (k.Bones.length : Int)) && decide ((k.Bones.length : Int) ≤ 12)) = false := by
      rw [Bool.and_eq_false_iff, decide_eq_false_iff_not, decide_eq_false_iff_not]; omega
    rw [d]
    exact ⟨false, rfl, fun h => (by cases h), fun h => absurd h.len hl⟩
theorem implK {K : Nat} (hK : 1048577 < K) (k : Skeleton) (_hs : k.Bones.length ≤ 1048576) : ∃ b, impl_ValidSkeleton K k = some b ∧ (b = true ↔ Rk k) := by
  unfold impl_ValidSkeleton
  by_cases hl : 1 ≤ k.Bones.length ∧ k.Bones.length ≤ 12
  · have d1 : decide ((k.Bones.length : Int) < 1) = false := decide_eq_false (by omega)
    have d2 : decide ((k.Bones.length : Int) > 12) = false := decide_eq_false (by omega)
    have e0 : (0 : Int).toNat = 0 := rfl
    have e1 : (1 : Int).toNat = 1 := rfl
    simp (disch := omega) only [d1, d2, ite2_false, chk_pos, bind_of, e0]
    by_cases h1 : (k.Bones.getD 0 default).Parent = -1
    · have : ((k.Bones.getD 0 default).Parent != -1) = false := by rw [h1]; rfl
      rw [this, ite2_false]
      have hd : (k.Bones.drop (1 : Int).toNat).take ((k.Bones.length : Int).toNat - (1 : Int).toNat) = k.Bones.drop 1 := by
        rw [e1, Int.toNat_natCast]
        exact List.take_of_length_le (by rw [List.length_drop]; omega)
      have hlen : (k.Bones.drop 1).length = k.Bones.length - 1 := by rw [List.length_drop]
      have hget : ∀ i, (k.Bones.drop 1).getD i default = k.Bones.getD (i + 1) default := by
        intro i
        rw [List.getD_eq_getElem?_getD, List.getElem?_drop, ← List.getD_eq_getElem?_getD, Nat.add_comm]
      obtain ⟨b, e, hb⟩ := all_loop (k.Bones.length - 1) (fun i => decide (0 ≤ (k.Bones.getD (i + 1) default).Parent) && decide ((k.Bones.getD (i + 1) default).Parent ≤ (i : Int))) (impl_ValidSkeleton_l1 K k)
        (fun n i hi => by rw [impl_ValidSkeleton_l1, hd, ite2_dec, if_neg (by omega)]) (fun n i hi => by
          have hc : (i : Int) < ((k.Bones.drop 1).length : Int) := by omega
          rw [impl_ValidSkeleton_l1, hd]
          simp (disch := omega) only [ite2_dec (((i : Nat) : Int) < _), if_pos hc, chk_pos, Int.toNat_natCast, wrap_nat1, hget]
          rw [dec_lt (k.Bones.getD (i + 1) default).Parent 0, dec_gt (k.Bones.getD (i + 1) default).Parent (i : Int)]
          cases decide (0 ≤ (k.Bones.getD (i + 1) default).Parent) <;> cases decide ((k.Bones.getD (i + 1) default).Parent ≤ (i : Int)) <;> rfl) K 0 (by omega)
      refine ⟨b, e, hb.trans ⟨fun h => ⟨hl, h1, fun i hi hi2 => ?_⟩, fun h j hj hj2 => ?_⟩⟩
      · have := h (i - 1) (by omega) (by omega)
        rw [Bool.and_eq_true, decide_eq_true_eq, decide_eq_true_eq, show i - 1 + 1 = i by omega] at this
        omega
      · have := h.par (j + 1) (by omega) (by omega)
        rw [Bool.and_eq_true, decide_eq_true_eq, decide_eq_true_eq]
        omega
    · have : ((k.Bones.getD 0 default).Parent != -1) = true := by simpa using h1
      rw [this]
      exact ⟨false, rfl, fun h => (by cases h), fun h => absurd h.first h1⟩
  · by_cases h1 : k.Bones.length < 1
    · have d1 : decide ((k.Bones.length : Int) < 1) = true := decide_eq_true (by omega)
      rw [d1]
      exact ⟨false, rfl, fun h => (by cases h), fun h => absurd h.len hl⟩
    · have d1 : decide ((k.Bones.length : Int) < 1) = false := decide_eq_false (by omega)
      have d2 : decide ((k.Bones.length : Int) > 12) = true := decide_eq_true (by omega)
      rw [d1, d2]
      exact ⟨false, rfl, fun h => (by cases h), fun h => absurd h.len hl⟩

/-- Pairs that are right. -/
structure Rp (k : Skeleton) (p : List Int) : Prop where
  len : p.length = k.Bones.length
  inn : ∀ i, i < k.Bones.length → 0 ≤ p.getD i default ∧ p.getD i default < (k.Bones.length : Int)
  back : ∀ i, i < k.Bones.length → p.getD (p.getD i default).toNat default = (i : Int)
  par : ∀ i, 1 ≤ i → i < k.Bones.length → (k.Bones.getD (p.getD i default).toNat default).Parent = p.getD (k.Bones.getD i default).Parent.toNat default
theorem Rp.zero {k : Skeleton} {p : List Int} (hk : Rk k) (h : Rp k p) : p.getD 0 default = 0 := by
  have hl := hk.len
  have h0 := h.inn 0 (by omega)
  have h1 := h.back 0 (by omega)
  apply Classical.byContradiction
  intro hne
  have h2 := h.par (p.getD 0 default).toNat (by omega) (by omega)
  rw [h1] at h2
  have h3 : (k.Bones.getD ((0 : Nat) : Int).toNat default).Parent = -1 := hk.first
  rw [h3] at h2
  have h4 := hk.par (p.getD 0 default).toNat (by omega) (by omega)
  have h5 := h.inn (k.Bones.getD (p.getD 0 default).toNat default).Parent.toNat (by omega)
  omega
theorem specP {K : Nat} (hK : 1048577 < K) {k : Skeleton} (hk : Rk k) (p : List Int) : ∃ b, spec_l03Pairs K k p = some b ∧ (b = true ↔ Rp k p) := by
  unfold spec_l03Pairs
  have hl := hk.len
  by_cases he : p.length = k.Bones.length
  · have : ((p.length : Int) != (k.Bones.length : Int)) = false := by rw [he]; simp
    rw [this, ite2_false]
    have w : IntKind.i64.wrap ((k.Bones.length : Int) - 1) = (k.Bones.length : Int) - 1 := wrap_in (by omega) (by omega)
    obtain ⟨b, e, hb⟩ := all_loop k.Bones.length (fun i => (decide (0 ≤ p.getD i default) && decide (p.getD i default ≤ (k.Bones.length : Int) - 1)) && ((p.getD (p.getD i default).toNat default == (i : Int)) &&
        (if i = 0 then p.getD i default == 0 else (k.Bones.getD (p.getD i default).toNat default).Parent == p.getD (k.Bones.getD i default).Parent.toNat default))) (spec_l03Pairs_l1 K k p)
      (fun n i hi => by rw [spec_l03Pairs_l1, ite2_dec, if_neg (by omega)]) (fun n i hi => by
        have hc : (i : Int) < (k.Bones.length : Int) := by omega
        rw [spec_l03Pairs_l1]
        simp (disch := omega) only [ite2_dec, if_pos hc, chk_pos, Int.toNat_natCast, wrap_nat1, In_eq, bind_of, w]
        by_cases hin : 0 ≤ p.getD i default ∧ p.getD i default ≤ (k.Bones.length : Int) - 1
        · have d : (decide (0 ≤ p.getD i default) && decide (p.getD i default ≤ (k.Bones.length : Int) - 1)) = true := by
            rw [Bool.and_eq_true, decide_eq_true_eq, decide_eq_true_eq]; exact hin
          rw [d]
          simp (disch := omega) only [Bool.not_true, ite2_false, chk_pos, bind_of, Bool.true_and]
          cases hb : (p.getD (p.getD i default).toNat default == (i : Int))
          · have : (p.getD (p.getD i default).toNat default != (i : Int)) = true := by rw [bne, hb]; rfl
            rw [this]; rfl
          · have : (p.getD (p.getD i default).toNat default != (i : Int)) = false := by rw [bne, hb]; rfl
            rw [this, ite2_false]
            by_cases hz : i = 0
            · subst hz
              rw [if_pos rfl, show (((0 : Nat) : Int) == 0) = true from rfl, ite2_true, if_neg (show ¬ (((0 : Nat) : Int) > 0) by omega)]
              cases hq : (p.getD 0 default == 0)
              · have : (p.getD 0 default != 0) = true := by rw [bne, hq]; rfl
                rw [this]; rfl
              · have : (p.getD 0 default != 0) = false := by rw [bne, hq]; rfl
                rw [this]; rfl
            · have hpar := hk.par i (by omega) hi
              have hz1 : ((i : Int) == 0) = false := by rw [beq_eq_false_iff_ne]; omega
              rw [if_neg hz, hz1, ite2_false, if_pos (show (i : Int) > 0 by omega)]
              simp (disch := omega) only [chk_pos, bind_of]
              cases hq : ((k.Bones.getD (p.getD i default).toNat default).Parent == p.getD (k.Bones.getD i default).Parent.toNat default)
              · have : ((k.Bones.getD (p.getD i default).toNat default).Parent != p.getD (k.Bones.getD i default).Parent.toNat default) = true := by rw [bne, hq]; rfl
                rw [this]; rfl
              · have : ((k.Bones.getD (p.getD i default).toNat default).Parent != p.getD (k.Bones.getD i default).Parent.toNat default) = false := by rw [bne, hq]; rfl
                rw [this]; rfl
        · have d : (decide (0 ≤ p.getD i default) && decide (p.getD i default ≤ (k.Bones.length : Int) - 1)) = false := by
            rw [Bool.and_eq_false_iff, decide_eq_false_iff_not, decide_eq_false_iff_not]; omega
          rw [d]; rfl) K 0 (by omega)
    refine ⟨b, e, hb.trans ⟨fun h => ⟨he, fun i hi => ?_, fun i hi => ?_, fun i h1 hi => ?_⟩, fun h j _ hj => ?_⟩⟩
    · have := h i (by omega) hi
      simp only [Bool.and_eq_true, decide_eq_true_eq] at this
      omega
    · have := h i (by omega) hi
      simp only [Bool.and_eq_true, decide_eq_true_eq, beq_iff_eq] at this
      exact this.2.1
    · have := h i (by omega) hi
      rw [if_neg (by omega)] at this
      simp only [Bool.and_eq_true, decide_eq_true_eq, beq_iff_eq] at this
      exact this.2.2
    · have h1 := h.inn j hj
      simp only [Bool.and_eq_true, decide_eq_true_eq, beq_iff_eq]
      refine ⟨by omega, h.back j hj, ?_⟩
      by_cases hz : j = 0
      · subst hz
        rw [if_pos rfl, h.zero hk]; rfl
      · rw [if_neg hz, beq_iff_eq]
        exact h.par j (by omega) hj
  · have : ((p.length : Int) != (k.Bones.length : Int)) = true := by rw [bne_iff_ne]; omega
    rw [this]
    exact ⟨false, rfl, fun h => (by cases h), fun h => absurd h.len he⟩
theorem index_loop {K : Nat} (p : List Int) (n : Int) (hl : p.length ≤ 1048576) : ∀ (k i : Nat), p.length - i < k → ∃ r, slices_IndexFunc_int64_int64_l1 K p n k (i : Int) = some r ∧ (r ≥ 0 ↔ ∃ j, i ≤ j ∧ j < p.length ∧ ¬ (0 ≤ p.getD j default ∧ p.getD j default < n)) := by
  intro k
  induction k with
  | zero => intro i h; omega
  | succ k ih =>
    intro i hk
    rw [slices_IndexFunc_int64_int64_l1, ite2_dec]
    by_cases h : i < p.length
    · have hc : (i : Int) < (p.length : Int) := by omega
      unfold impl_IsPairing_1
      simp (disch := omega) only [if_pos hc, chk_pos, Int.toNat_natCast, wrap_nat1, ite2_or, bind_of]
      by_cases hb : 0 ≤ p.getD i default ∧ p.getD i default < n
      · have : (decide (p.getD i default < 0) || decide (p.getD i default ≥ n)) = false := by
          rw [Bool.or_eq_false_iff, decide_eq_false_iff_not, decide_eq_false_iff_not]; omega
        rw [this, ite2_false]
        obtain ⟨r, e, hr⟩ := ih (i + 1) (by omega)
        refine ⟨r, e, hr.trans ⟨fun ⟨j, h1, h2, h3⟩ => ⟨j, by omega, h2, h3⟩, fun ⟨j, h1, h2, h3⟩ => ⟨j, ?_, h2, h3⟩⟩⟩
        rcases Nat.lt_or_ge i j with g | g
        · exact g
        · have : j = i := by omega
          rw [this] at h3; exact absurd hb h3
      · have : (decide (p.getD i default < 0) || decide (p.getD i default ≥ n)) = true := by
          rw [Bool.or_eq_true, decide_eq_true_eq, decide_eq_true_eq]; omega
        rw [this, ite2_true]
        exact ⟨_, rfl, fun _ => ⟨i, Nat.le_refl _, h, hb⟩, fun _ => by omega⟩
    · rw [if_neg (by omega)]
      exact ⟨-1, rfl, fun h => by omega, fun ⟨j, h1, h2, _⟩ => by omega⟩
theorem implP {K : Nat} (hK : 1048577 < K) (k : Skeleton) (hs : k.Bones.length ≤ 1048576) (p : List Int) (hp : p.length ≤ 1048576) : ∃ b, impl_IsPairing K k p = some b ∧ (b = true ↔ Rk k ∧ Rp k p) := by
  unfold impl_IsPairing
  obtain ⟨v, v1, v2⟩ := implK hK k hs
  rw [v1, bind_of]
  cases v
  · exact ⟨false, rfl, fun h => (by cases h), fun h => absurd (v2.2 h.1) (by decide)⟩
  · have hk := v2.1 rfl
    have hl := hk.len
    simp only [Bool.not_true, ite2_false, bind_of]
    by_cases he : p.length = k.Bones.length
    · have : ((p.length : Int) != (k.Bones.length : Int)) = false := by rw [he]; simp
      rw [this, ite2_false]
      unfold slices_ContainsFunc_int64_int64 slices_IndexFunc_int64_int64
      obtain ⟨r, r1, r2⟩ := index_loop (K := K) p (k.Bones.length : Int) hp K 0 (by omega)
      rw [show slices_IndexFunc_int64_int64_l1 K p (k.Bones.length : Int) K (0 : Int) = some r from r1, bind_of, bind_of]
      by_cases hr : r ≥ 0
      · rw [decide_eq_true hr]
        refine ⟨false, rfl, fun h => (by cases h), fun h => ?_⟩
        obtain ⟨j, _, h2, h3⟩ := r2.1 hr
        exact absurd (h.2.inn j (by omega)) h3
      · rw [decide_eq_false hr, ite2_false]
        have hin : ∀ j, j < p.length → 0 ≤ p.getD j default ∧ p.getD j default < (k.Bones.length : Int) := fun j hj => by
          apply Classical.byContradiction
          intro hn
          exact hr (r2.2 ⟨j, by omega, hj, hn⟩)
        obtain ⟨b, e, hb⟩ := all_loop p.length (fun i => (p.getD (p.getD i default).toNat default == (i : Int)) && (if i = 0 then true else (k.Bones.getD (p.getD i default).toNat default).Parent == p.getD (k.Bones.getD i default).Parent.toNat default)) (impl_IsPairing_l1 K k p)
          (fun n i hi => by rw [impl_IsPairing_l1, ite2_dec, if_neg (by omega)]) (fun n i hi => by
            have hc : (i : Int) < (p.length : Int) := by omega
            have hii := hin i hi
            rw [impl_IsPairing_l1]
            simp (disch := omega) only [ite2_dec, if_pos hc, chk_pos, Int.toNat_natCast, wrap_nat1]
            cases hq : (p.getD (p.getD i default).toNat default == (i : Int))
            · have : (p.getD (p.getD i default).toNat default != (i : Int)) = true := by rw [bne, hq]; rfl
              rw [this]; rfl
            · have : (p.getD (p.getD i default).toNat default != (i : Int)) = false := by rw [bne, hq]; rfl
              rw [this, ite2_false]
              by_cases hz : i = 0
              · subst hz
                rw [if_pos rfl, if_neg (show ¬ (((0 : Nat) : Int) > 0) by omega)]; rfl
              · have hpar := hk.par i (by omega) (by omega)
                rw [if_neg hz, if_pos (show (i : Int) > 0 by omega)]
                simp (disch := omega) only [chk_pos, bind_of]
                cases hq2 : ((k.Bones.getD (p.getD i default).toNat default).Parent == p.getD (k.Bones.getD i default).Parent.toNat default)
                · have : ((k.Bones.getD (p.getD i default).toNat default).Parent != p.getD (k.Bones.getD i default).Parent.toNat default) = true := by rw [bne, hq2]; rfl
                  rw [this]; rfl
                · have : ((k.Bones.getD (p.getD i default).toNat default).Parent != p.getD (k.Bones.getD i default).Parent.toNat default) = false := by rw [bne, hq2]; rfl
                  rw [this]; rfl) K 0 (by omega)
        refine ⟨b, e, hb.trans ⟨fun h => ⟨hk, he, fun i hi => hin i (by omega), fun i hi => ?_, fun i h1 hi => ?_⟩, fun h j _ hj => ?_⟩⟩
        · have := h i (by omega) (by omega)
          simp only [Bool.and_eq_true, beq_iff_eq] at this
          exact this.1
        · have := h i (by omega) (by omega)
          rw [if_neg (by omega)] at this
          simp only [Bool.and_eq_true, beq_iff_eq] at this
          exact this.2
        · simp only [Bool.and_eq_true, beq_iff_eq]
          refine ⟨h.2.back j (by omega), ?_⟩
          by_cases hz : j = 0
          · rw [if_pos hz]
          · rw [if_neg hz, beq_iff_eq]
            exact h.2.par j (by omega) (by omega)
    · have : ((p.length : Int) != (k.Bones.length : Int)) = true := by rw [bne_iff_ne]; omega
      rw [this]
      exact ⟨false, rfl, fun h => (by cases h), fun h => absurd h.2.len he⟩

def mirT (t : Turn) : Turn := Turn.mk t.W t.X t.Y.neg t.Z.neg
def mirK (k : Key) : Key := Key.mk k.At (mirT k.Turn)
def mirR (k : RootKey) : RootKey := RootKey.mk k.At (Vector.mk k.Place.X.neg k.Place.Y k.Place.Z)
def mirC (c : Clip) (p : List Int) : Clip := Clip.mk c.Length c.Kind (p.map fun b => (c.Tracks.getD b.toNat default).map mirK) (c.Roots.map mirR)

theorem core_MirrorClip {K : Nat} (hK : 1048577 < K) (k : Skeleton) (c : Clip) (p : List Int) (hk : k.Bones.length ≤ 1048576) (hs : mx_Clip c ≤ 1048576) (hp : p.length ≤ 1048576) : ∃ r, spec_MirrorClip K k c p = some r ∧ impl_MirrorClip K k c p = some r ∧ mx_Clip r.1 ≤ 1048576 := by
  have h : Okc K c := okc_of hs
  have hnil : mx_Clip (Clip.mk 0 0 [] []) ≤ 1048576 := by simp [mx_Clip, mxL]
  unfold spec_MirrorClip impl_MirrorClip
  obtain ⟨u, u1, u2⟩ := specK hK k hk
  obtain ⟨v, v1, v2⟩ := implP hK k hk p hp
  rw [l05Is_eq hK h, ValidClip_eq hK h, u1, v1]
  simp only [bind_of]
  have no : ∀ x : Bool, ite2 x (some true) (some true) = some true := fun x => by cases x <;> rfl
  cases u
  · have hv : v = false := by
      cases v
      · rfl
      · exact absurd (u2.2 (v2.1 rfl).1) (by decide)
    subst hv
    simp only [Bool.not_false, ite2_true, no, bind_of]
    exact ⟨_, rfl, rfl, hnil⟩
  · have hkr := u2.1 rfl
    obtain ⟨w, w1, w2⟩ := specP hK hkr p
    have hvw : v = w := by
      rw [Bool.eq_iff_iff, v2, w2]
      exact ⟨fun h => h.2, fun h => ⟨hkr, h⟩⟩
    subst hvw
    rw [w1]
    cases v
    · simp only [bind_of, Bool.not_true, Bool.not_false, ite2_false, ite2_true, no]
      exact ⟨_, rfl, rfl, hnil⟩
    · have hpr := w2.1 rfl
      have hpl := hpr.len
      simp only [bind_of, Bool.not_true, ite2_false]
      cases hv : validC c
      · simp only [bind_of, Bool.not_false, ite2_true]
        exact ⟨_, rfl, rfl, hnil⟩
      · have hr := validC_spec.1 hv
        have htl := h.tl
        have hrl := h.rl
        rw [show (k.Bones.length : Int) = (p.length : Int) by rw [hpl]]
        simp only [bind_of, Bool.not_true, ite2_false]
        by_cases he : c.Tracks.length = p.length
        · have hne : ((c.Tracks.length : Int) != (p.length : Int)) = false := by rw [he]; simp
          simp only [hne, ite2_false]
          have hin : ∀ i, i < p.length → 0 ≤ p.getD i default ∧ p.getD i default < (c.Tracks.length : Int) := fun i hi => by
            have := hpr.inn i (by omega)
            omega
          have hout : Okc K (mirC c p) := by
            refine ⟨by simp only [mirC, List.length_map]; exact hp, by simp only [mirC, List.length_map]; exact hrl, fun t ht => ?_⟩
            obtain ⟨b, hb, rfl⟩ := List.mem_map.1 ht
            rw [List.length_map]
            obtain ⟨i, hi⟩ := List.mem_iff_getElem?.1 hb
            have hi2 : i < p.length := (List.getElem?_eq_some_iff.1 hi).1
            have hb2 := hin i hi2
            rw [List.getD_eq_getElem?_getD, hi] at hb2
            exact h.kl _ (getD_mem (by simp at hb2; omega))
          have hright : validC (mirC c p) = true := by
            refine validC_spec.2 ⟨hr.len, hr.kind, ?_, fun t ht => ?_, ?_⟩
            · have := hr.tracks
              simp only [mirC, List.length_map]
              omega
            · obtain ⟨b, hb, rfl⟩ := List.mem_map.1 ht
              obtain ⟨i, hi⟩ := List.mem_iff_getElem?.1 hb
              have hi2 : i < p.length := (List.getElem?_eq_some_iff.1 hi).1
              have hb2 := hin i hi2
              rw [List.getD_eq_getElem?_getD, hi] at hb2
              have := hr.keys _ (getD_mem (xs := c.Tracks) (i := b.toNat) (by simp at hb2; omega))
              rw [List.map_map]
              exact this
            · have := hr.roots
              show vt c.Length ((c.Roots.map mirR).map RootKey.At) = true
              rw [List.map_map]
              exact this
          have hroot : impl_MirrorClip_2 K c.Roots = some (c.Roots.map mirR) := by
            unfold impl_MirrorClip_2 slices_Clone_impl_RootKey_impl_RootKey
            rw [chk_pos (by simp only [List.length_nil]; omega), bind_of, List.nil_append]
            refine mapset_loop c.Roots mirR _ (impl_MirrorClip_2_l1 K c.Roots) (fun n i hi => ?_) (fun n i xs hi hx hg => ?_) K (by omega)
            · rw [impl_MirrorClip_2_l1, ite2_dec, if_neg (by omega)]
            · have hc : (i : Int) < (c.Roots.length : Int) := by omega
              rw [impl_MirrorClip_2_l1]
              unfold impl_Vector_mirrored
              simp (disch := omega) only [ite2_dec, if_pos hc, chk_pos, Int.toNat_natCast, wrap_nat1, bind_of, hg]
              rfl
          have hkey : ∀ (i : Nat) (t : List Key), i < p.length → impl_MirrorClip_1 K (i : Int) t c p = some ((c.Tracks.getD (p.getD i default).toNat default).map mirK) := by
            intro i t hi
            have hb := hin i hi
            have hlen := h.kl _ (getD_mem (xs := c.Tracks) (i := (p.getD i default).toNat) (by omega))
            unfold impl_MirrorClip_1 slices_Clone_impl_Key_impl_Key
            simp (disch := omega) only [chk_pos, Int.toNat_natCast]
            rw [chk_pos (by simp only [List.length_nil]; omega), bind_of, List.nil_append]
            generalize c.Tracks.getD (p.getD i default).toNat default = t0 at hlen ⊢
            refine mapset_loop t0 mirK _ (impl_MirrorClip_1_l1 K t0) (fun n j hj => ?_) (fun n j xs hj hx hg => ?_) K (by omega)
            · rw [impl_MirrorClip_1_l1, ite2_dec, if_neg (by omega)]
            · have hc : (j : Int) < (t0.length : Int) := by omega
              rw [impl_MirrorClip_1_l1]
              unfold impl_Turn_mirrored
              simp (disch := omega) only [ite2_dec, if_pos hc, chk_pos, Int.toNat_natCast, wrap_nat1, bind_of, hg]
              rfl
          have hch : impl_Clip_changed K c c.Length c p = some (mirC c p, true) := by
            unfold impl_Clip_changed
            rw [hroot, bind_of]
            refine map_loop p (fun b => (c.Tracks.getD b.toNat default).map mirK) _ (impl_Clip_changed_l1 K c c.Length c p _) (fun n i hi => ?_) (fun n i xs hi hx => ?_) K (by omega)
            · rw [impl_Clip_changed_l1, ite2_dec, if_neg (by omega)]
              have := validClip_eq hK hout
              rw [hright, if_pos rfl] at this
              rw [show impl_validClip K (Clip.mk c.Length c.Kind (p.map fun b => (c.Tracks.getD b.toNat default).map mirK) (c.Roots.map mirR)) = _ from this]
              rfl
            · have hc : (i : Int) < (c.Tracks.length : Int) := by omega
              rw [impl_Clip_changed_l1]
              simp (disch := omega) only [ite2_dec, if_pos hc, chk_pos, Int.toNat_natCast, wrap_nat1, hkey, bind_of]
              rw [chk_pos (by simp only [List.length_singleton]; omega)]
          have hsp : spec_MirrorClip_l4 K c p K 0 [] = some (mirC c p, true) := by
            refine map_loop p (fun b => (c.Tracks.getD b.toNat default).map mirK) _ (spec_MirrorClip_l4 K c p) (fun n i hi => ?_) (fun n i xs hi hx => ?_) K (by omega)
            · rw [spec_MirrorClip_l4, ite2_dec, if_neg (by omega)]
              refine map_loop c.Roots mirR _ (spec_MirrorClip_l6 K c _) (fun n i hi => ?_) (fun n i xs hi hx => ?_) K (by omega)
              · rw [spec_MirrorClip_l6, ite2_dec, if_neg (by omega)]
                rfl
              · have hc : (i : Int) < (c.Roots.length : Int) := by omega
                rw [spec_MirrorClip_l6]
                unfold spec_l03Mirror
                simp (disch := omega) only [ite2_dec, if_pos hc, chk_pos, Int.toNat_natCast, wrap_nat1, bind_of]
                rw [chk_pos (by simp only [List.length_singleton]; omega)]
                rfl
            · have hc : (i : Int) < (p.length : Int) := by omega
              have hb := hin i hi
              have hlen := h.kl _ (getD_mem (xs := c.Tracks) (i := (p.getD i default).toNat) (by omega))
              have hin2 : spec_MirrorClip_l5 K c p (i : Int) K 0 (c.Tracks.getD (p.getD i default).toNat default) = some ((c.Tracks.getD (p.getD i default).toNat default).map mirK) := by
                refine mapset_loop (c.Tracks.getD (p.getD i default).toNat default) mirK _ (spec_MirrorClip_l5 K c p (i : Int)) (fun n j hj => ?_) (fun n j xs hj hx hg => ?_) K (by omega)
                · rw [spec_MirrorClip_l5, Int.toNat_natCast, List.nil_append, ite2_dec, if_neg (by omega)]
                · have hc2 : (j : Int) < ((c.Tracks.getD (p.getD i default).toNat default).length : Int) := by omega
                  rw [spec_MirrorClip_l5]
                  simp (disch := omega) only [Int.toNat_natCast, List.nil_append, ite2_dec, if_pos hc2, chk_pos, wrap_nat1, bind_of, hg]
                  rfl
              rw [spec_MirrorClip_l4]
              simp (disch := omega) only [ite2_dec, if_pos hc, chk_pos, Int.toNat_natCast, wrap_nat1, List.nil_append]
              rw [chk_pos (by simp only [List.length_nil]; omega), hin2, bind_of, chk_pos (by simp only [List.length_singleton]; omega)]
          rw [hch, hsp]
          exact ⟨(mirC c p, true), rfl, rfl, mx_of hout.tl hout.kl hout.rl⟩
        · have hne : ((c.Tracks.length : Int) != (p.length : Int)) = true := by rw [bne_iff_ne]; omega
          simp only [hne, ite2_true]
          exact ⟨_, rfl, rfl, hnil⟩

theorem law_MirrorClip (k : Skeleton) (a : Clip) (p : List Int) (hk : mx_Skeleton k ≤ maxLen) (hm : mx_Clip a ≤ maxLen) (hp : p.length ≤ maxLen) : ∃ K, laws_FnExactMirrorClip K k a p = some true := by
  refine ⟨mx_Clip a + mx_Skeleton k + p.length + 1048578, ?_⟩
  generalize hKe : mx_Clip a + mx_Skeleton k + p.length + 1048578 = K
  unfold laws_FnExactMirrorClip
  rw [ite2_dec]
  split
  · rfl
  · rename_i hpl
    have hpl : p.length ≤ 1048576 := by omega
    obtain ⟨q, eq, q1, q2, q3⟩ := sz_Skeleton K k 1048576 (by omega) (by omega) hk (by omega)
    rw [eq, bind_of, ite2_dec]
    split
    · rfl
    · have hks : mx_Skeleton k ≤ 1048576 := by have := q3 (by omega); omega
      obtain ⟨r, er, r1, r2, r3⟩ := sz_Clip K a q (by omega) (by omega) hm (by omega)
      rw [er, bind_of, ite2_dec]
      split
      · rfl
      · have hs : mx_Clip a ≤ 1048576 := by have := r3 (by omega); omega
        have hkb : k.Bones.length ≤ 1048576 := by simpa [mx_Skeleton] using hks
        obtain ⟨s, s1, s2, s3⟩ := core_MirrorClip (K := K) (by omega) k a p hkb hs hpl
        obtain ⟨m0, x0, t1, t2, t3, t4, _⟩ := mark_Skeleton (K := K) (a := k) (k0 := 1) (by omega) hks (by omega) (by omega)
        obtain ⟨m, y0, y1, k1, k2, k3, k4, k5, k8⟩ := mark_Clip (K := K) (a := a) (k0 := m0) (by omega) hs (by omega) (by omega)
        have m1 := mark_Int64S (K := K) (a := p) (k0 := m) (by omega) hpl (by omega) (by omega)
        have b1 := cnL_bound2 (c := fun (_ : Int) => (1 : Int)) (B := 1) (xs := p) (by decide) hpl (fun x _ => by constructor <;> decide)
        have ml := mkL_length (fun k (_ : Int) => k) (fun (_ : Int) => (1 : Int)) p m
        obtain ⟨n, z0, z1, l1, l2, l3, l4, l5, l8⟩ := mark_Clip (K := K) (a := s.1) (k0 := 1) (by omega) s3 (by omega) (by omega)
        have n1 : decide (m + cnL (fun (_ : Int) => (1 : Int)) p < 0) = false := decide_eq_false (by omega)
        have n2 : decide (n < 0) = false := decide_eq_false (by omega)
        simp only [to_Skeleton (K := K) (a := k) (by omega) hks, to_Clip (K := K) (a := a) (by omega) hs, to_Int64S (K := K) (a := p) (by omega) hpl, bind_of, s1, s2, eq_Skeleton (K := K) (a := k) (by omega) hks, eq_Int64S (K := K) (a := p) (by omega) hpl,
          eq_Clip (K := K) (a := a) (by omega) hs, eq_Clip (K := K) (a := s.1) (by omega) s3, Bool.not_true, ite2_false, beq_self_eq_true, bne_self_eq_false, t1, chk_pos t4, k1, chk_pos k4, chk_pos k5, m1, chk_pos ml, n1, l1, chk_pos l4, chk_pos l5, l8, n2]

end Go.Fw
