/- The law of chains of bones, in plain Lean. -/
import Derived.Test.YtdddhokfmablnabFwGBSkDraw
import Derived.Test.YtdddhokfmablnabFwFD
import Derived.KernelRfl
namespace Go.Fw
open Go

/-! A list turned around in place. -/
theorem rev_loop {K : Nat} (a : List Int) (hl : a.length ≤ 12) : ∀ (k i : Nat) (j : Int) (p : List Int), p.length = a.length → (i : Int) + j + 1 = a.length → (i : Int) ≤ j + 2 → a.length < k + i → (∀ m, m < a.length → p.getD m default = if m < i ∨ j < (m : Int) then a.getD (a.length - 1 - m) default else a.getD m default) →
    ∃ r, slices_Reverse_int64_int64_l1 K a k (i : Int) j p = some r ∧ r = a.reverse := by
  intro k
  induction k with
  | zero =>
    intro i j p h1 h2 h2' h3 h4
    omega
  | succ k ih =>
    intro i j p h1 h2 h2' h3 h4
    rw [slices_Reverse_int64_int64_l1, ite2_dec]
    by_cases hi : (i : Int) < j
    · obtain ⟨q, rfl⟩ : ∃ q : Nat, j = (q : Int) := ⟨j.toNat, by omega⟩
      rw [if_pos hi, chk_pos (by omega), chk_pos (by omega), wrap_nat1 (by omega), wrap_in (n := (q : Int) - 1) (by omega) (by omega), Int.toNat_natCast, Int.toNat_natCast]
      refine ih (i + 1) _ _ (by simp; exact h1) (by omega) (by omega) (by omega) (fun m hm => ?_)
      by_cases e1 : q = m
      · subst e1
        rw [set_getD (by simp; omega), h4 i (by omega), if_neg (by omega), if_pos (by omega)]
        congr 1; omega
      · rw [set_ne e1]
        by_cases e2 : i = m
        · subst e2
          rw [set_getD (by omega), h4 q (by omega), if_neg (by omega), if_pos (by omega)]
          congr 1; omega
        · rw [set_ne e2, h4 m hm]
          by_cases g : m < i ∨ (q : Int) < (m : Int)
          · rw [if_pos g, if_pos (by omega)]
          · rw [if_neg g, if_neg (by omega)]
    · rw [if_neg hi, chk_pos h1]
      refine ⟨p, rfl, ?_⟩
      apply List.ext_getElem (by simp; exact h1)
      intro m g1 g2
      have := h4 m (by omega)
      rw [getD_of_lt g1] at this
      rw [this, List.getElem_reverse]
      split
      · rw [getD_of_lt (by omega)]
      · rw [getD_of_lt (by omega)]
        congr 1
        omega
theorem rev_eq {K : Nat} (hK : 20 < K) (a : List Int) (hl : a.length ≤ 12) (h0 : 0 < a.length) : slices_Reverse_int64_int64 K a = some a.reverse := by
  obtain ⟨r, r1, r2⟩ := rev_loop (K := K) a hl K 0 ((a.length : Int) - 1) a rfl (by omega) (by omega) (by omega) (fun m hm => by rw [if_neg (by omega)])
  unfold slices_Reverse_int64_int64
  rw [wrap_in (by omega) (by omega)]
  rw [show ((0 : Nat) : Int) = 0 from rfl] at r1
  rw [r1, r2]

/-! Chains. -/
/-- The way up from a bone. -/
inductive Up (s : Skeleton) : Int → List Int → Prop
  | top : Up s (-1) []
  | step {b : Nat} {l : List Int} : Up s (s.Bones.getD b default).Parent l → Up s (b : Int) ((b : Int) :: l)
theorem Up.uniq {s : Skeleton} {x : Int} {l m : List Int} (h : Up s x l) (h2 : Up s x m) : l = m := by
  induction h generalizing m with
  | top =>
    generalize hy : (-1 : Int) = y at h2
    cases h2 with
    | top => rfl
    | step _ => omega
  | @step b l hu ih =>
    generalize hy : (b : Int) = y at h2
    cases h2 with
    | top => omega
    | @step b' l' h2' =>
      have : b = b' := by omega
      subst this
      rw [ih h2']
theorem up_all {n : Nat} {s : Skeleton} (h : Sk n s) : ∀ (b : Nat), b < n → ∃ l, Up s (b : Int) l ∧ l.length ≤ b + 1 := by
  intro b
  induction b using Nat.strongRecOn with
  | _ b ih =>
    intro hb
    by_cases h0 : b = 0
    · subst h0
      have := (h.par 0 hb).1 rfl
      exact ⟨[((0 : Nat) : Int)], .step (by rw [this]; exact .top), by simp⟩
    · have hp := (h.par b hb).2 (by omega)
      obtain ⟨l, l1, l2⟩ := ih (s.Bones.getD b default).Parent.toNat (by omega) (by omega)
      refine ⟨(b : Int) :: l, .step ?_, by simp; omega⟩
      rw [show (((s.Bones.getD b default).Parent.toNat : Nat) : Int) = (s.Bones.getD b default).Parent by omega] at l1
      exact l1
/-- What a way up is like. -/
structure Way (n : Nat) (s : Skeleton) (x : Int) (l : List Int) : Prop where
  bds : ∀ i, i < l.length → 0 ≤ l.getD i default ∧ l.getD i default < (n : Int)
  fst : 0 < l.length → l.getD 0 default = x
  adj : ∀ i, i + 1 < l.length → (s.Bones.getD (l.getD i default).toNat default).Parent = l.getD (i + 1) default
  lst : 0 < l.length → l.getD (l.length - 1) default = 0
theorem up_way {n : Nat} {s : Skeleton} (h : Sk n s) {x : Int} {l : List Int} (hu : Up s x l) : x < (n : Int) → Way n s x l ∧ (0 ≤ x → 0 < l.length) := by
  induction hu with
  | top => exact fun _ => ⟨⟨fun i h => by simp at h, fun h => by simp at h, fun i h => by simp at h, fun h => by simp at h⟩, fun h => by omega⟩
  | @step b l hu ih =>
    intro hx
    have hb : b < n := by omega
    have hp := h.par b hb
    obtain ⟨w, w2⟩ := ih (by
      by_cases h0 : b = 0
      · have := hp.1 h0; omega
      · have := hp.2 (by omega); omega)
    refine ⟨⟨fun i hi => ?_, fun _ => rfl, fun i hi => ?_, fun _ => ?_⟩, fun _ => by simp⟩
    · cases i with
      | zero => exact ⟨Int.natCast_nonneg b, hx⟩
      | succ i => exact w.bds i (by simp at hi; omega)
    · cases i with
      | zero =>
        show (s.Bones.getD ((b : Int)).toNat default).Parent = l.getD 0 default
        rw [w.fst (by simp at hi; omega), Int.toNat_natCast]
      | succ i => exact w.adj i (by simp at hi; omega)
    · by_cases h0 : b = 0
      · subst h0
        have e : (s.Bones.getD 0 default).Parent = -1 := hp.1 rfl
        rw [e] at hu
        have := hu.uniq .top
        subst this
        rfl
      · have hl := w2 (hp.2 (by omega)).1
        have := w.lst hl
        rw [List.length_cons, show l.length + 1 - 1 = (l.length - 1) + 1 by omega]
        exact this
theorem chain_loop {K n : Nat} {s : Skeleton} (hK : 20 < K) (h : Sk n s) {x : Int} {l : List Int} (hu : Up s x l) : ∀ (k : Nat) (acc : List Int), x < (n : Int) → l.length < k → acc.length + l.length ≤ 12 → 0 < acc.length + l.length →
    impl_Skeleton_chain_l1 K s k x acc = some (acc ++ l).reverse := by
  induction hu with
  | top =>
    intro k acc hx hk hl h0
    obtain ⟨k, rfl⟩ : ∃ q, k = q + 1 := ⟨k - 1, by omega⟩
    simp at hl h0
    rw [impl_Skeleton_chain_l1, ite2_dec, if_neg (by omega), List.append_nil, rev_eq hK acc hl (by simpa using h0), bind_of, chk_pos (by simp)]
  | @step b l hu ih =>
    intro k acc hx hk hl h0
    obtain ⟨k, rfl⟩ : ∃ q, k = q + 1 := ⟨k - 1, by omega⟩
    have hb : b < n := by omega
    have hp := h.par b hb
    have e1 := h.len
    simp only [List.length_cons] at hl hk
    rw [impl_Skeleton_chain_l1, ite2_dec, if_pos (by omega), chk_pos (by simp; omega), chk_pos (by omega), Int.toNat_natCast]
    rw [ih k (acc ++ [(b : Int)]) (by
      by_cases h0 : b = 0
      · have := hp.1 h0; omega
      · have := hp.2 (by omega); omega) (by omega) (by simp; omega) (by simp; omega)]
    congr 1
    simp
theorem chain_eq {K n : Nat} {s : Skeleton} (hK : 20 < K) (h : Sk n s) {b : Nat} (hb : b < n) : ∃ l, impl_Skeleton_chain K s (b : Int) = some l.reverse ∧ Up s (b : Int) l ∧ Way n s (b : Int) l ∧ 0 < l.length ∧ l.length ≤ 12 := by
  obtain ⟨l, l1, l2⟩ := up_all h b hb
  obtain ⟨w, w2⟩ := up_way h l1 (by omega)
  have := h.n12
  refine ⟨l, ?_, l1, w, w2 (by omega), by omega⟩
  unfold impl_Skeleton_chain
  rw [chain_loop hK h l1 K [] (by omega) (by omega) (by simp; omega) (by simp; have := w2 (by omega); omega), List.nil_append]
theorem has_eq {K n : Nat} {s : Skeleton} (hK : 20 < K) (h : Sk n s) {b : Nat} (hb : b < n) : impl_hasBone K s (b : Int) = some true := by
  have h1 := h.len
  unfold impl_hasBone
  rw [h.valid hK, bind_of, ite2_true, ite2_dec, if_pos (by omega), decide_eq_true (by omega)]; rfl
theorem index_loop {K : Nat} (a : List Int) (x : Int) (hl : a.length ≤ 12) : ∀ (k i : Nat), i ≤ a.length → a.length - i < k → (∀ j, j < i → a.getD j default ≠ x) → ∃ r, slices_Index_int64_int64_l1 K a x k (i : Int) = some r ∧ (0 ≤ r ↔ x ∈ a) := by
  intro k
  induction k with
  | zero => intro i _ h; omega
  | succ k ih =>
    intro i h1 h2 h3
    rw [slices_Index_int64_int64_l1, ite2_dec]
    by_cases hi : i < a.length
    · rw [if_pos (by omega), chk_pos (by omega), Int.toNat_natCast, wrap_nat1 (by omega)]
      by_cases e : x = a.getD i default
      · have hm : x ∈ a := by rw [e]; exact getD_mem hi
        rw [show (x == a.getD i default) = true by rw [beq_iff_eq]; exact e, ite2_true]
        exact ⟨_, rfl, fun _ => hm, fun _ => by omega⟩
      · rw [show (x == a.getD i default) = false by rw [beq_eq_false_iff_ne]; exact e, ite2_false]
        refine ih (i + 1) (by omega) (by omega) (fun j hj => ?_)
        by_cases e2 : j = i
        · subst e2; exact fun h => e h.symm
        · exact h3 j (by omega)
    · rw [if_neg (by omega)]
      refine ⟨-1, rfl, fun h => by omega, fun hm => ?_⟩
      obtain ⟨j, hj, he⟩ := List.getElem_of_mem hm
      have := h3 j (by omega)
      rw [getD_of_lt hj] at this
      exact absurd he this
theorem contains_eq {K : Nat} (hK : 20 < K) (a : List Int) (x : Int) (hl : a.length ≤ 12) : slices_Contains_int64_int64 K a x = some (decide (x ∈ a)) := by
  obtain ⟨r, r1, r2⟩ := index_loop (K := K) a x hl K 0 (by omega) (by omega) (fun j hj => by omega)
  unfold slices_Contains_int64_int64 slices_Index_int64_int64
  rw [show ((0 : Nat) : Int) = 0 from rfl] at r1
  rw [r1, bind_of]
  by_cases hm : x ∈ a
  · rw [decide_eq_true hm, decide_eq_true (r2.2 hm)]
  · rw [decide_eq_false hm, decide_eq_false (fun h => hm (r2.1 h))]
/-- Whether a bone is in the chain of another one. -/
def InUp (s : Skeleton) (a : Int) (b : Nat) : Prop := ∃ l, Up s (b : Int) l ∧ a ∈ l
theorem below_loop {K n : Nat} {s : Skeleton} (hK : 20 < K) (h : Sk n s) (a : Int) : ∀ (k i : Nat) (p : List Int), i ≤ n → n - i < k → p.length ≤ i → (∀ b : Nat, (b : Int) ∈ p ↔ b < i ∧ InUp s a b) →
    ∃ r, impl_BelowOf_l1 K s a k (i : Int) p = some (r, true) ∧ r.length ≤ n ∧ ∀ b : Nat, (b : Int) ∈ r ↔ b < n ∧ InUp s a b := by
  intro k
  induction k with
  | zero => intro i p _ h; omega
  | succ k ih =>
    intro i p h1 h2 h3 h4
    have e1 := h.len
    have n12 := h.n12
    rw [impl_BelowOf_l1, ite2_dec]
    by_cases hi : i < n
    · obtain ⟨l, c1, c2, c3, c4, c5⟩ := chain_eq (K := K) hK h hi
      rw [if_pos (by omega), c1, bind_of, contains_eq hK _ _ (by simp; omega), bind_of, wrap_nat1 (by omega)]
      have key : InUp s a i ↔ a ∈ l := ⟨fun ⟨l', hl', hm⟩ => by rw [c2.uniq hl']; exact hm, fun hm => ⟨l, c2, hm⟩⟩
      by_cases hm : a ∈ l
      · rw [decide_eq_true (List.mem_reverse.2 hm), ite2_true, chk_pos (by simp; omega)]
        refine ih (i + 1) _ (by omega) (by omega) (by simp; omega) (fun b => ?_)
        rw [List.mem_append, h4 b, List.mem_singleton]
        constructor
        · rintro (⟨g1, g2⟩ | g)
          · exact ⟨by omega, g2⟩
          · have : b = i := by omega
            subst this
            exact ⟨by omega, key.2 hm⟩
        · rintro ⟨g1, g2⟩
          by_cases e : b = i
          · exact .inr (by rw [e])
          · exact .inl ⟨by omega, g2⟩
      · rw [decide_eq_false (fun g => hm (List.mem_reverse.1 g)), ite2_false]
        refine ih (i + 1) _ (by omega) (by omega) (by omega) (fun b => ?_)
        rw [h4 b]
        constructor
        · rintro ⟨g1, g2⟩; exact ⟨by omega, g2⟩
        · rintro ⟨g1, g2⟩
          by_cases e : b = i
          · subst e; exact absurd (key.1 g2) hm
          · exact ⟨by omega, g2⟩
    · rw [if_neg (by omega)]
      have : i = n := by omega
      subst this
      exact ⟨p, rfl, h3, h4⟩
theorem below_eq {K n : Nat} {s : Skeleton} (hK : 20 < K) (h : Sk n s) {a : Nat} (ha : a < n) : ∃ r, impl_BelowOf K s (a : Int) = some (r, true) ∧ r.length ≤ n ∧ ∀ b : Nat, (b : Int) ∈ r ↔ b < n ∧ InUp s (a : Int) b := by
  have n12 := h.n12
  unfold impl_BelowOf
  rw [has_eq hK h ha, bind_of, Bool.not_true, ite2_false]
  have := below_loop (K := K) hK h (a : Int) K 0 [] (by omega) (by omega) (by simp) (fun b => by simp)
  rw [show ((0 : Nat) : Int) = 0 from rfl] at this
  exact this
theorem any24 {K : Nat} (x : Int) (v : List Int × Bool) (hl : v.1.length ≤ 12) : ∀ (k i : Nat) (b : Bool), i ≤ v.1.length → v.1.length - i < k → (b = true ↔ ∃ j, j < i ∧ v.1.getD j default = x) → laws_FnChains_l24 K x v k b (i : Int) = some (decide (x ∈ v.1)) := by
  intro k
  induction k with
  | zero => intro i b _ h; omega
  | succ k ih =>
    intro i b h1 h2 h3
    rw [laws_FnChains_l24, ite2_dec]
    by_cases hi : i < v.1.length
    · rw [if_pos (by omega), wrap_nat1 (by omega)]
      have hb : ite2 b (some true) (chk (0 ≤ (i : Int) ∧ (i : Int) < (v.1.length : Int)) (some (v.1.getD (i : Int).toNat default == x))) = some (b || (v.1.getD i default == x)) := by
        rw [chk_pos (by omega), Int.toNat_natCast]; cases b <;> simp [ite2]
      rw [hb, bind_of]
      refine ih (i + 1) _ (by omega) (by omega) ?_
      rw [Bool.or_eq_true, h3, beq_iff_eq]
      constructor
      · rintro (⟨j, g1, g2⟩ | g)
        · exact ⟨j, by omega, g2⟩
        · exact ⟨i, by omega, g⟩
      · rintro ⟨j, g1, g2⟩
        by_cases e : j = i
        · subst e; exact .inr g2
        · exact .inl ⟨j, by omega, g2⟩
    · rw [if_neg (by omega)]
      congr 1
      rw [Bool.eq_iff_iff, h3, decide_eq_true_iff]
      constructor
      · rintro ⟨j, g1, g2⟩; rw [← g2]; exact getD_mem (by omega)
      · intro hm
        obtain ⟨j, hj, he⟩ := List.getElem_of_mem hm
        exact ⟨j, by omega, by rw [getD_of_lt hj]; exact he⟩
theorem any25 {K : Nat} (v : List Int × Bool) (x : Int) (hl : v.1.length ≤ 12) : ∀ (k i : Nat) (b : Bool), i ≤ v.1.length → v.1.length - i < k → (b = true ↔ ∃ j, j < i ∧ v.1.getD j default = x) → laws_FnChains_l25 K v x k b (i : Int) = some (decide (x ∈ v.1)) := by
  intro k
  induction k with
  | zero => intro i b _ h; omega
  | succ k ih =>
    intro i b h1 h2 h3
    rw [laws_FnChains_l25, ite2_dec]
    by_cases hi : i < v.1.length
    · rw [if_pos (by omega), wrap_nat1 (by omega)]
      have hb : ite2 b (some true) (chk (0 ≤ (i : Int) ∧ (i : Int) < (v.1.length : Int)) (some (v.1.getD (i : Int).toNat default == x))) = some (b || (v.1.getD i default == x)) := by
        rw [chk_pos (by omega), Int.toNat_natCast]; cases b <;> simp [ite2]
      rw [hb, bind_of]
      refine ih (i + 1) _ (by omega) (by omega) ?_
      rw [Bool.or_eq_true, h3, beq_iff_eq]
      constructor
      · rintro (⟨j, g1, g2⟩ | g)
        · exact ⟨j, by omega, g2⟩
        · exact ⟨i, by omega, g⟩
      · rintro ⟨j, g1, g2⟩
        by_cases e : j = i
        · subst e; exact .inr g2
        · exact .inl ⟨j, by omega, g2⟩
    · rw [if_neg (by omega)]
      congr 1
      rw [Bool.eq_iff_iff, h3, decide_eq_true_iff]
      constructor
      · rintro ⟨j, g1, g2⟩; rw [← g2]; exact getD_mem (by omega)
      · intro hm
        obtain ⟨j, hj, he⟩ := List.getElem_of_mem hm
        exact ⟨j, by omega, by rw [getD_of_lt hj]; exact he⟩

/-! Lengths and turns at rest. -/
theorem sqrt_impl (K : Nat) (x : F32) : impl_RootNumber K x = some (Fl.cv .f64 .f32 (Fl.cv .f32 .f64 x).sqrt) := by
  unfold impl_RootNumber math_Sqrt math_sqrt
  simp only [bind_of, chk_pos (narrow_root x)]
/-- A vector's length. -/
def lenV (v : Vector) : F32 := Fl.cv .f64 .f32 (Fl.cv .f32 .f64 (((v.X.mul v.X).add (v.Y.mul v.Y)).add (v.Z.mul v.Z))).sqrt
theorem long_impl (K : Nat) (v : Vector) : impl_LongOf K v = some (lenV v) := by
  unfold impl_LongOf impl_InnerOf
  rw [bind_of, sqrt_impl]; rfl
theorem long_spec (K : Nat) (v : Vector) : spec_LongOf K v = some (lenV v) := by
  unfold spec_LongOf spec_l01Long spec_l01Inner spec_l01Sqrt math_Sqrt math_sqrt spec_l01Narrow
  simp only [bind_of, chk_pos (narrow_root _)]; rfl
theorem toBits_some (x : F32) (h : x.ne x = false) : ∃ n, x.toBits = some n := by
  unfold Fl.toBits
  have : nanB .f32 x.bits = false := by
    cases hn : nanB .f32 x.bits
    · rfl
    · exfalso
      have : x.ne x = true := by
        show (FloatKind.f32.format.order x.bits x.bits != some .eq) = true
        rw [order_nan x x (.inl hn)]; rfl
      rw [this] at h; cases h
  simp [this]
theorem same_refl (K : Nat) (x : F32) : spec_SameNumber K x x = some true := by
  unfold spec_SameNumber spec_l01Same spec_l01Bits math_Float32bits
  cases h : x.ne x
  · obtain ⟨n, hn⟩ := toBits_some x h
    rw [ite2_false, hn, bind_of, bind_of, bind_of, beq_self_eq_true]; rfl
  · rw [ite2_true, bind_of, bind_of]; rfl
theorem lengths_loop {K n : Nat} {s : Skeleton} (h : Sk n s) : ∀ (k i : Nat) (p : List F32), i ≤ n → n - i < k → p.length = n → (∀ j, j < i → p.getD j default = lenV (s.Bones.getD j default).Offset) →
    ∃ r, impl_BoneLengths_l1 K s k (i : Int) p = some (r, true) ∧ r.length = n ∧ ∀ j, j < n → r.getD j default = lenV (s.Bones.getD j default).Offset := by
  intro k
  induction k with
  | zero => intro i p _ h; omega
  | succ k ih =>
    intro i p h1 h2 h3 h4
    have e1 := h.len
    have n12 := h.n12
    rw [impl_BoneLengths_l1, ite2_dec]
    by_cases hi : i < n
    · rw [if_pos (by omega), chk_pos (by omega), long_impl, bind_of, chk_pos (by omega), wrap_nat1 (by omega), Int.toNat_natCast]
      refine ih (i + 1) _ (by omega) (by omega) (by simp; exact h3) (fun j hj => ?_)
      by_cases e : i = j
      · subst e; rw [set_getD (by omega)]
      · rw [set_ne e]; exact h4 j (by omega)
    · rw [if_neg (by omega)]
      exact ⟨p, rfl, h3, fun j hj => h4 j (by omega)⟩
theorem lengths_eq {K n : Nat} {s : Skeleton} (hK : 20 < K) (h : Sk n s) : ∃ r, impl_BoneLengths K s = some (r, true) ∧ r.length = n ∧ ∀ j, j < n → r.getD j default = lenV (s.Bones.getD j default).Offset := by
  have e1 := h.len
  have n12 := h.n12
  obtain ⟨r, r1, r2⟩ := lengths_loop (K := K) h K 0 (List.replicate s.Bones.length default) (by omega) (by omega) (by simp; exact e1) (fun j hj => by omega)
  unfold impl_BoneLengths
  rw [h.valid hK, bind_of, Bool.not_true, ite2_false, chk_pos (by omega), Int.toNat_natCast]
  exact ⟨r, r1, r2⟩
theorem rep_eq {K : Nat} (hK : 20 < K) (x : Turn) (c : Nat) (h1 : 1 ≤ c) (h6 : c ≤ 12) : slices_Repeat_impl_Turn_impl_Turn K [x] (c : Int) = some (List.replicate c x) := by
  obtain ⟨k, rfl⟩ : ∃ k, K = k + 20 := ⟨K - 20, by omega⟩
  have hc : c = 1 ∨ c = 2 ∨ c = 3 ∨ c = 4 ∨ c = 5 ∨ c = 6 ∨ c = 7 ∨ c = 8 ∨ c = 9 ∨ c = 10 ∨ c = 11 ∨ c = 12 := by omega
  have r1 : slices_Repeat_impl_Turn_impl_Turn (k + 20) [x] 1 = some (List.replicate 1 x) := by kernel_rfl
  have r2 : slices_Repeat_impl_Turn_impl_Turn (k + 20) [x] 2 = some (List.replicate 2 x) := by kernel_rfl
  have r3 : slices_Repeat_impl_Turn_impl_Turn (k + 20) [x] 3 = some (List.replicate 3 x) := by kernel_rfl
  have r4 : slices_Repeat_impl_Turn_impl_Turn (k + 20) [x] 4 = some (List.replicate 4 x) := by kernel_rfl
  have r5 : slices_Repeat_impl_Turn_impl_Turn (k + 20) [x] 5 = some (List.replicate 5 x) := by kernel_rfl
  have r6 : slices_Repeat_impl_Turn_impl_Turn (k + 20) [x] 6 = some (List.replicate 6 x) := by kernel_rfl
  have r7 : slices_Repeat_impl_Turn_impl_Turn (k + 20) [x] 7 = some (List.replicate 7 x) := by kernel_rfl
  have r8 : slices_Repeat_impl_Turn_impl_Turn (k + 20) [x] 8 = some (List.replicate 8 x) := by kernel_rfl
  have r9 : slices_Repeat_impl_Turn_impl_Turn (k + 20) [x] 9 = some (List.replicate 9 x) := by kernel_rfl
  have r10 : slices_Repeat_impl_Turn_impl_Turn (k + 20) [x] 10 = some (List.replicate 10 x) := by kernel_rfl
  have r11 : slices_Repeat_impl_Turn_impl_Turn (k + 20) [x] 11 = some (List.replicate 11 x) := by kernel_rfl
  have r12 : slices_Repeat_impl_Turn_impl_Turn (k + 20) [x] 12 = some (List.replicate 12 x) := by kernel_rfl
  rcases hc with rfl | rfl | rfl | rfl | rfl | rfl | rfl | rfl | rfl | rfl | rfl | rfl
  · exact r1
  · exact r2
  · exact r3
  · exact r4
  · exact r5
  · exact r6
  · exact r7
  · exact r8
  · exact r9
  · exact r10
  · exact r11
  · exact r12
/-- No turn. -/
def noT : Turn := Turn.mk (Fl.mk (k := .f32) 1065353216 (by decide)) (default : F32) (default : F32) (default : F32)
theorem rest_eq {K n : Nat} {s : Skeleton} (hK : 20 < K) (h : Sk n s) : impl_RestPose K s = some (Pose.mk (Vector.mk default default default) (List.replicate n noT), true) := by
  unfold impl_RestPose impl_restOf impl_NoTurn
  rw [h.valid hK, bind_of, Bool.not_true, ite2_false, h.len, bind_of, rep_eq hK _ _ h.n1 h.n12]; rfl
theorem notT_eq (K : Nat) : laws_b10TEqual K noT noT = some true := by
  unfold laws_b10TEqual
  rw [show noT.W.eq noT.W = true by decide +kernel, show noT.X.eq noT.X = true by decide +kernel, show noT.Y.eq noT.Y = true by decide +kernel, show noT.Z.eq noT.Z = true by decide +kernel]; rfl

/-! The law. -/
theorem l18_eq {K n : Nat} {s : Skeleton} (h : Sk n s) {b : Nat} {l : List Int} (w : Way n s (b : Int) l) (hl : l.length ≤ 12) : ∀ (k i : Nat), 1 ≤ i → i ≤ l.length + 1 → l.length + 1 - i < k → laws_FnChains_l18 K s (l.reverse, true) k (i : Int) = some (.inl ()) := by
  intro k
  induction k with
  | zero => intro i _ _ h; omega
  | succ k ih =>
    intro i h0 h1 h2
    have e1 := h.len
    have el : (l.reverse, true).1.length = l.length := by simp
    rw [laws_FnChains_l18, ite2_dec]
    by_cases hi : i < l.length
    · have w1 : IntKind.i64.wrap ((i : Int) - 1) = ((i - 1 : Nat) : Int) := by rw [wrap_in (by omega) (by omega)]; omega
      have gr : ∀ j, j < l.length → l.reverse.getD j default = l.getD (l.length - 1 - j) default := by
        intro j hj
        rw [getD_of_lt (by simp; omega), List.getElem_reverse, getD_of_lt (by omega)]
      have b1 := w.bds (l.length - 1 - i) (by omega)
      have a1 := w.adj (l.length - 1 - i) (by omega)
      rw [if_pos (by omega), chk_pos (by omega), w1, Int.toNat_natCast, Int.toNat_natCast, wrap_nat1 (by omega)]
      show (ite2 (decide (l.reverse.getD i default < 0)) _ _).bind _ = _
      rw [gr i hi, ite2_dec, if_neg (by omega), ite2_dec, if_neg (by omega), chk_pos (by omega), chk_pos (by omega)]
      rw [show ((l.reverse, true).1.getD (i - 1) default) = l.getD (l.length - 1 - i + 1) default by
        show l.reverse.getD (i - 1) default = _
        rw [gr (i - 1) (by omega)]; congr 1; omega]
      rw [a1, bne_self_eq_false, bind_of, ite2_false]
      exact ih (i + 1) (by omega) (by omega) (by omega)
    · rw [if_neg (by omega)]
theorem l23_eq {K n : Nat} {s : Skeleton} (hK : 20 < K) (h : Sk n s) {b : Nat} (hb : b < n) {l : List Int} (hu : Up s (b : Int) l) (hl : l.length ≤ 12) : ∀ (k i : Nat), i ≤ n → n - i < k → laws_FnChains_l23 K s (b : Int) (l.reverse, true) k (i : Int) = some (.inl ()) := by
  intro k
  induction k with
  | zero => intro i _ h; omega
  | succ k ih =>
    intro i h1 h2
    have e1 := h.len
    have n12 := h.n12
    rw [laws_FnChains_l23, ite2_dec]
    by_cases hi : i < n
    · obtain ⟨r, r1, r2, r3⟩ := below_eq (K := K) hK h hi
      have q1 := any24 (K := K) (b : Int) (r, true) (by show r.length ≤ 12; omega) K 0 false (by omega) (by show r.length - 0 < K; omega) (by simp)
      have q2 := any25 (K := K) (l.reverse, true) (i : Int) (by simp; omega) K 0 false (by omega) (by simp; omega) (by simp)
      rw [show ((0 : Nat) : Int) = 0 from rfl] at q1 q2
      rw [if_pos (by omega), r1, bind_of, Bool.not_true, ite2_false, q1, bind_of, q2, bind_of, wrap_nat1 (by omega)]
      have key : decide ((b : Int) ∈ r) = decide ((i : Int) ∈ l.reverse) := by
        rw [decide_eq_decide, r3 b, List.mem_reverse]
        exact ⟨fun ⟨_, l', g1, g2⟩ => by rw [hu.uniq g1]; exact g2, fun g => ⟨hb, l, hu, g⟩⟩
      rw [show decide ((b : Int) ∈ (r, true).1) = decide ((i : Int) ∈ (l.reverse, true).1) from key, beq_self_eq_true, Bool.not_true, ite2_false]
      exact ih (i + 1) (by omega) (by omega)
    · rw [if_neg (by omega)]
theorem sumC_l {α β γ : Type} (a : α) (f : α → Option γ) (g : β → Option γ) : sumC (.inl a) f g = f a := rfl
theorem l17_eq {K n : Nat} {s : Skeleton} (hK : 20 < K) (h : Sk n s) (ls : List F32) (hls : ls.length = n) (hl2 : ∀ j, j < n → ls.getD j default = lenV (s.Bones.getD j default).Offset) : ∀ (k i : Nat), i ≤ n → n - i < k → laws_FnChains_l17 K s (ls, true) (Pose.mk (Vector.mk default default default) (List.replicate n noT), true) k (i : Int) = some true := by
  intro k
  induction k with
  | zero => intro i _ h; omega
  | succ k ih =>
    intro i h1 h2
    have e1 := h.len
    have n12 := h.n12
    rw [laws_FnChains_l17, ite2_dec]
    by_cases hi : i < n
    · obtain ⟨l, c1, c2, c3, c4, c5⟩ := chain_eq (K := K) hK h hi
      have hco : impl_ChainOf K s (i : Int) = some (l.reverse, true) := by
        unfold impl_ChainOf
        rw [has_eq hK h hi, bind_of, Bool.not_true, ite2_false, c1]; rfl
      have w1 : IntKind.i64.wrap ((l.reverse.length : Int) - 1) = ((l.length - 1 : Nat) : Int) := by rw [wrap_in (by omega) (by simp; omega)]; simp; omega
      have gr : ∀ j, j < l.length → l.reverse.getD j default = l.getD (l.length - 1 - j) default := by
        intro j hj
        rw [getD_of_lt (by simp; omega), List.getElem_reverse, getD_of_lt (by omega)]
      have g0 : l.reverse.getD 0 default = 0 := by rw [gr 0 c4, Nat.sub_zero]; exact c3.lst c4
      have g1 : l.reverse.getD (l.length - 1) default = (i : Int) := by rw [gr _ (by omega), show l.length - 1 - (l.length - 1) = 0 by omega]; exact c3.fst c4
      have el : l.reverse.length = l.length := by simp
      have p18 := l18_eq (K := K) h c3 c5 K 1 (by omega) (by omega) (by omega)
      have p23 := l23_eq (K := K) hK h hi c2 c5 K 0 (by omega) (by omega)
      rw [show ((0 : Nat) : Int) = 0 from rfl] at p23
      rw [show ((1 : Nat) : Int) = 1 from rfl] at p18
      rw [if_pos (by omega), hco, bind_of, Bool.not_true, ite2_false, wrap_nat1 (by omega)]
      rw [show (((l.reverse, true).1.length : Int) == 0) = false by rw [beq_eq_false_iff_ne]; show (l.reverse.length : Int) ≠ 0; omega, ite2_false, chk_pos (show 0 ≤ (0 : Int) ∧ (0 : Int) < (l.reverse.length : Int) by omega)]
      rw [show ((l.reverse, true).1.getD ((0 : Int).toNat) default != 0) = false by
        show (l.reverse.getD 0 default != 0) = false
        rw [g0]; rfl, ite2_false]
      rw [show IntKind.i64.wrap (((l.reverse, true).1.length : Int) - 1) = ((l.length - 1 : Nat) : Int) from w1, Int.toNat_natCast, chk_pos (show 0 ≤ ((l.length - 1 : Nat) : Int) ∧ ((l.length - 1 : Nat) : Int) < (l.reverse.length : Int) by omega)]
      rw [show ((l.reverse, true).1.getD (l.length - 1) default != (i : Int)) = false by
        show (l.reverse.getD (l.length - 1) default != (i : Int)) = false
        rw [g1, bne_self_eq_false], ite2_false]
      rw [chk_pos (show 0 ≤ (i : Int) ∧ (i : Int) < ((List.replicate n noT).length : Int) by simp; omega), Int.toNat_natCast]
      rw [show (Pose.mk (Vector.mk default default default) (List.replicate n noT), true).1.Turns.getD i default = noT by
        show (List.replicate n noT).getD i default = noT
        rw [List.getD_eq_getElem?_getD, List.getElem?_replicate, if_pos hi]; rfl]
      rw [show Turn.mk (Fl.mk (k := .f32) 1065353216 (by decide)) (default : F32) (default : F32) (default : F32) = noT from rfl, notT_eq, bind_of, Bool.not_true, ite2_false]
      rw [chk_pos (show 0 ≤ (i : Int) ∧ (i : Int) < (ls.length : Int) by omega), chk_pos (by omega), long_spec, bind_of]
      rw [show (ls, true).1.getD i default = lenV (s.Bones.getD i default).Offset from hl2 i hi, same_refl, bind_of, Bool.not_true, bind_of, ite2_false]
      rw [p18, bind_of, sumC_l, p23, bind_of, sumC_l]
      exact ih (i + 1) (by omega) (by omega)
    · rw [if_neg (by omega)]

theorem chains_true (a b : List Int) (ha : Byt a) : ∃ K, laws_FnChains K a b = some true := by
  refine ⟨1000, ?_⟩
  unfold laws_FnChains laws_b10Long
  cases hlong : ite2 (decide ((a.length : Int) > 1048576)) (some true) (some (decide ((b.length : Int) > 1048576))) with
  | none => revert hlong; unfold ite2; split <;> intro h <;> cases h
  | some g =>
  rw [bind_of, bind_of]
  cases g with
  | true => rfl
  | false =>
  rw [ite2_false]
  obtain ⟨x, n, x1, h, n6, _⟩ := skeleton_drawn (K := 1000) (by omega) ha
  obtain ⟨ls, l1, l2, l3⟩ := lengths_eq (K := 1000) (by omega) h
  rw [x1, bind_of, l1, bind_of, rest_eq (by omega) h, bind_of, Bool.not_true, ite2_false, ite2_false, h.valid (by omega), bind_of, Bool.not_true, ite2_false]
  have hp : impl_IsPose 1000 x (Pose.mk (Vector.mk default default default) (List.replicate n noT)) = some true := by
    unfold impl_IsPose
    rw [h.valid (by omega), bind_of, ite2_true, bind_of]
    show some (((List.replicate n noT).length : Int) == (x.Bones.length : Int)) = _
    rw [List.length_replicate, h.len, beq_self_eq_true]
  rw [hp, bind_of, Bool.not_true, ite2_false, show (((ls, true).1.length : Int) != (x.Bones.length : Int)) = false by
    show ((ls.length : Int) != (x.Bones.length : Int)) = false
    rw [l2, h.len, bne_self_eq_false], bind_of, ite2_false]
  have := l17_eq (K := 1000) (by omega) h ls l2 l3 1000 0 (by omega) (by omega)
  exact this
theorem law_FnChains (a b : List Int) (ha : a.length ≤ maxLen ∧ ∀ x ∈ a, (Lit.int .u8 x).wf = true) (hb : b.length ≤ maxLen ∧ ∀ x ∈ b, (Lit.int .u8 x).wf = true) : ∃ K, laws_FnChains K a b = some true := by
  have byt : ∀ {c : List Int}, (∀ x ∈ c, (Lit.int .u8 x).wf = true) → Byt c := fun h x hx => by
    have := h x hx
    simp only [Lit.wf, Bool.and_eq_true, decide_eq_true_eq] at this
    have e1 : IntKind.u8.min = 0 := by decide
    have e2 : IntKind.u8.max = 255 := by decide
    omega
  exact chains_true a b (byt ha.2)

end Go.Fw
