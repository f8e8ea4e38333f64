/- The law of WorkersFor, in plain Lean: sorting stably and picking the dearest again and again are alike. -/
import Derived.Test.YtcemiphbmkkpeadFwWCStableLaw
import Derived.Test.YtcemiphbmkkpeadFwWCLaw
namespace Go.Fw
open Go

theorem sgα {α : Type} [Inhabited α] {d : List α} {i j : Nat} {v : α} (h : i < d.length) : (d.set i v).getD j default = if j = i then v else d.getD j default := by
  by_cases e : j = i
  · subst e; rw [if_pos rfl, set_getD h]
  · rw [if_neg e, List.getD_eq_getElem?_getD, List.getElem?_set_ne (by omega), ← List.getD_eq_getElem?_getD]
theorem len_setα {α : Type} (a : List α) (i : Nat) (v : α) : (a.set i v).length = a.length := List.length_set
theorem In_eq (K : Nat) (a b c : Int) : spec_l00In K a b c = some (decide (b ≤ a) && decide (a ≤ c)) := by
  unfold spec_l00In
  simp only [ge_iff_le, ite2_and2, bind_of]
theorem Are_eq (K : Nat) (a : Int) : impl_areWorkers K a = some (decide (1 ≤ a) && decide (a ≤ 8)) := by
  unfold impl_areWorkers
  simp only [ge_iff_le, ite2_and2, bind_of]
theorem W1_eq (K : Nat) (a : Int) : impl_WorkersFor_1 K a = some (!(decide (0 ≤ a) && decide (a ≤ 1000000))) := by
  unfold impl_WorkersFor_1
  rw [ite2_dec]
  by_cases h : a < 0
  · rw [if_pos h, bind_of, decide_eq_false (by omega : ¬ 0 ≤ a)]; rfl
  · rw [if_neg h, bind_of, decide_eq_true (by omega : 0 ≤ a)]
    by_cases g : a ≤ 1000000
    · rw [decide_eq_true g, decide_eq_false (by omega : ¬ a > 1000000)]; rfl
    · rw [decide_eq_false g, decide_eq_true (by omega : a > 1000000)]; rfl

theorem idx_good {K : Nat} {c : List Int} (hc : Co c) (hl : c.length ≤ 64) : ∀ (k i : Nat), i ≤ c.length → c.length - i < k → slices_IndexFunc_int64_int64_l1 K c k (i : Int) = some (-1) := by
  intro k
  induction k with
  | zero => intro i _ h; omega
  | succ k ih =>
    intro i h1 h2
    rw [slices_IndexFunc_int64_int64_l1, ite2_dec]
    by_cases h : i < c.length
    · have := hc i h
      rw [if_pos (by omega), chk_pos (by omega), Int.toNat_natCast, W1_eq, bind_of, decide_eq_true this.1, decide_eq_true this.2, Bool.and_self, Bool.not_true, ite2_false, wrap_p1 (by omega)]
      exact ih (i + 1) (by omega) (by omega)
    · rw [if_neg (by omega)]
theorem idx_bad {K : Nat} {c : List Int} (hl : c.length ≤ 64) : ∀ (k i : Nat), i ≤ c.length → c.length - i < k → (∃ x, i ≤ x ∧ x < c.length ∧ ¬ (0 ≤ c.getD x default ∧ c.getD x default ≤ 1000000)) → ∃ j : Nat, slices_IndexFunc_int64_int64_l1 K c k (i : Int) = some (j : Int) := by
  intro k
  induction k with
  | zero => intro i _ h; omega
  | succ k ih =>
    intro i h1 h2 ⟨x, x1, x2, x3⟩
    rw [slices_IndexFunc_int64_int64_l1, ite2_dec, if_pos (by omega), chk_pos (by omega), Int.toNat_natCast, W1_eq, bind_of]
    cases hv : (decide (0 ≤ c.getD i default) && decide (c.getD i default ≤ 1000000))
    · exact ⟨i, rfl⟩
    · simp only [Bool.and_eq_true, decide_eq_true_eq] at hv
      rw [Bool.not_true, ite2_false, wrap_p1 (by omega)]
      exact ih (i + 1) (by omega) (by omega) ⟨x, by
        by_cases e : i = x
        · subst e; exact absurd hv x3
        · omega, x2, x3⟩
theorem ok_good {K : Nat} {c : List Int} {a1 : Int} (hc : Co c) (hl : c.length ≤ 64) : ∀ (k i : Nat), i ≤ c.length → c.length - i < k → spec_WorkersFor_l1 K c a1 k (i : Int) = spec_WorkersFor_l1 K c a1 (0 + 1) (c.length : Int) := by
  intro k
  induction k with
  | zero => intro i _ h; omega
  | succ k ih =>
    intro i h1 h2
    by_cases h : i < c.length
    · have := hc i h
      rw [spec_WorkersFor_l1, ite2_dec, if_pos (by omega), chk_pos (by omega), Int.toNat_natCast, In_eq, bind_of, decide_eq_true this.1, decide_eq_true this.2, Bool.and_self, Bool.not_true, ite2_false, wrap_p1 (by omega)]
      exact ih (i + 1) (by omega) (by omega)
    · have e : i = c.length := by omega
      subst e
      rw [spec_WorkersFor_l1, spec_WorkersFor_l1]
      simp only [ite2_dec, if_neg (Int.lt_irrefl _)]
theorem ok_bad {K : Nat} {c : List Int} {a1 : Int} (hl : c.length ≤ 64) : ∀ (k i : Nat), i ≤ c.length → c.length - i < k → (∃ x, i ≤ x ∧ x < c.length ∧ ¬ (0 ≤ c.getD x default ∧ c.getD x default ≤ 1000000)) → spec_WorkersFor_l1 K c a1 k (i : Int) = some ([], false) := by
  intro k
  induction k with
  | zero => intro i _ h; omega
  | succ k ih =>
    intro i h1 h2 ⟨x, x1, x2, x3⟩
    rw [spec_WorkersFor_l1, ite2_dec, if_pos (by omega), chk_pos (by omega), Int.toNat_natCast, In_eq, bind_of]
    cases hv : (decide (0 ≤ c.getD i default) && decide (c.getD i default ≤ 1000000))
    · rfl
    · simp only [Bool.and_eq_true, decide_eq_true_eq] at hv
      rw [Bool.not_true, ite2_false, wrap_p1 (by omega)]
      exact ih (i + 1) (by omega) (by omega) ⟨x, by
        by_cases e : i = x
        · subst e; exact absurd hv x3
        · omega, x2, x3⟩

theorem fill {K : Nat} {c : List Int} {a1 : Int} (hl : c.length ≤ 64) : ∀ (k i : Nat) (d : List Int), d.length = c.length → i ≤ c.length → c.length - i < k → (∀ j, j < i → d.getD j default = (j : Int)) →
    ∃ e, impl_WorkersFor_l1 K c a1 k (i : Int) d = impl_WorkersFor_l1 K c a1 (0 + 1) (c.length : Int) e ∧ e.length = c.length ∧ ∀ j, j < c.length → e.getD j default = (j : Int) := by
  intro k
  have hr : ((List.replicate (c.length : Int).toNat (default : Int)).length : Int) = (c.length : Int) := by simp
  induction k with
  | zero => intro i d _ _ h; omega
  | succ k ih =>
    intro i d h0 h1 h2 v
    by_cases h : i < c.length
    · rw [impl_WorkersFor_l1, ite2_dec, hr, if_pos (by omega), chk_pos (by omega), Int.toNat_natCast, wrap_p1 (by omega)]
      refine ih (i + 1) _ (by rw [len_setα]; exact h0) (by omega) (by omega) fun j hj => ?_
      rw [sgα (by omega)]
      split
      · omega
      · exact v j (by omega)
    · have e : i = c.length := by omega
      subst e
      refine ⟨d, ?_, h0, v⟩
      rw [impl_WorkersFor_l1, impl_WorkersFor_l1]
      simp only [ite2_dec, hr, if_neg (Int.lt_irrefl _)]

theorem min_loop {K W : Nat} {s : List Int} (hl : s.length = W) (h8 : W ≤ 8) : ∀ (k i : Nat) (mn : Int), i ≤ W → W - i < k → (∀ y, y < i → mn ≤ s.getD y default) → (∃ y, y < W ∧ s.getD y default = mn) →
    ∃ r, slices_Min_int64_int64_l1 K s k mn (i : Int) = some r ∧ (∀ y, y < W → r ≤ s.getD y default) ∧ ∃ y, y < W ∧ s.getD y default = r := by
  intro k
  induction k with
  | zero => intro i mn _ h; omega
  | succ k ih =>
    intro i mn h1 h2 v1 v2
    rw [slices_Min_int64_int64_l1, ite2_dec]
    by_cases h : i < W
    · rw [if_pos (by omega), chk_pos (by omega), Int.toNat_natCast, wrap_p1 (by omega)]
      by_cases g : s.getD i default < mn
      · rw [if_pos g]
        exact ih (i + 1) _ (by omega) (by omega) (fun y hy => by
          by_cases e : y = i
          · rw [e]; exact Int.le_refl _
          · have := v1 y (by omega); omega) ⟨i, h, rfl⟩
      · rw [if_neg g]
        exact ih (i + 1) _ (by omega) (by omega) (fun y hy => by
          by_cases e : y = i
          · rw [e]; omega
          · exact v1 y (by omega)) v2
    · rw [if_neg (by omega)]
      exact ⟨mn, rfl, fun y hy => v1 y (by omega), v2⟩
theorem idx_loop {K W : Nat} {s : List Int} {r : Int} (hl : s.length = W) (h8 : W ≤ 8) (hr : ∃ y, y < W ∧ s.getD y default = r) : ∀ (k i : Nat), i ≤ W → W - i < k → (∀ y, y < i → s.getD y default ≠ r) →
    ∃ f : Nat, f < W ∧ slices_Index_int64_int64_l1 K s r k (i : Int) = some (f : Int) ∧ s.getD f default = r ∧ ∀ y, y < f → s.getD y default ≠ r := by
  intro k
  induction k with
  | zero => intro i _ h; omega
  | succ k ih =>
    intro i h1 h2 v1
    rw [slices_Index_int64_int64_l1, ite2_dec]
    by_cases h : i < W
    · rw [if_pos (by omega), chk_pos (by omega), Int.toNat_natCast, wrap_p1 (by omega)]
      by_cases g : s.getD i default = r
      · rw [show (r == s.getD i default) = true by rw [g]; exact beq_self_eq_true r, ite2_true]
        exact ⟨i, h, rfl, g, v1⟩
      · rw [show (r == s.getD i default) = false by rw [beq_eq_false_iff_ne]; omega, ite2_false]
        exact ih (i + 1) (by omega) (by omega) (fun y hy => by
          by_cases e : y = i
          · rw [e]; exact g
          · exact v1 y (by omega))
    · obtain ⟨y, y1, y2⟩ := hr
      exact absurd y2 (v1 y (by omega))
theorem least_loop {K W : Nat} {s : List Int} (hl : s.length = W) (h8 : W ≤ 8) : ∀ (k i le : Nat), i ≤ W → le < i → W - i < k → (∀ y, y < i → s.getD le default ≤ s.getD y default) → (∀ y, y < le → s.getD le default < s.getD y default) →
    ∃ f : Nat, f < W ∧ spec_WorkersFor_l8 K (W : Int) s k (le : Int) (i : Int) = some (f : Int) ∧ (∀ y, y < W → s.getD f default ≤ s.getD y default) ∧ ∀ y, y < f → s.getD f default < s.getD y default := by
  intro k
  induction k with
  | zero => intro i le _ _ h; omega
  | succ k ih =>
    intro i le h1 h2 h3 v1 v2
    rw [spec_WorkersFor_l8, ite2_dec]
    by_cases h : i < W
    · rw [if_pos (by omega), chk_pos (by omega), chk_pos (by omega), Int.toNat_natCast, Int.toNat_natCast, wrap_p1 (by omega), ite2_dec]
      by_cases g : s.getD i default < s.getD le default
      · rw [if_pos g]
        exact ih (i + 1) i (by omega) (by omega) (by omega) (fun y hy => by
          by_cases e : y = i
          · rw [e]; exact Int.le_refl _
          · have := v1 y (by omega); omega) (fun y hy => by have := v1 y hy; omega)
      · rw [if_neg g]
        exact ih (i + 1) le (by omega) (by omega) (by omega) (fun y hy => by
          by_cases e : y = i
          · rw [e]; omega
          · exact v1 y (by omega)) v2
    · rw [if_neg (by omega)]
      have e : i = W := by omega
      exact ⟨le, by omega, rfl, e ▸ v1, v2⟩
theorem least {K W : Nat} {s : List Int} (hK : 100 ≤ K) (hl : s.length = W) (h1 : 1 ≤ W) (h8 : W ≤ 8) : ∃ (f : Nat) (mn : Int), f < W ∧ slices_Min_int64_int64 K s = some mn ∧ slices_Index_int64_int64 K s mn = some (f : Int) ∧ spec_WorkersFor_l8 K (W : Int) s K 0 1 = some (f : Int) := by
  obtain ⟨mn, m1, m2, m3⟩ := min_loop (K := K) hl h8 K 1 (s.getD 0 default) h1 (by omega) (fun y hy => by rw [show y = 0 by omega]; exact Int.le_refl _) ⟨0, by omega, rfl⟩
  obtain ⟨f, f1, f2, f3, f4⟩ := idx_loop (K := K) hl h8 m3 K 0 (by omega) (by omega) (fun y hy => by omega)
  obtain ⟨g, g1, g2, g3, g4⟩ := least_loop (K := K) hl h8 K 1 0 h1 (by omega) (by omega) (fun y hy => by rw [show y = 0 by omega]; exact Int.le_refl _) (fun y hy => by omega)
  have e : g = f := by
    have a1 := g3 f f1
    have a2 := m2 g g1
    by_cases h : g < f
    · exact absurd (by omega) (f4 g h)
    · by_cases h2 : f < g
      · have := g4 f h2; omega
      · omega
  subst e
  refine ⟨g, mn, f1, ?_, ?_, g2⟩
  · unfold slices_Min_int64_int64
    rw [ite2_dec, if_neg (by omega), chk_pos (by omega)]
    exact m1
  · unfold slices_Index_int64_int64
    exact f2

/-- The dearest that is left, the first of such. -/
theorem best {K n : Nat} {c : List Int} {done : List Bool} {q : Nat} (hn : n ≤ 64) (hc : c.length = n) (hd : done.length = n) (hq : q < n) (hdq : done.getD q default = false)
    (hu : ∀ p, p < n → done.getD p default = false → p ≠ q → c.getD p default ≤ c.getD q default ∧ (p < q → c.getD p default < c.getD q default)) :
    ∀ (k i : Nat) (b : Int), i ≤ n → n - i < k → ((b = -1 ∧ ∀ p, p < i → done.getD p default = true) ∨ (∃ p : Nat, b = (p : Int) ∧ p < i ∧ done.getD p default = false ∧ ∀ r, r < i → done.getD r default = false → c.getD r default ≤ c.getD p default ∧ (r < p → c.getD r default < c.getD p default))) →
    spec_WorkersFor_l7 K c done k b (i : Int) = some (q : Int) := by
  intro k
  induction k with
  | zero => intro i b _ h; omega
  | succ k ih =>
    intro i b h1 h2 v
    rw [spec_WorkersFor_l7, ite2_dec]
    by_cases h : i < n
    · rw [if_pos (by omega), chk_pos (by omega), Int.toNat_natCast, wrap_p1 (by omega)]
      cases hi : done.getD i default
      · rw [Bool.not_false, ite2_true, ite2_dec]
        rcases v with ⟨v1, v2⟩ | ⟨p, v1, v2, v3, v4⟩
        · rw [if_pos (by omega), bind_of, ite2_true]
          refine ih (i + 1) i (by omega) (by omega) (.inr ⟨i, rfl, by omega, hi, fun r r1 r2 => ?_⟩)
          by_cases e : r = i
          · subst e; exact ⟨Int.le_refl _, fun h => by omega⟩
          · have := v2 r (by omega); rw [r2] at this; cases this
        · subst v1
          rw [if_neg (by omega), chk_pos (by omega), chk_pos (by omega), bind_of, Int.toNat_natCast, ite2_dec]
          by_cases g : c.getD i default > c.getD p default
          · rw [if_pos g]
            refine ih (i + 1) i (by omega) (by omega) (.inr ⟨i, rfl, by omega, hi, fun r r1 r2 => ?_⟩)
            by_cases e : r = i
            · subst e; exact ⟨Int.le_refl _, fun h => by omega⟩
            · have := v4 r (by omega) r2; exact ⟨by omega, fun _ => by omega⟩
          · rw [if_neg g]
            refine ih (i + 1) p (by omega) (by omega) (.inr ⟨p, rfl, by omega, v3, fun r r1 r2 => ?_⟩)
            by_cases e : r = i
            · subst e; exact ⟨by omega, fun h => by omega⟩
            · exact v4 r (by omega) r2
      · rw [Bool.not_true, ite2_false, bind_of, ite2_false]
        refine ih (i + 1) b (by omega) (by omega) ?_
        rcases v with ⟨v1, v2⟩ | ⟨p, v1, v2, v3, v4⟩
        · refine .inl ⟨v1, fun p hp => ?_⟩
          by_cases e : p = i
          · rw [e]; exact hi
          · exact v2 p (by omega)
        · refine .inr ⟨p, v1, by omega, v3, fun r r1 r2 => ?_⟩
          by_cases e : r = i
          · subst e; rw [r2] at hi; cases hi
          · exact v4 r (by omega) r2
    · rw [if_neg (by omega)]
      rcases v with ⟨v1, v2⟩ | ⟨p, v1, v2, v3, v4⟩
      · have := v2 q (by omega); rw [hdq] at this; cases this
      · have a1 := v4 q (by omega) hdq
        by_cases e : p = q
        · rw [v1, e]
        · have a2 := hu p (by omega) v3 e
          omega

/-- The weight of a place. -/
def wgt (c : List Int) (u : Int) : Int := u - 128 * cst c u
theorem both {K W n : Nat} {c o : List Int} (hK : 1000 ≤ K) (hn : n ≤ 64) (hc : c.length = n) (h1 : 1 ≤ W) (h8 : W ≤ 8) (ho : o.length = n) (hb : ∀ i, i < n → 0 ≤ o.getD i default ∧ o.getD i default < (n : Int))
    (so : So (cst c) (wgt c) 0 n o) (sur : ∀ p, p < n → ∃ s, s < n ∧ o.getD s default = ((p : Nat) : Int)) :
    ∀ (k t : Nat) (out : List Int) (done : List Bool) (loads : List Int), t ≤ n → n - t < k → out.length = n → done.length = n → loads.length = W → (∀ p, p < n → (done.getD p default = true ↔ ∃ s, s < t ∧ o.getD s default = (p : Int))) →
    ∃ r, impl_WorkersFor_l2 K c o k (t : Int) loads out = some (r, true) ∧ spec_WorkersFor_l6 K c (W : Int) k (t : Int) out done loads = some (r, true) ∧ r.length = n := by
  intro k
  induction k with
  | zero => intro t out done loads _ h; omega
  | succ k ih =>
    intro t out done loads h2 h3 l1 l2 l3 hD
    rw [impl_WorkersFor_l2, spec_WorkersFor_l6, ite2_dec, ite2_dec]
    by_cases h : t < n
    · rw [if_pos (by omega), if_pos (by omega), chk_pos (by omega), wrap_p1 (by omega), Int.toNat_natCast]
      obtain ⟨b1, b2⟩ := hb t h
      obtain ⟨q, hq⟩ : ∃ q : Nat, o.getD t default = (q : Int) := ⟨(o.getD t default).toNat, by omega⟩
      rw [hq] at b1 b2 ⊢
      obtain ⟨f, mn, f1, f2, f3, f4⟩ := least (K := K) (by omega) l3 h1 h8
      have hdq : done.getD q default = false := by
        cases hh : done.getD q default
        · rfl
        · obtain ⟨s, s1, s2⟩ := (hD q (by omega)).mp hh
          have := (so s t (by omega) s1 h).1
          rw [s2, hq] at this; omega
      have hu : ∀ p, p < n → done.getD p default = false → p ≠ q → c.getD p default ≤ c.getD q default ∧ (p < q → c.getD p default < c.getD q default) := by
        intro p p1 p2 p3
        obtain ⟨s, s1, s2⟩ := sur p p1
        have s3 : t < s := by
          by_cases e : s = t
          · subst e; rw [hq] at s2; omega
          · by_cases e2 : s < t
            · have := (hD p p1).mpr ⟨s, e2, s2⟩; rw [p2] at this; cases this
            · omega
        have lo := so t s (by omega) s3 s1
        rw [s2, hq] at lo
        obtain ⟨lo1, lo2⟩ := lo
        simp only [wgt, cst, Int.toNat_natCast] at lo1 lo2
        exact ⟨lo2, fun hh => by omega⟩
      have hbest := best (K := K) hn hc l2 (by omega) hdq hu K 0 (-1) (by omega) (by omega) (.inl ⟨rfl, fun p hp => by omega⟩)
      rw [show ((0 : Nat) : Int) = 0 from rfl] at hbest
      rw [hbest, bind_of, chk_pos (by omega), f4, f2, bind_of, bind_of, f3, bind_of]
      rw [chk_pos (by omega), chk_pos (by omega), chk_pos (by omega), chk_pos (by omega), chk_pos (by omega), chk_pos (by omega), Int.toNat_natCast, Int.toNat_natCast]
      refine ih (t + 1) _ _ _ (by omega) (by omega) (by rw [len_setα]; exact l1) (by rw [len_setα]; exact l2) (by rw [len_setα]; exact l3) fun p hp => ?_
      rw [sgα (by omega)]
      by_cases e : p = q
      · rw [if_pos e]
        exact ⟨fun _ => ⟨t, by omega, by rw [hq, e]⟩, fun _ => rfl⟩
      · rw [if_neg e, hD p hp]
        constructor
        · rintro ⟨s, s1, s2⟩; exact ⟨s, by omega, s2⟩
        · rintro ⟨s, s1, s2⟩
          by_cases e2 : s = t
          · subst e2; rw [hq] at s2; omega
          · exact ⟨s, by omega, s2⟩
    · rw [if_neg (by omega), if_neg (by omega)]
      exact ⟨out, rfl, rfl, l1⟩

theorem wf_eq {K : Nat} (hK : 1000 ≤ K) (c : List Int) (a1 : Int) : ∃ r ok, spec_WorkersFor K c a1 = some (r, ok) ∧ impl_WorkersFor K c a1 = some (r, ok) ∧ r.length ≤ 1048576 := by
  unfold spec_WorkersFor impl_WorkersFor slices_ContainsFunc_int64_int64 slices_IndexFunc_int64_int64
  rw [ite2_dec, ite2_dec, In_eq, Are_eq]
  by_cases h : (c.length : Int) > 64
  · rw [if_pos h, if_pos h]
    exact ⟨[], false, rfl, rfl, by simp⟩
  rw [if_neg h, if_neg h]
  simp only [bind_of]
  cases hv : (decide (1 ≤ a1) && decide (a1 ≤ 8))
  · exact ⟨[], false, rfl, rfl, by simp⟩
  simp only [Bool.and_eq_true, decide_eq_true_eq] at hv
  simp only [Bool.not_true, ite2_false, bind_of]
  by_cases hc : Co c
  · have i1 := idx_good (K := K) hc (by omega) K 0 (by omega) (by omega)
    have i2 := ok_good (K := K) (a1 := a1) hc (by omega) K 0 (by omega) (by omega)
    rw [show ((0 : Nat) : Int) = 0 from rfl] at i1 i2
    rw [i1, i2]
    simp only [bind_of, show decide ((-1 : Int) ≥ 0) = false by decide, ite2_false]
    obtain ⟨W, rfl⟩ : ∃ W : Nat, a1 = (W : Int) := ⟨a1.toNat, by omega⟩
    have hr : ((List.replicate (c.length : Int).toNat (default : Int)).length : Int) = (c.length : Int) := by simp
    obtain ⟨d, d1, d2, d3⟩ := fill (K := K) (c := c) (a1 := (W : Int)) (by omega) K 0 (List.replicate (c.length : Int).toNat default) (by simp) (by omega) (by omega) (fun j hj => by omega)
    rw [show ((0 : Nat) : Int) = 0 from rfl] at d1
    rw [chk_pos (by omega), d1, impl_WorkersFor_l1, spec_WorkersFor_l1, ite2_dec, ite2_dec, hr, if_neg (Int.lt_irrefl _), if_neg (Int.lt_irrefl _)]
    have st : Stb c (wgt c) c.length d := by
      refine ⟨d2, fun i hi => ?_, fun i j i1 i2 i3 => ?_⟩
      · rw [d3 i (by omega)]; omega
      · rw [d3 i (by omega), d3 j i3]
        unfold XX Lo wgt
        by_cases g : cst c (i : Int) < cst c (j : Int)
        · exact .inl ⟨g, by omega, by omega⟩
        · exact .inr ⟨g, by omega, by omega⟩
    obtain ⟨o, o1, o2, o3, o4⟩ := stable_all (K := K) hc (by omega) (by omega) st
    rw [o1, bind_of, chk_pos (by omega), chk_pos (by omega), chk_pos (by omega), chk_pos (by omega), chk_pos (by omega), chk_pos (by omega)]
    obtain ⟨r, r1, r2, r3⟩ := both (K := K) (W := W) (n := c.length) (c := c) (o := o) hK (by omega) rfl (by omega) (by omega) o4
      (fun i hi => by
        obtain ⟨y, y1, y2, y3⟩ := o2.inn (by omega) (Nat.zero_le i) hi
        rw [y3, d3 y y2]; omega)
      o3 (fun p hp => by
        obtain ⟨y, y1, y2, y3⟩ := o2.inn' (by omega) (Nat.zero_le p) hp
        exact ⟨y, y2, by rw [y3, d3 p hp]⟩)
      K 0 (List.replicate (c.length : Int).toNat default) (List.replicate (c.length : Int).toNat default) (List.replicate (W : Int).toNat default) (by omega) (by omega) (by simp) (by simp) (by simp) (fun p hp => by
        constructor
        · intro hh
          rw [List.getD_eq_getElem?_getD, List.getElem?_replicate] at hh
          split at hh <;> cases hh
        · rintro ⟨s, s1, s2⟩; omega)
    rw [show ((0 : Nat) : Int) = 0 from rfl] at r1 r2
    exact ⟨r, true, r2, r1, by omega⟩
  · have hbad : ∃ x, 0 ≤ x ∧ x < c.length ∧ ¬ (0 ≤ c.getD x default ∧ c.getD x default ≤ 1000000) := by
      apply Classical.byContradiction
      intro hno
      exact hc fun i hi => Classical.byContradiction fun hh => hno ⟨i, Nat.zero_le _, hi, hh⟩
    obtain ⟨j, j1⟩ := idx_bad (K := K) (c := c) (by omega) K 0 (by omega) (by omega) hbad
    have i2 := ok_bad (K := K) (c := c) (a1 := a1) (by omega) K 0 (by omega) (by omega) hbad
    rw [show ((0 : Nat) : Int) = 0 from rfl] at j1 i2
    rw [j1, i2]
    simp only [bind_of]
    rw [decide_eq_true (by omega : (j : Int) ≥ 0)]
    exact ⟨[], false, rfl, rfl, by simp⟩

theorem law_WorkersFor (a : List Int) (f : Int) (hm : a.length ≤ maxLen) : ∃ K, laws_FnExactWorkersFor K a f = some true := by
  refine ⟨a.length + 1048578, ?_⟩
  generalize hKe : a.length + 1048578 = K
  unfold laws_FnExactWorkersFor
  rw [ite2_dec]
  split
  · rfl
  · have hs : a.length ≤ 1048576 := by omega
    obtain ⟨s, ok, s1, s2, s3⟩ := wf_eq (K := K) (by omega) a f
    have b1 := (cnL_bound2 (c := fun (_ : Int) => (1 : Int)) (B := 1) (by omega) hs (fun x _ => ⟨by omega, by omega⟩))
    have b2 := (cnL_bound2 (c := fun (_ : Int) => (1 : Int)) (B := 1) (by omega) s3 (fun x _ => ⟨by omega, by omega⟩))
    have n1 : decide ((1 : Int) + cnL (fun (_ : Int) => (1 : Int)) a < 0) = false := decide_eq_false (by omega)
    have n2 : decide ((1 : Int) + cnL (fun (_ : Int) => (1 : Int)) s < 0) = false := decide_eq_false (by omega)
    simp only [to_Int64S (K := K) (a := a) (by omega) hs, bind_of, s1, s2, eq_Int64S (K := K) (a := a) (by omega) hs, eq_Int64S (K := K) (a := s) (by omega) s3, Bool.not_true, ite2_false, beq_self_eq_true, bne_self_eq_false,
      mark_Int64S (K := K) (a := a) (k0 := 1) (by omega) hs (by omega) (by omega), mark_Int64S (K := K) (a := s) (k0 := 1) (by omega) s3 (by omega) (by omega), held_Int64S (K := K) (a := s) (k0 := 1) (by omega) s3 (by omega) (by omega), chk_pos (mkL_length _ _ _ _), n1, n2]
end Go.Fw
