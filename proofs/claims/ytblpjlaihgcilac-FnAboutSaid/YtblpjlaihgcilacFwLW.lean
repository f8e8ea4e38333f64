/- Plain programs: what is copied, compared, measured, marked and held, for lists of whatever element. -/
import Derived.Test.YtblpjlaihgcilacFwPu
import Derived.Laws.Strings
namespace Go.Fw
open Go

/-- A loop that counts up to n. -/
theorem cnt_loop {β : Type} (n : Nat) (r : β) (l : Nat → Int → Option β) (hend : ∀ (k i : Nat), n ≤ i → l (k + 1) (i : Int) = some r)
    (hstep : ∀ (k i : Nat), i < n → l (k + 1) (i : Int) = l k ((i + 1 : Nat) : Int)) : ∀ (k i : Nat), n - i < k → l k (i : Int) = some r := by
  intro k
  induction k with
  | zero => intro i h; omega
  | succ k ih =>
    intro i hk
    by_cases h : i < n
    · rw [hstep k i h]; exact ih (i + 1) (by omega)
    · exact hend k i (by omega)
/-- A loop that counts up to n and carries a state. -/
theorem fold_loop {σ β : Type} (n : Nat) (f : Nat → σ) (r : β) (l : Nat → Int → σ → Option β) (hend : ∀ (k i : Nat), n ≤ i → i ≤ n → l (k + 1) (i : Int) (f i) = some r)
    (hstep : ∀ (k i : Nat), i < n → l (k + 1) (i : Int) (f i) = l k ((i + 1 : Nat) : Int) (f (i + 1))) : ∀ (k i : Nat), i ≤ n → n - i < k → l k (i : Int) (f i) = some r := by
  intro k
  induction k with
  | zero => intro i _ h; omega
  | succ k ih =>
    intro i hi hk
    by_cases h : i < n
    · rw [hstep k i h]; exact ih (i + 1) (by omega) (by omega)
    · exact hend k i (by omega) hi

theorem set_getD {α : Type} [Inhabited α] {xs : List α} {i : Nat} {v : α} (h : i < xs.length) : (xs.set i v).getD i default = v := by
  rw [List.getD_eq_getElem?_getD, List.getElem?_set_self h]; rfl
theorem wrap_nat1 {i : Nat} (h : i ≤ 1048576) : IntKind.i64.wrap ((i : Int) + 1) = ((i + 1 : Nat) : Int) := by rw [wrap_in (by omega) (by omega)]; omega

/-- A loop that copies element by element. -/
theorem to_loop {α : Type} [Inhabited α] (a : List α) (l : Nat → Int → List α → Option (List α)) (hend : ∀ (k i : Nat) (ys : List α), a.length ≤ i → l (k + 1) (i : Int) ys = some ys)
    (hstep : ∀ (k i : Nat) (ys : List α), i < a.length → ys.length = a.length → l (k + 1) (i : Int) ys = l k ((i + 1 : Nat) : Int) (ys.set i (a.getD i default))) :
    ∀ (k i : Nat) (ys : List α), i ≤ a.length → ys.length = a.length → (∀ j, j < i → ys[j]? = a[j]?) → a.length - i < k → l k (i : Int) ys = some a := by
  intro k
  induction k with
  | zero => intro i ys _ _ _ h; omega
  | succ k ih =>
    intro i ys hi hy hp hk
    by_cases h : i < a.length
    · rw [hstep k i ys h hy]
      refine ih (i + 1) _ (by omega) (by simpa using hy) (fun j hj => ?_) (by omega)
      by_cases e : j = i
      · subst e
        rw [List.getElem?_set_self (by omega), getD_of_lt h, List.getElem?_eq_getElem h]
      · rw [List.getElem?_set_ne (by omega)]
        exact hp j (by omega)
    · rw [hend k i ys (by omega)]
      congr 1
      apply List.ext_getElem?
      intro j
      by_cases hj : j < i
      · exact hp j hj
      · rw [List.getElem?_eq_none (by omega), List.getElem?_eq_none (by omega)]

/-- The greatest length within. -/
def mxL {α : Type} (f : α → Nat) (xs : List α) : Nat := xs.foldr (fun x m => max (f x) m) xs.length
theorem foldr_max_ge {α : Type} (f : α → Nat) (n : Nat) : ∀ (xs : List α), n ≤ xs.foldr (fun x m => max (f x) m) n := by
  intro xs
  induction xs with
  | nil => exact Nat.le_refl _
  | cons x xs ih => rw [List.foldr_cons]; exact Nat.le_trans ih (Nat.le_max_right _ _)
theorem foldr_max_mem {α : Type} (f : α → Nat) (n : Nat) : ∀ (xs : List α) (x : α), x ∈ xs → f x ≤ xs.foldr (fun x m => max (f x) m) n := by
  intro xs
  induction xs with
  | nil => intro x h; cases h
  | cons y xs ih =>
    intro x h
    rw [List.foldr_cons]
    cases h with
    | head => exact Nat.le_max_left _ _
    | tail _ h => exact Nat.le_trans (ih x h) (Nat.le_max_right _ _)
theorem foldr_max_le {α : Type} (f : α → Nat) (n b : Nat) (hn : n ≤ b) : ∀ (xs : List α), (∀ x ∈ xs, f x ≤ b) → xs.foldr (fun x m => max (f x) m) n ≤ b := by
  intro xs
  induction xs with
  | nil => intro _; exact hn
  | cons y xs ih =>
    intro h
    rw [List.foldr_cons]
    exact Nat.max_le.2 ⟨h y (by simp), ih fun x hx => h x (by simp [hx])⟩
theorem mxL_len {α : Type} (f : α → Nat) (xs : List α) : xs.length ≤ mxL f xs := foldr_max_ge f _ xs
theorem mxL_mem {α : Type} {f : α → Nat} {xs : List α} {x : α} (h : x ∈ xs) : f x ≤ mxL f xs := foldr_max_mem f _ xs x h
theorem mxL_le {α : Type} {f : α → Nat} {xs : List α} {b : Nat} (h : xs.length ≤ b) (h2 : ∀ x ∈ xs, f x ≤ b) : mxL f xs ≤ b := foldr_max_le f _ b h xs h2
theorem mxL_getD {α : Type} [Inhabited α] {f : α → Nat} {xs : List α} {i : Nat} (h : i < xs.length) : f (xs.getD i default) ≤ mxL f xs := mxL_mem (getD_mem h)

/-- How much is marked of a list; the list marked. -/
def cnL {α : Type} (c : α → Int) : List α → Int
  | [] => 0
  | x :: xs => c x + cnL c xs
def mkL {α : Type} (m : Int → α → α) (c : α → Int) : Int → List α → List α
  | _, [] => []
  | k, x :: xs => m k x :: mkL m c (k + c x) xs
theorem mkL_length {α : Type} (m : Int → α → α) (c : α → Int) : ∀ (xs : List α) (k : Int), (mkL m c k xs).length = xs.length := by
  intro xs
  induction xs with
  | nil => intro k; rfl
  | cons x xs ih => intro k; simp [mkL, ih]
theorem cnL_append {α : Type} (c : α → Int) : ∀ (xs ys : List α), cnL c (xs ++ ys) = cnL c xs + cnL c ys := by
  intro xs
  induction xs with
  | nil => intro ys; simp [cnL]
  | cons x xs ih => intro ys; simp only [List.cons_append, cnL, ih]; omega
theorem mkL_append {α : Type} (m : Int → α → α) (c : α → Int) : ∀ (xs ys : List α) (k : Int), mkL m c k (xs ++ ys) = mkL m c k xs ++ mkL m c (k + cnL c xs) ys := by
  intro xs
  induction xs with
  | nil => intro ys k; simp [mkL, cnL]
  | cons x xs ih => intro ys k; simp only [List.cons_append, mkL, ih, cnL, Int.add_assoc]
theorem cnL_bound {α : Type} {c : α → Int} {B : Int} : ∀ (xs : List α), (∀ x ∈ xs, 0 ≤ c x ∧ c x ≤ B) → 0 ≤ cnL c xs ∧ cnL c xs ≤ (xs.length : Int) * B := by
  intro xs
  induction xs with
  | nil => intro _; simp [cnL]
  | cons x xs ih =>
    intro h
    have h1 := h x (by simp)
    have h2 := ih fun y hy => h y (by simp [hy])
    rw [cnL, List.length_cons, Int.natCast_add, Int.add_mul]
    generalize (xs.length : Int) * B = q at h2 ⊢
    constructor <;> omega
theorem cnL_bound2 {α : Type} {c : α → Int} {B : Int} (hB : 0 ≤ B) {xs : List α} (hl : xs.length ≤ 1048576) (h : ∀ x ∈ xs, 0 ≤ c x ∧ c x ≤ B) : 0 ≤ cnL c xs ∧ cnL c xs ≤ 1048576 * B := by
  have h1 := cnL_bound xs h
  refine ⟨h1.1, Int.le_trans h1.2 (Int.mul_le_mul_of_nonneg_right (by omega) hB)⟩
theorem mkL_getD {α : Type} [Inhabited α] (m : Int → α → α) (c : α → Int) : ∀ (xs : List α) (k : Int) (i : Nat), i < xs.length → (mkL m c k xs).getD i default = m (k + cnL c (xs.take i)) (xs.getD i default) := by
  intro xs
  induction xs with
  | nil => intro k i h; simp at h
  | cons x xs ih =>
    intro k i h
    cases i with
    | zero => simp [mkL, cnL]
    | succ i =>
      simp only [mkL, List.getD_cons_succ, List.take_succ_cons, cnL]
      rw [ih _ i (by simpa using h), Int.add_assoc]
theorem take_succ_getD {α : Type} [Inhabited α] {xs : List α} {i : Nat} (h : i < xs.length) : xs.take (i + 1) = xs.take i ++ [xs.getD i default] := by
  rw [getD_of_lt h, List.take_add_one, List.getElem?_eq_getElem h]; rfl
theorem cnL_take {α : Type} [Inhabited α] (c : α → Int) {xs : List α} {i : Nat} (h : i < xs.length) : cnL c (xs.take (i + 1)) = cnL c (xs.take i) + c (xs.getD i default) := by
  rw [take_succ_getD h, cnL_append]; simp [cnL]

theorem cnL_take_le {α : Type} {c : α → Int} {B : Int} {xs : List α} (hB : 0 ≤ B) (hl : xs.length ≤ 1048576) (h : ∀ x ∈ xs, 0 ≤ c x ∧ c x ≤ B) (i : Nat) : 0 ≤ cnL c (xs.take i) ∧ cnL c (xs.take i) ≤ 1048576 * B :=
  cnL_bound2 hB (by rw [List.length_take]; omega) fun x hx => h x (List.mem_of_mem_take hx)

theorem cnL_take_lt {α : Type} {c : α → Int} {B : Int} {xs : List α} (hB : 0 ≤ B) (hl : xs.length ≤ 1048576) (h : ∀ x ∈ xs, 0 ≤ c x ∧ c x ≤ B) {i : Nat} (hi : i < xs.length) : cnL c (xs.take i) + B ≤ 1048576 * B := by
  have h1 := (cnL_bound (xs.take i) fun x hx => h x (List.mem_of_mem_take hx)).2
  have h2 : ((xs.take i).length : Int) + 1 ≤ 1048576 := by rw [List.length_take]; omega
  have h3 := Int.mul_le_mul_of_nonneg_right h2 hB
  rw [Int.add_mul] at h3
  omega

/-- A loop that marks. -/
theorem mark_loop {α : Type} [Inhabited α] (m : Int → α → α) (c : α → Int) (B k0 : Int) (a : List α) (hB : 0 ≤ B) (hl : a.length ≤ 1048576) (hc : ∀ x ∈ a, 0 ≤ c x ∧ c x ≤ B) (h0 : 0 ≤ k0) (h1 : k0 + 1048576 * B ≤ 4611686018427387904)
    (l : Nat → Int → Int → List α → Option (Int × List α)) (hend : ∀ (k i : Nat) (x : Int) (xs : List α), xs.length = a.length → xs.length ≤ i → l (k + 1) x (i : Int) xs = some (x, xs))
    (hstep : ∀ (k i : Nat) (x : Int) (xs : List α), 0 ≤ x → x + B ≤ 4611686018427387904 → i < a.length → xs.length = a.length → i < xs.length → xs.length ≤ 1048576 → xs.getD i default = a.getD i default → a.getD i default ∈ a → l (k + 1) x (i : Int) xs = l k (x + c (a.getD i default)) ((i + 1 : Nat) : Int) (xs.set i (m x (a.getD i default)))) :
    ∀ (k : Nat), a.length < k → l k k0 0 a = some (k0 + cnL c a, mkL m c k0 a) := by
  have key : ∀ (k i : Nat), i ≤ a.length → a.length - i < k → l k (k0 + cnL c (a.take i)) (i : Int) (mkL m c k0 (a.take i) ++ a.drop i) = some (k0 + cnL c a, mkL m c k0 a) := by
    intro k
    induction k with
    | zero => intro i _ h; omega
    | succ k ih =>
      intro i hi hk
      have hlen : (mkL m c k0 (a.take i) ++ a.drop i).length = a.length := by
        rw [List.length_append, mkL_length, List.length_take, List.length_drop]; omega
      have hb := cnL_take_le hB hl hc i
      by_cases h : i < a.length
      · have hl1 : (mkL m c k0 (a.take i)).length = i := by rw [mkL_length, List.length_take]; omega
        have hg : (mkL m c k0 (a.take i) ++ a.drop i).getD i default = a.getD i default := by
          rw [List.getD_eq_getElem?_getD, List.getElem?_append_right (by omega), hl1, Nat.sub_self, List.getElem?_drop, Nat.add_zero, ← List.getD_eq_getElem?_getD]
        have hb2 := cnL_take_lt hB hl hc h
        rw [hstep k i _ _ (by omega) (by omega) h hlen (by omega) (by omega) hg (getD_mem h)]
        have e1 : k0 + cnL c (a.take i) + c (a.getD i default) = k0 + cnL c (a.take (i + 1)) := by rw [cnL_take c h]; omega
        have e2 : (mkL m c k0 (a.take i) ++ a.drop i).set i (m (k0 + cnL c (a.take i)) (a.getD i default)) = mkL m c k0 (a.take (i + 1)) ++ a.drop (i + 1) := by
          rw [take_succ_getD h, mkL_append, List.set_append_right _ _ (by omega), hl1, Nat.sub_self, List.drop_eq_getElem_cons h, List.set_cons_zero]
          simp only [mkL, List.append_assoc, List.cons_append, List.nil_append]
        rw [e1, e2]
        exact ih (i + 1) (by omega) (by omega)
      · have e : i = a.length := by omega
        rw [hend k i _ _ hlen (by omega), e, List.take_length, List.drop_length, List.append_nil]
  intro k hk
  have := key k 0 (by omega) (by omega)
  simpa [cnL, mkL] using this

/-- A loop that looks whether the marks stand. -/
theorem held_loop {α : Type} [Inhabited α] (m : Int → α → α) (c : α → Int) (B k0 : Int) (a : List α) (hB : 0 ≤ B) (hl : a.length ≤ 1048576) (hc : ∀ x ∈ a, 0 ≤ c x ∧ c x ≤ B) (h0 : 0 ≤ k0) (h1 : k0 + 1048576 * B ≤ 4611686018427387904)
    (l : Nat → Int → Int → Option Int) (hend : ∀ (k i : Nat) (x : Int), a.length ≤ i → l (k + 1) x (i : Int) = some x)
    (hstep : ∀ (k i : Nat) (x : Int), 0 ≤ x → x + B ≤ 4611686018427387904 → i < a.length → i < (mkL m c k0 a).length → i ≤ 1048576 → (mkL m c k0 a).getD i default = m x (a.getD i default) → a.getD i default ∈ a → l (k + 1) x (i : Int) = l k (x + c (a.getD i default)) ((i + 1 : Nat) : Int)) :
    ∀ (k : Nat), a.length < k → l k k0 0 = some (k0 + cnL c a) := by
  have key : ∀ (k i : Nat), i ≤ a.length → a.length - i < k → l k (k0 + cnL c (a.take i)) (i : Int) = some (k0 + cnL c a) := by
    intro k
    induction k with
    | zero => intro i _ h; omega
    | succ k ih =>
      intro i hi hk
      have hb := cnL_take_le hB hl hc i
      by_cases h : i < a.length
      · have hb2 := cnL_take_lt hB hl hc h
        rw [hstep k i _ (by omega) (by omega) h (by rw [mkL_length]; exact h) (by omega) (mkL_getD m c a k0 i h) (getD_mem h)]
        have e1 : k0 + cnL c (a.take i) + c (a.getD i default) = k0 + cnL c (a.take (i + 1)) := by rw [cnL_take c h]; omega
        rw [e1]
        exact ih (i + 1) (by omega) (by omega)
      · have e : i = a.length := by omega
        rw [hend k i _ (by omega), e, List.take_length]
  intro k hk
  have := key k 0 (by omega) (by omega)
  simpa [cnL] using this

/-- A measure that is taken from. -/
def Sz (r : Option Int) (s : Int) (n : Nat) : Prop := ∃ q, r = some q ∧ -1 ≤ q ∧ q ≤ s ∧ (0 ≤ q → (n : Int) ≤ s)
theorem sz_flat {s : Int} {n : Nat} (h0 : 0 ≤ s) (h1 : s ≤ 1048576) (hl : n ≤ maxLen) : Sz (ite2 (decide (IntKind.i64.wrap (s - (n : Int)) < (0 : Int))) (some ((-1) : Int)) (some (IntKind.i64.wrap (s - (n : Int))))) s n := by
  rw [maxLen_eq] at hl
  rw [wrap_in (by omega) (by omega), ite2_dec]
  split
  · exact ⟨-1, rfl, by omega, by omega, by omega⟩
  · exact ⟨_, rfl, by omega, by omega, by omega⟩
theorem Sz.last {r : Option Int} {s : Int} {n : Nat} (h : Sz r s n) : Sz (r.bind fun v => ite2 (decide (v < (0 : Int))) (some ((-1) : Int)) (some v)) s n := by
  obtain ⟨q, rfl, h1, h2, h3⟩ := h
  rw [bind_of, ite2_dec]
  split
  · exact ⟨-1, rfl, by omega, by omega, by omega⟩
  · exact ⟨q, rfl, h1, h2, h3⟩
theorem Sz.then {r : Option Int} {s : Int} {n m : Nat} {f : Int → Option Int} (h : Sz r s n) (hs : s ≤ 1048576) (hf : ∀ v, 0 ≤ v → v ≤ s → v ≤ 1048576 → Sz (f v) v m) : Sz (r.bind fun v => ite2 (decide (v < (0 : Int))) (some ((-1) : Int)) (f v)) s (max n m) := by
  obtain ⟨q, rfl, h1, h2, h3⟩ := h
  rw [bind_of, ite2_dec]
  split
  · exact ⟨-1, rfl, by omega, by omega, by omega⟩
  · obtain ⟨p, e, g1, g2, g3⟩ := hf q (by omega) h2 (by omega)
    exact ⟨p, e, g1, by omega, fun hp => by have := g3 hp; have := h3 (by omega); omega⟩
theorem sz_loop {α : Type} [Inhabited α] (f : α → Nat) (a : List α) (hl : a.length ≤ maxLen) (l : Nat → Int → Int → Option Int) (sz : α → Int → Option Int) (hsz : ∀ x ∈ a, ∀ s, 0 ≤ s → s ≤ 1048576 → Sz (sz x s) s (f x))
    (hend : ∀ (k i : Nat) (s : Int), a.length ≤ i → l (k + 1) s (i : Int) = some s)
    (hstep : ∀ (k i : Nat) (s : Int), i < a.length → l (k + 1) s (i : Int) = (sz (a.getD i default) s).bind fun v => ite2 (decide (v < (0 : Int))) (some ((-1) : Int)) (l k v (IntKind.i64.wrap ((i : Int) + 1)))) :
    ∀ (k i : Nat) (s : Int), i ≤ a.length → 0 ≤ s → s ≤ 1048576 → a.length - i < k → ∃ q, l k s (i : Int) = some q ∧ -1 ≤ q ∧ q ≤ s ∧ (0 ≤ q → ∀ j, i ≤ j → ∀ x, a[j]? = some x → (f x : Int) ≤ s) := by
  rw [maxLen_eq] at hl
  intro k
  induction k with
  | zero => intro i s _ _ _ h; omega
  | succ k ih =>
    intro i s hi h0 h1 hk
    by_cases h : i < a.length
    · rw [hstep k i s h]
      obtain ⟨q, e, g1, g2, g3⟩ := hsz _ (getD_mem h) s h0 h1
      rw [e, bind_of, ite2_dec]
      split
      · exact ⟨-1, rfl, by omega, by omega, by omega⟩
      · rw [wrap_in (by omega) (by omega), show (i : Int) + 1 = ((i + 1 : Nat) : Int) by omega]
        obtain ⟨p, e2, p1, p2, p3⟩ := ih (i + 1) q (by omega) (by omega) (by omega) (by omega)
        refine ⟨p, e2, p1, by omega, fun hp j hj x hx => ?_⟩
        by_cases e : j = i
        · subst e
          have := g3 (by omega)
          rw [getD_of_lt h] at this
          rw [List.getElem?_eq_getElem h] at hx
          cases hx
          exact this
        · have := p3 hp j (by omega) x hx
          omega
    · rw [hend k i s (by omega)]
      exact ⟨s, rfl, by omega, by omega, fun _ j hj x hx => by rw [List.getElem?_eq_none (by omega)] at hx; cases hx⟩
theorem sz_nested {α : Type} [Inhabited α] (f : α → Nat) (a : List α) (hl : a.length ≤ maxLen) (l : Nat → Int → Int → Option Int) (sz : α → Int → Option Int) (hsz : ∀ x ∈ a, ∀ s, 0 ≤ s → s ≤ 1048576 → Sz (sz x s) s (f x))
    (hend : ∀ (k i : Nat) (s : Int), a.length ≤ i → l (k + 1) s (i : Int) = some s)
    (hstep : ∀ (k i : Nat) (s : Int), i < a.length → l (k + 1) s (i : Int) = (sz (a.getD i default) s).bind fun v => ite2 (decide (v < (0 : Int))) (some ((-1) : Int)) (l k v (IntKind.i64.wrap ((i : Int) + 1))))
    {K : Nat} (hK : a.length < K) {s : Int} (h0 : 0 ≤ s) (h1 : s ≤ 1048576) : Sz (ite2 (decide (IntKind.i64.wrap (s - (a.length : Int)) < (0 : Int))) (some ((-1) : Int)) (l K (IntKind.i64.wrap (s - (a.length : Int))) (0 : Int))) s (mxL f a) := by
  have hl' := hl
  rw [maxLen_eq] at hl'
  rw [wrap_in (by omega) (by omega), ite2_dec]
  split
  · exact ⟨-1, rfl, by omega, by omega, by omega⟩
  · obtain ⟨q, e, g1, g2, g3⟩ := sz_loop f a hl l sz hsz hend hstep K 0 (s - a.length) (by omega) (by omega) (by omega) (by omega)
    refine ⟨q, e, g1, by omega, fun hq => ?_⟩
    obtain ⟨n, hn⟩ := Int.eq_ofNat_of_zero_le h0
    rw [hn]
    have : mxL f a ≤ n := mxL_le (by omega) fun x hx => by
      obtain ⟨j, hj⟩ := List.mem_iff_getElem?.1 hx
      have := g3 hq j (by omega) x hj
      omega
    exact Int.ofNat_le.2 this

/-! Numbers that mark. -/
theorem word_mod (f : Ieee.Format) (neg : Bool) {r : Nat} (h : r < f.signWeight) : f.word neg r % f.signWeight = r := by
  unfold Ieee.Format.word
  split
  · rw [Nat.add_mod_left, Nat.mod_eq_of_lt h]
  · exact Nat.mod_eq_of_lt h
theorem read_word_num (f : Ieee.Format) (neg : Bool) {r : Nat} (h : r ≤ f.infRung) : (f.read (f.word neg r)).isNaN = false := by
  unfold Ieee.Format.read
  simp only [word_mod f neg (Nat.lt_of_le_of_lt h f.infRung_lt)]
  split
  · rfl
  · split
    · rfl
    · split
      · rfl
      · omega
theorem nearest_num (f : Ieee.Format) (neg : Bool) (m : Nat) (p : Int) : (f.read (f.nearest neg m p)).isNaN = false := by
  unfold Ieee.Format.nearest
  dsimp only
  split
  · exact read_word_num f neg (Nat.zero_le _)
  · exact read_word_num f neg (Nat.min_le_right ..)
theorem order_self {d : Ieee.Datum} (h : d.isNaN = false) : d.order d = some .eq := by
  cases d with
  | number s m i => simp [Ieee.Datum.order]
  | infinity s => simp [Ieee.Datum.order]
  | nan s t => cases h
theorem ofInt_ne (k : FloatKind) (n : Int) : (Fl.ofInt k n).ne (Fl.ofInt k n) = false := by
  have : k.format.order (canonF k (k.nearest n)) (canonF k (k.nearest n)) = some .eq := by
    rw [← order_canon]
    exact order_self (nearest_num _ _ _ _)
  show (k.format.order (canonF k (k.nearest n)) (canonF k (k.nearest n)) != some .eq) = false
  rw [this]; rfl


end Go.Fw
