/- Plain programs: tools. -/
import Derived.Test.YtblpjlaihgcilacFwR6
import Derived.Laws.BitsLemmas
namespace Go.Fw
open Go

theorem ite2_true {α : Type} (x y : Option α) : ite2 true x y = x := rfl
theorem ite2_false {α : Type} (x y : Option α) : ite2 false x y = y := rfl
theorem ite2_dec {α : Type} (p : Prop) [Decidable p] (x y : Option α) : ite2 (decide p) x y = if p then x else y := by
  unfold ite2
  by_cases h : p <;> simp [h]
theorem chk_pos {α : Type} {p : Prop} [Decidable p] (h : p) (x : Option α) : chk p x = x := by simp [chk, h]
theorem bind_of {α β : Type} (a : α) (f : α → Option β) : (some a).bind f = f a := rfl
theorem wrap_in {n : Int} (h0 : -9223372036854775808 ≤ n) (h1 : n ≤ 9223372036854775807) : IntKind.i64.wrap n = n := by
  rw [IntKind.wrap_i64]; omega
theorem maxLen_eq : maxLen = 9223372036854775807 := by decide
theorem getD_of_lt {α : Type} [Inhabited α] {xs : List α} {i : Nat} (h : i < xs.length) : xs.getD i default = xs[i] := by
  rw [List.getD_eq_getElem?_getD, List.getElem?_eq_getElem h]; rfl
theorem getD_mem {α : Type} [Inhabited α] {xs : List α} {i : Nat} (h : i < xs.length) : xs.getD i default ∈ xs := by
  rw [getD_of_lt h]; exact List.getElem_mem h

/-- A loop that copies. -/
theorem copy_loop {α : Type} [Inhabited α] (xs : List α) (conv : α → Option α) (hconv : ∀ x ∈ xs, conv x = some x) (hlen : xs.length ≤ maxLen) (l : Nat → Int → List α → Option (List α))
    (hl : ∀ k i ys, l (k + 1) i ys = ite2 (decide (i < (xs.length : Int))) (chk (0 ≤ i ∧ i < (xs.length : Int)) ((conv (xs.getD i.toNat default)).bind fun v => chk (0 ≤ i ∧ i < (ys.length : Int)) (l k (IntKind.i64.wrap (i + 1)) (ys.set i.toNat v)))) (some ys)) :
    ∀ (k : Nat) (i : Nat) (ys : List α), i ≤ xs.length → ys.length = xs.length → (∀ j, j < i → ys[j]? = xs[j]?) → xs.length - i < k → l k (i : Int) ys = some xs := by
  intro k
  induction k with
  | zero => intro i ys _ _ _ h; omega
  | succ k ih =>
    intro i ys hi hy hp hk
    rw [hl, ite2_dec]
    by_cases h : i < xs.length
    · rw [if_pos (by omega), chk_pos (by omega)]
      have hm := getD_mem (xs := xs) (i := i) h
      rw [Int.toNat_natCast, hconv _ hm, bind_of, chk_pos (by omega)]
      have hw : IntKind.i64.wrap ((i : Int) + 1) = ((i + 1 : Nat) : Int) := by
        rw [maxLen_eq] at hlen
        rw [wrap_in (by omega) (by omega)]; omega
      rw [hw]
      refine ih (i + 1) _ (by omega) (by simpa using hy) (fun j hj => ?_) (by omega)
      by_cases e : j = i
      · subst e
        rw [List.getElem?_set_self (by omega), getD_of_lt h, List.getElem?_eq_getElem h]
      · rw [List.getElem?_set_ne (by omega)]
        exact hp j (by omega)
    · rw [if_neg (by omega)]
      congr 1
      apply List.ext_getElem?
      intro j
      by_cases hj : j < i
      · exact hp j hj
      · rw [List.getElem?_eq_none (by omega), List.getElem?_eq_none (by omega)]

/-- A loop that compares a list with itself. -/
theorem eq_loop {α : Type} [Inhabited α] (xs : List α) (eqv : α → α → Option Bool) (heq : ∀ x ∈ xs, eqv x x = some true) (hlen : xs.length ≤ maxLen) (l : Nat → Int → Option Bool)
    (hl : ∀ k i, l (k + 1) i = ite2 (decide (i < (xs.length : Int))) (chk (0 ≤ i ∧ i < (xs.length : Int)) (chk (0 ≤ i ∧ i < (xs.length : Int)) ((eqv (xs.getD i.toNat default) (xs.getD i.toNat default)).bind fun v => ite2 (!v) (some false) (l k (IntKind.i64.wrap (i + 1)))))) (some true)) :
    ∀ (k : Nat) (i : Nat), i ≤ xs.length → xs.length - i < k → l k (i : Int) = some true := by
  intro k
  induction k with
  | zero => intro i _ h; omega
  | succ k ih =>
    intro i hi hk
    rw [hl, ite2_dec]
    by_cases h : i < xs.length
    · rw [if_pos (by omega), chk_pos (by omega), chk_pos (by omega), Int.toNat_natCast, heq _ (getD_mem h), bind_of]
      have hw : IntKind.i64.wrap ((i : Int) + 1) = ((i + 1 : Nat) : Int) := by
        rw [maxLen_eq] at hlen
        rw [wrap_in (by omega) (by omega)]; omega
      rw [hw]
      exact ih (i + 1) (by omega) (by omega)
    · rw [if_neg (by omega)]

end Go.Fw
