
import Derived.Test.YtblpjlaihgcilafFwR6
import Derived.Laws.BitsLemmas
namespace Go.Fw
open Go
theorem ite2_true {α : Type} (x y : Option α) : ite2 true x y = x := rfl
theorem ite2_false {α : Type} (x y : Option α) : ite2 false x y = y := rfl
theorem ite2_dec {α : Type} (p : Prop) [Decidable p] (x y : Option α) : ite2 (decide p) x y = if p then x else y := by
  unfold ite2
  by_cases h : p <;> simp [h]
theorem chk_pos {α : Type} {p : Prop} [Decidable p] (h : p) (x : Option α) : chk p x = x := by simp [chk, h]
theorem bind_of {α β : Type} (a : α) (f : α → Option β) : (some a).bind f = f a := rfl
theorem wrap_in {n : Int} (h0 : -9223372036854775808 ≤ n) (h1 : n ≤ 9223372036854775807) : IntKind.i64.wrap n = n := by
  rw [IntKind.wrap_i64]; omega
theorem getD_of_lt {α : Type} [Inhabited α] {xs : List α} {i : Nat} (h : i < xs.length) : xs.getD i default = xs[i] := by
  rw [List.getD_eq_getElem?_getD, List.getElem?_eq_getElem h]; rfl
theorem getD_mem {α : Type} [Inhabited α] {xs : List α} {i : Nat} (h : i < xs.length) : xs.getD i default ∈ xs := by
  rw [getD_of_lt h]; exact List.getElem_mem h
end Go.Fw
