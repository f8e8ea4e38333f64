
import Derived.Test.YtcgakaboochpaadGreatFwR6
import Derived.Laws.BitsLemmas
namespace Go.Fw
open Go
theorem zq6 {α : Type} (x y : Option α) : ite2 true x y = x := rfl
theorem zql {α : Type} (x y : Option α) : ite2 false x y = y := rfl
theorem zqv {α : Type} (p : Prop) [Decidable p] (x y : Option α) : ite2 (decide p) x y = if p then x else y := by
 unfold ite2
 by_cases h : p <;> simp [h]
theorem zqq {α : Type} {p : Prop} [Decidable p] (h : p) (x : Option α) : chk p x = x := by simp [chk, h]
theorem zqf {α β : Type} (a : α) (f : α → Option β) : (some a).bind f = f a := rfl
theorem zxj {n : Int} (h0 : -9223372036854775808 ≤ n) (h1 : n ≤ 9223372036854775807) : IntKind.i64.wrap n = n := by
 rw [IntKind.wrap_i64]; omega
theorem zxu {α : Type} [Inhabited α] {xs : List α} {i : Nat} (h : i < xs.length) : xs.getD i default = xs[i] := by
 rw [List.getD_eq_getElem?_getD, List.getElem?_eq_getElem h]; rfl
theorem zji {α : Type} [Inhabited α] {xs : List α} {i : Nat} (h : i < xs.length) : xs.getD i default ∈ xs := by
 rw [zxu h]; exact List.getElem_mem h
end Go.Fw
