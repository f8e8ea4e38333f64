/- Numerals at base 16 read: what they are worth. -/
import Derived.Lib.Walk
import Derived.Lib.ConvBytes
import Derived.Lib.AtoiErrMem
import Derived.Lib.ParseIntBMem
import Derived.Lib.Hide
import Derived.Lib.Strings
import Derived.Lib.SplitLaws
import Derived.Lib.Bytealg
import Derived.Laws.Strings3
import Derived.Laws.Closers25
import Derived.Laws.Closers25b
import Derived.WalkKit
import Derived.BigCall
import Derived.BigGuard
namespace Go.Proofs
open Go.RowKit
def Px.isHex (c : UInt8) : Prop := (48 ≤ c.toNat ∧ c.toNat ≤ 57) ∨ (97 ≤ c.toNat ∧ c.toNat ≤ 102)
def Px.hv (c : UInt8) : Nat := if c.toNat ≤ 57 then c.toNat - 48 else c.toNat - 87
def Px.hval (l : List UInt8) : Nat := l.foldl (fun a c => a * 16 + Px.hv c) 0
theorem Px.hv_lt {c : UInt8} (h : Px.isHex c) : Px.hv c < 16 := by
  unfold Px.hv; unfold Px.isHex at h; split <;> omega
theorem Px.hval_snoc (l : List UInt8) (c : UInt8) : Px.hval (l ++ [c]) = Px.hval l * 16 + Px.hv c := by simp [Px.hval, List.foldl_append]
theorem Px.fold_lt : ∀ (l : List UInt8) (a n : Nat), (∀ c ∈ l, Px.isHex c) → a < 16 ^ n → l.foldl (fun a c => a * 16 + Px.hv c) a < 16 ^ (n + l.length)
  | [], a, n, _, h => h
  | c :: l, a, n, hx, h => by
    have h2 := Px.hv_lt (hx c (by simp))
    have := Px.fold_lt l (a * 16 + Px.hv c) (n + 1) (fun x hx' => hx x (List.mem_cons_of_mem _ hx')) (by rw [Nat.pow_succ]; omega)
    rw [List.length_cons, show n + (l.length + 1) = n + 1 + l.length by omega]
    exact this
theorem Px.hval_lt (l : List UInt8) (h : ∀ c ∈ l, Px.isHex c) : Px.hval l < 16 ^ l.length := by
  have := Px.fold_lt l 0 0 h (by decide)
  rwa [Nat.zero_add] at this
theorem Px.or32 {c : UInt8} (h : 97 ≤ c.toNat ∧ c.toNat ≤ 102) : bits BinOp.or IntKind.u8 (c.toNat : Int) 32 = (c.toNat : Int) := by
  have go : ∀ n : Nat, 97 ≤ n → n ≤ 102 → bits BinOp.or IntKind.u8 (n : Int) 32 = (n : Int) := by
    intro n h1 h2
    have hn : n = 97 ∨ n = 98 ∨ n = 99 ∨ n = 100 ∨ n = 101 ∨ n = 102 := by omega
    rcases hn with rfl | rfl | rfl | rfl | rfl | rfl <;> decide +kernel
  exact go _ h.1 h.2
instance : DecidablePred Px.isHex := fun c => inferInstanceAs (Decidable ((48 ≤ c.toNat ∧ c.toNat ≤ 57) ∨ (97 ≤ c.toNat ∧ c.toNat ≤ 102)))
theorem Px.index_one (c : UInt8) : ∀ l : List UInt8, Lib.index l [c] = Lib.indexByte l c
  | [] => rfl
  | b :: l => by
    unfold Lib.index Lib.indexByte
    rw [Px.index_one c l]
    have : List.isPrefixOf [c] (b :: l) = (b == c) := by
      by_cases h : b = c
      · subst h; simp [List.isPrefixOf]
      · have h2 : (b == c) = false := by simpa using h
        rw [h2]
        simp [List.isPrefixOf, Ne.symm h]
    rw [this]
end Go.Proofs
