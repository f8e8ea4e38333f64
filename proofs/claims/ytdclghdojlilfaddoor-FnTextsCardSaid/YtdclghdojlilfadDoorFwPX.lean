/- Numerals at base 16 read: what they are worth. -/
import Derived.Lib.Walk
import Derived.Lib.ConvBytes
import Derived.Lib.AtoiErrMem
import Derived.Lib.AtoiAllMem
import Derived.Lib.ParseIntBMem
import Derived.Lib.Hide
import Derived.Lib.Strings
import Derived.Lib.SplitLaws
import Derived.Lib.Bytealg
import Derived.Laws.Strings3
import Derived.Laws.Closers25
import Derived.Laws.Closers25b
import Derived.WalkKit
import Derived.BigCall
import Derived.BigGuard
namespace Go.Proofs
open Go.RowKit
def Px.isHex (c : UInt8) : Prop := (48 ≤ c.toNat ∧ c.toNat ≤ 57) ∨ (97 ≤ c.toNat ∧ c.toNat ≤ 102)
def Px.hv (c : UInt8) : Nat := if c.toNat ≤ 57 then c.toNat - 48 else c.toNat - 87
def Px.hval (l : List UInt8) : Nat := l.foldl (fun a c => a * 16 + Px.hv c) 0
theorem Px.hv_lt {c : UInt8} (h : Px.isHex c) : Px.hv c < 16 := by
  unfold Px.hv; unfold Px.isHex at h; split <;> omega
theorem Px.hval_snoc (l : List UInt8) (c : UInt8) : Px.hval (l ++ [c]) = Px.hval l * 16 + Px.hv c := by simp [Px.hval, List.foldl_append]
theorem Px.fold_lt : ∀ (l : List UInt8) (a n : Nat), (∀ c ∈ l, Px.isHex c) → a < 16 ^ n → l.foldl (fun a c => a * 16 + Px.hv c) a < 16 ^ (n + l.length)
  | [], a, n, _, h => h
  | c :: l, a, n, hx, h => by
    have h2 := Px.hv_lt (hx c (by simp))
    have := Px.fold_lt l (a * 16 + Px.hv c) (n + 1) (fun x hx' => hx x (List.mem_cons_of_mem _ hx')) (by rw [Nat.pow_succ]; omega)
    rw [List.length_cons, show n + (l.length + 1) = n + 1 + l.length by omega]
    exact this
theorem Px.hval_lt (l : List UInt8) (h : ∀ c ∈ l, Px.isHex c) : Px.hval l < 16 ^ l.length := by
  have := Px.fold_lt l 0 0 h (by decide)
  rwa [Nat.zero_add] at this
theorem Px.or32 {c : UInt8} (h : 97 ≤ c.toNat ∧ c.toNat ≤ 102) : bits BinOp.or IntKind.u8 (c.toNat : Int) 32 = (c.toNat : Int) := by
  have go : ∀ n : Nat, 97 ≤ n → n ≤ 102 → bits BinOp.or IntKind.u8 (n : Int) 32 = (n : Int) := by
    intro n h1 h2
    have hn : n = 97 ∨ n = 98 ∨ n = 99 ∨ n = 100 ∨ n = 101 ∨ n = 102 := by omega
    rcases hn with rfl | rfl | rfl | rfl | rfl | rfl <;> decide +kernel
  exact go _ h.1 h.2
instance : DecidablePred Px.isHex := fun c => inferInstanceAs (Decidable ((48 ≤ c.toNat ∧ c.toNat ≤ 57) ∨ (97 ≤ c.toNat ∧ c.toNat ≤ 102)))
theorem Px.index_one (c : UInt8) : ∀ l : List UInt8, Lib.index l [c] = Lib.indexByte l c
  | [] => rfl
  | b :: l => by
    unfold Lib.index Lib.indexByte
    rw [Px.index_one c l]
    have : List.isPrefixOf [c] (b :: l) = (b == c) := by
      by_cases h : b = c
      · subst h; simp [List.isPrefixOf]
      · have h2 : (b == c) = false := by simpa using h
        rw [h2]
        simp [List.isPrefixOf, Ne.symm h]
    rw [this]
/-- A decimal numeral that fits. -/
def Px.pIntL (l : List UInt8) : Option Int := match l with
  | [] => none
  | c :: r => if (c :: r).length ≤ 1000000 then (if c = 43 then none else if c = 45 then (if r = [] then none else match Lib.parseUint10 0 r with
      | .ok u => if u < 9223372036854775808 then some (-(u : Int)) else none
      | _ => none) else match Lib.parseUint10 0 (c :: r) with
      | .ok u => if u < 9223372036854775808 then some (u : Int) else none
      | _ => none) else none
theorem Px.pIntL_some {c : UInt8} {r : List UInt8} {n : Int} (h : Px.pIntL (c :: r) = some n) :
    (c ≠ 43 ∧ c ≠ 45 ∧ ∃ u, Lib.parseUint10 0 (c :: r) = .ok u ∧ u < 9223372036854775808 ∧ (c :: r).length ≤ 1000000 ∧ n = (u : Int)) ∨ (c = 45 ∧ ∃ u, Lib.parseUint10 0 r = .ok u ∧ u < 9223372036854775808 ∧ r.length ≤ 1000000 ∧ 0 < r.length ∧ n = -(u : Int)) := by
  simp only [Px.pIntL] at h
  split at h
  · rename_i hl
    split at h
    · cases h
    · rename_i h1
      split at h
      · rename_i h2
        split at h
        · cases h
        · rename_i h3
          split at h
          · rename_i u hu
            split at h
            · rename_i h4
              cases h
              exact .inr ⟨h2, u, hu, h4, by simp only [List.length_cons] at hl; omega, List.length_pos_iff.2 h3, rfl⟩
            · cases h
          · cases h
      · rename_i h2
        split at h
        · rename_i u hu
          split at h
          · rename_i h4
            cases h
            exact .inl ⟨h1, h2, u, hu, h4, hl, rfl⟩
          · cases h
        · cases h
  · cases h
theorem Px.emp {t : ByteArray} (h : 0 < t.size) : t.toList.isEmpty = false := by
  rw [← decide_eq_emptyBytes]
  exact decide_eq_false (fun e => by rw [e] at h; exact absurd h (by decide))
end Go.Proofs
