/- Numerals at base 16 read: what they are worth. -/
import Derived.Lib.Walk
import Derived.Lib.ConvBytes
import Derived.Lib.AtoiErrMem
import Derived.Lib.AtoiAllMem
import Derived.Lib.ParseIntBMem
import Derived.Lib.Hide
import Derived.Lib.Strings
import Derived.Lib.SplitLaws
import Derived.Lib.Bytealg
import Derived.Laws.Strings3
import Derived.Laws.Closers25
import Derived.Laws.Closers25b
import Derived.WalkKit
import Derived.BigCall
import Derived.BigGuard
namespace Go.Proofs
open Go.RowKit
def Px.isHex (c : UInt8) : Prop := (48 ≤ c.toNat ∧ c.toNat ≤ 57) ∨ (97 ≤ c.toNat ∧ c.toNat ≤ 102)
def Px.hv (c : UInt8) : Nat := if c.toNat ≤ 57 then c.toNat - 48 else c.toNat - 87
def Px.hval (l : List UInt8) : Nat := l.foldl (fun a c => a * 16 + Px.hv c) 0
theorem Px.hv_lt {c : UInt8} (h : Px.isHex c) : Px.hv c < 16 := by
  unfold Px.hv; unfold Px.isHex at h; split <;> omega
theorem Px.hval_snoc (l : List UInt8) (c : UInt8) : Px.hval (l ++ [c]) = Px.hval l * 16 + Px.hv c := by simp [Px.hval, List.foldl_append]
theorem Px.fold_lt : ∀ (l : List UInt8) (a n : Nat), (∀ c ∈ l, Px.isHex c) → a < 16 ^ n → l.foldl (fun a c => a * 16 + Px.hv c) a < 16 ^ (n + l.length)
  | [], a, n, _, h => h
  | c :: l, a, n, hx, h => by
    have h2 := Px.hv_lt (hx c (by simp))
    have := Px.fold_lt l (a * 16 + Px.hv c) (n + 1) (fun x hx' => hx x (List.mem_cons_of_mem _ hx')) (by rw [Nat.pow_succ]; omega)
    rw [List.length_cons, show n + (l.length + 1) = n + 1 + l.length by omega]
    exact this
theorem Px.hval_lt (l : List UInt8) (h : ∀ c ∈ l, Px.isHex c) : Px.hval l < 16 ^ l.length := by
  have := Px.fold_lt l 0 0 h (by decide)
  rwa [Nat.zero_add] at this
theorem Px.or32 {c : UInt8} (h : 97 ≤ c.toNat ∧ c.toNat ≤ 102) : bits BinOp.or IntKind.u8 (c.toNat : Int) 32 = (c.toNat : Int) := by
  have go : ∀ n : Nat, 97 ≤ n → n ≤ 102 → bits BinOp.or IntKind.u8 (n : Int) 32 = (n : Int) := by
    intro n h1 h2
    have hn : n = 97 ∨ n = 98 ∨ n = 99 ∨ n = 100 ∨ n = 101 ∨ n = 102 := by omega
    rcases hn with rfl | rfl | rfl | rfl | rfl | rfl <;> decide +kernel
  exact go _ h.1 h.2
instance : DecidablePred Px.isHex := fun c => inferInstanceAs (Decidable ((48 ≤ c.toNat ∧ c.toNat ≤ 57) ∨ (97 ≤ c.toNat ∧ c.toNat ≤ 102)))
theorem Px.index_one (c : UInt8) : ∀ l : List UInt8, Lib.index l [c] = Lib.indexByte l c
  | [] => rfl
  | b :: l => by
    unfold Lib.index Lib.indexByte
    rw [Px.index_one c l]
    have : List.isPrefixOf [c] (b :: l) = (b == c) := by
      by_cases h : b = c
      · subst h; simp [List.isPrefixOf]
      · have h2 : (b == c) = false := by simpa using h
        rw [h2]
        simp [List.isPrefixOf, Ne.symm h]
    rw [this]
/-- A decimal numeral that fits. -/
def Px.pIntL (l : List UInt8) : Option Int := match l with
  | [] => none
  | c :: r => if (c :: r).length ≤ 1000000 then (if c = 43 then none else if c = 45 then (if r = [] then none else match Lib.parseUint10 0 r with
      | .ok u => if u < 9223372036854775808 then some (-(u : Int)) else none
      | _ => none) else match Lib.parseUint10 0 (c :: r) with
      | .ok u => if u < 9223372036854775808 then some (u : Int) else none
      | _ => none) else none
theorem Px.pIntL_some {c : UInt8} {r : List UInt8} {n : Int} (h : Px.pIntL (c :: r) = some n) :
    (c ≠ 43 ∧ c ≠ 45 ∧ ∃ u, Lib.parseUint10 0 (c :: r) = .ok u ∧ u < 9223372036854775808 ∧ (c :: r).length ≤ 1000000 ∧ n = (u : Int)) ∨ (c = 45 ∧ ∃ u, Lib.parseUint10 0 r = .ok u ∧ u < 9223372036854775808 ∧ r.length ≤ 1000000 ∧ 0 < r.length ∧ n = -(u : Int)) := by
  simp only [Px.pIntL] at h
  split at h
  · rename_i hl
    split at h
    · cases h
    · rename_i h1
      split at h
      · rename_i h2
        split at h
        · cases h
        · rename_i h3
          split at h
          · rename_i u hu
            split at h
            · rename_i h4
              cases h
              exact .inr ⟨h2, u, hu, h4, by simp only [List.length_cons] at hl; omega, List.length_pos_iff.2 h3, rfl⟩
            · cases h
          · cases h
      · rename_i h2
        split at h
        · rename_i u hu
          split at h
          · rename_i h4
            cases h
            exact .inl ⟨h1, h2, u, hu, h4, hl, rfl⟩
          · cases h
        · cases h
  · cases h
theorem Px.emp {t : ByteArray} (h : 0 < t.size) : t.toList.isEmpty = false := by
  rw [← decide_eq_emptyBytes]
  exact decide_eq_false (fun e => by rw [e] at h; exact absurd h (by decide))
/-- A digit, of whatever case. -/
def Px.dv (c : UInt8) : Option Nat := if 48 ≤ c.toNat ∧ c.toNat ≤ 57 then some (c.toNat - 48) else if 97 ≤ bits BinOp.or IntKind.u8 (c.toNat : Int) 32 ∧ bits BinOp.or IntKind.u8 (c.toNat : Int) 32 ≤ 122 then some ((bits BinOp.or IntKind.u8 (c.toNat : Int) 32).toNat - 87) else none
/-- What ParseUint at base 16 and 32 bits makes of bytes. -/
def Px.p16M (acc : Nat) : List UInt8 → Lib.NumEnd Nat
  | [] => .ok acc
  | c :: r => match Px.dv c with
    | none => .syntax
    | some d => if 16 ≤ d then .syntax else if 4294967295 < acc * 16 + d then .range else Px.p16M (acc * 16 + d) r
theorem Px.dv_hex {c : UInt8} (h : Px.isHex c) : Px.dv c = some (Px.hv c) := by
  unfold Px.dv Px.hv
  unfold Px.isHex at h
  by_cases h1 : c.toNat ≤ 57
  · rw [if_pos (by omega), if_pos h1]
  · rw [if_neg (by omega), if_neg h1, Px.or32 (by omega), if_pos (by omega), Int.toNat_natCast]
theorem Px.p16M_hex : ∀ (l : List UInt8) (a n : Nat), (∀ c ∈ l, Px.isHex c) → a < 16 ^ n → n + l.length ≤ 8 → Px.p16M a l = .ok (l.foldl (fun a c => a * 16 + Px.hv c) a)
  | [], _, _, _, _, _ => rfl
  | c :: l, a, n, hx, h, hn => by
    have h2 := Px.hv_lt (hx c (by simp))
    have hl : n + 1 ≤ 8 := by simp only [List.length_cons] at hn; omega
    have h3 : a * 16 + Px.hv c < 16 ^ (n + 1) := by rw [Nat.pow_succ]; omega
    have h4 : (16 : Nat) ^ (n + 1) ≤ 16 ^ 8 := Nat.pow_le_pow_right (by omega) hl
    rw [Px.p16M, Px.dv_hex (hx c (by simp))]
    simp only
    rw [if_neg (by omega), if_neg (by omega)]
    exact Px.p16M_hex l _ (n + 1) (fun x hx' => hx x (List.mem_cons_of_mem _ hx')) h3 (by simp only [List.length_cons] at hn; omega)
def Px.p16E (l : List UInt8) : Lib.NumEnd Nat := if l = [] then .syntax else Px.p16M 0 l
/-- The number, and whether there is an error beside it. -/
def Px.p16G (l : List UInt8) : Int × Bool := match Px.p16E l with
  | .ok n => ((n : Int), false)
  | .syntax => (0, true)
  | .range => (4294967295, true)
theorem Px.cell_below {w w' : World} {b o : Nat} {v : Value} (h : Below w.heap.size w w') (hc : w.cell? ⟨b, o, none⟩ = some v) : w'.cell? ⟨b, o, none⟩ = some v := by
  have hb : b < w.heap.size := by
    by_cases hb : b < w.heap.size
    · exact hb
    · simp [World.cell?, Array.getElem?_eq_none (Nat.le_of_not_lt hb)] at hc
  have e := h.block b hb
  simp only [World.cell?] at hc ⊢
  rw [e]; exact hc
end Go.Proofs
