/- Numerals at base 16. -/
import Derived.Lib.Walk
import Derived.Lib.ItoaMem
import Derived.WalkKit
import Derived.Laws.Bits64b
import Derived.BigCall
import Derived.BigGuard
import Derived.Deep.LoopGhost
import Derived.Shelf.Abstract
import Derived.Lib.ItoaWalk
namespace Go.Proofs
open Go.RowKit Go.Sort Go.Lib
def Hx.digits : ByteArray := ⟨#[48, 49, 50, 51, 52, 53, 54, 55, 56, 57, 97, 98, 99, 100, 101, 102, 103, 104, 105, 106, 107, 108, 109, 110, 111, 112, 113, 114, 115, 116, 117, 118, 119, 120, 121, 122]⟩
def Hx.dig (n : Nat) : UInt8 := Hx.digits.data.getD n 0
def Hx.hex (fuel u : Nat) : List UInt8 := match fuel with
  | 0 => []
  | f + 1 => if u < 16 then [Hx.dig u] else Hx.hex f (u / 16) ++ [Hx.dig (u % 16)]
theorem Hx.hex_more : ∀ (f g u : Nat), u < 16 ^ (f + 1) → f ≤ g → Hx.hex (g + 1) u = Hx.hex (f + 1) u := by
  intro f
  induction f with
  | zero =>
    intro g u h _
    have hu : u < 16 := by simpa using h
    unfold Hx.hex
    rw [if_pos hu, if_pos hu]
  | succ f ih =>
    intro g u h hg
    obtain ⟨g, rfl⟩ : ∃ k, g = k + 1 := ⟨g - 1, by omega⟩
    unfold Hx.hex
    by_cases hu : u < 16
    · rw [if_pos hu, if_pos hu]
    · rw [if_neg hu, if_neg hu, ih g (u / 16) (by rw [Nat.pow_succ] at h; omega) (by omega)]
/-- What is left is v, the digits from the place i on are laid. -/
structure Hx.Inv (u v i : Nat) (d : Array UInt8) : Prop where
  size : d.size = 65
  lo : 49 < i
  hi : i ≤ 65
  vlt : v < 16 ^ (i - 49)
  is : Hx.hex 16 u = Hx.hex 16 v ++ d.toList.drop i
theorem Hx.Inv.start (u : Nat) (hu : u < 18446744073709551616) : Hx.Inv u u 65 (Array.replicate 65 0) :=
  ⟨by simp, by omega, by omega, by simpa using hu, by simp⟩
theorem Hx.drop_set (d : Array UInt8) (i : Nat) (x : UInt8) (h : i < d.size) : (d.setIfInBounds i x).toList.drop i = x :: d.toList.drop (i + 1) := by
  rw [Array.toList_setIfInBounds]
  rw [List.drop_eq_getElem_cons (by simpa using h)]
  simp [List.drop_set]
theorem Hx.Inv.step {u v i : Nat} {d : Array UInt8} (h : Hx.Inv u v i d) (hv : 16 ≤ v) : 50 < i ∧ Hx.Inv u (v / 16) (i - 1) (d.setIfInBounds (i - 1) (Hx.dig (v % 16))) := by
  have h1 := h.lo; have h2 := h.hi; have h3 := h.vlt
  have hi : 50 < i := by
    by_cases e : i = 50
    · subst e; simp at h3; omega
    · omega
  have h4 : 16 ^ (i - 49) = 16 ^ (i - 1 - 49) * 16 := by rw [← Nat.pow_succ]; congr 1; omega
  have h5 : v / 16 < 16 ^ (i - 1 - 49) := by rw [h4] at h3; omega
  refine ⟨hi, by simpa using h.size, by omega, by omega, h5, ?_⟩
  have h6 : 16 ^ (i - 1 - 49) ≤ 16 ^ 15 := Nat.pow_le_pow_right (by omega) (by omega)
  rw [Hx.drop_set _ _ _ (by have := h.size; omega), show i - 1 + 1 = i by omega, h.is]
  have e : Hx.hex 16 v = Hx.hex 15 (v / 16) ++ [Hx.dig (v % 16)] := by
    rw [Hx.hex, if_neg (by omega)]
  rw [e, ← Hx.hex_more 14 15 (v / 16) (by omega) (by omega)]
  simp
theorem Hx.Inv.last {u v i : Nat} {d : Array UInt8} (h : Hx.Inv u v i d) (hv : v < 16) : (d.setIfInBounds (i - 1) (Hx.dig v)).toList.drop (i - 1) = Hx.hex 16 u := by
  have h1 := h.lo; have h2 := h.hi
  rw [Hx.drop_set _ _ _ (by have := h.size; omega), show i - 1 + 1 = i by omega, h.is]
  rw [Hx.hex, if_pos hv]; rfl
theorem Hx.lt {w : World} {b o : Nat} {v : Value} (h : w.cell? ⟨b, o, none⟩ = some v) : b < w.heap.size := by
  by_cases hb : b < w.heap.size
  · exact hb
  · simp [World.cell?, Array.getElem?_eq_none (Nat.le_of_not_lt hb)] at h
abbrev Hx.enc := fun (b : UInt8) => Value.int .u8 (b.toNat : Int)
theorem Hx.below (w : World) (o : Obj) (dk : Array UInt8) : Below w.heap.size w (putRow Hx.enc (w.alloc o) w.heap.size 0 dk) := by
  refine ⟨rfl, rfl, rfl, ?_, fun k hk => ?_⟩
  · rw [size_putRow]
    exact ((Below.refl w.heap.size w).alloc (Nat.le_refl _) o).size
  · have hne : ¬ w.heap.size = k := by omega
    have h1 : (putRow Hx.enc (w.alloc o) w.heap.size 0 dk).heap[k]? = (w.alloc o).heap[k]? := by
      simp [putRow, mapBlock, Array.getElem?_modify, hne]
    rw [h1]
    exact ((Below.refl w.heap.size w).alloc (Nat.le_refl _) o).block k hk
theorem Hx.dig_at (n : Nat) (h : n < Hx.digits.size) : Hx.digits[n] = Hx.dig n := by
  show Hx.digits.data[n] = _
  unfold Hx.dig
  have h : n < Hx.digits.data.size := h
  simp only [Array.getD, h, dite_true]
  rfl
theorem Hx.and15 (v : Nat) (h : v < 18446744073709551616) : bits BinOp.and IntKind.u64 (v : Int) 15 = ((v % 16 : Nat) : Int) := by
  have e := bits_and_u64_nat v 15 h (by omega)
  rw [show v &&& 15 = v % 16 from Nat.and_two_pow_sub_one_eq_mod v 4] at e
  exact e
end Go.Proofs
