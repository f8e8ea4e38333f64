
import Derived.Test.YtcgakaboochpaadGreatFwPu
import Derived.Laws.Strings
namespace Go.Fw
open Go
theorem zwk {i : Nat} (h : i ≤ 1048576) : IntKind.i64.wrap ((i : Int) + 1) = ((i + 1 : Nat) : Int) := by rw [zxj (by omega) (by omega)]; omega
theorem zy1 {α : Type} [Inhabited α] {xs : List α} {i : Nat} (h : i < xs.length) : xs.take (i + 1) = xs.take i ++ [xs.getD i default] := by
 rw [zxu h, List.take_add_one, List.getElem?_eq_getElem h]; rfl
def Sz (r : Option Int) (s : Int) (n : Nat) : Prop := ∃ q, r = some q ∧ -1 ≤ q ∧ q ≤ s ∧ (0 ≤ q → (n : Int) ≤ s)
theorem Sz.last {r : Option Int} {s : Int} {n : Nat} (h : Sz r s n) : Sz (r.bind fun v => ite2 (decide (v < (0 : Int))) (some ((-1) : Int)) (some v)) s n := by
 obtain ⟨q, rfl, h1, h2, h3⟩ := h
 rw [zqf, zqv]
 split
 ·exact ⟨-1, rfl, by omega, by omega, by omega⟩
 ·exact ⟨q, rfl, h1, h2, h3⟩
theorem Sz.then {r : Option Int} {s : Int} {n m : Nat} {f : Int → Option Int} (h : Sz r s n) (hs : s ≤ 1048576) (hf : ∀ v, 0 ≤ v → v ≤ s → v ≤ 1048576 → Sz (f v) v m) : Sz (r.bind fun v => ite2 (decide (v < (0 : Int))) (some ((-1) : Int)) (f v)) s (max n m) := by
 obtain ⟨q, rfl, h1, h2, h3⟩ := h
 rw [zqf, zqv]
 split
 ·exact ⟨-1, rfl, by omega, by omega, by omega⟩
 ·obtain ⟨p, e, g1, g2, g3⟩ := hf q (by omega) h2 (by omega)
  exact ⟨p, e, g1, by omega, fun hp => by have := g3 hp; have := h3 (by omega); omega⟩
theorem word_mod (f : Ieee.Format) (neg : Bool) {r : Nat} (h : r < f.signWeight) : f.word neg r % f.signWeight = r := by
 unfold Ieee.Format.word
 split
 ·rw [Nat.add_mod_left, Nat.mod_eq_of_lt h]
 ·exact Nat.mod_eq_of_lt h
theorem read_word_num (f : Ieee.Format) (neg : Bool) {r : Nat} (h : r ≤ f.infRung) : (f.read (f.word neg r)).isNaN = false := by
 unfold Ieee.Format.read
 simp only [word_mod f neg (Nat.lt_of_le_of_lt h f.infRung_lt)]
 split
 ·rfl
 ·split
  ·rfl
  ·split
   ·rfl
   ·omega
theorem order_self {d : Ieee.Datum} (h : d.isNaN = false) : d.order d = some .eq := by
 cases d with
 | number s m i => simp [Ieee.Datum.order]
 | infinity s => simp [Ieee.Datum.order]
 | nan s t => cases h
end Go.Fw
