
import Derived.Test.YtblpjlaihgcilafFwPu
import Derived.Laws.Strings
namespace Go.Fw
open Go
def Sz (r : Option Int) (s : Int) (n : Nat) : Prop := ∃ q, r = some q ∧ -1 ≤ q ∧ q ≤ s ∧ (0 ≤ q → (n : Int) ≤ s)
theorem Sz.last {r : Option Int} {s : Int} {n : Nat} (h : Sz r s n) : Sz (r.bind fun v => ite2 (decide (v < (0 : Int))) (some ((-1) : Int)) (some v)) s n := by
  obtain ⟨q, rfl, h1, h2, h3⟩ := h
  rw [bind_of, ite2_dec]
  split
  · exact ⟨-1, rfl, by omega, by omega, by omega⟩
  · exact ⟨q, rfl, h1, h2, h3⟩
theorem Sz.then {r : Option Int} {s : Int} {n m : Nat} {f : Int → Option Int} (h : Sz r s n) (hs : s ≤ 1048576) (hf : ∀ v, 0 ≤ v → v ≤ s → v ≤ 1048576 → Sz (f v) v m) : Sz (r.bind fun v => ite2 (decide (v < (0 : Int))) (some ((-1) : Int)) (f v)) s (max n m) := by
  obtain ⟨q, rfl, h1, h2, h3⟩ := h
  rw [bind_of, ite2_dec]
  split
  · exact ⟨-1, rfl, by omega, by omega, by omega⟩
  · obtain ⟨p, e, g1, g2, g3⟩ := hf q (by omega) h2 (by omega)
    exact ⟨p, e, g1, by omega, fun hp => by have := g3 hp; have := h3 (by omega); omega⟩
end Go.Fw
