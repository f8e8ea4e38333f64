/- The angle of a point: what the program computes. -/
import Derived.Test.YtblpjlaihgcilaaFwGN
import Derived.Test.YtblpjlaihgcilaaFwLW
import Derived.Test.YtblpjlaihgcilaaFwFA
namespace Go.Fw
open Go Go.Proofs
noncomputable section

theorem num_i4 (K : Nat) (a0 a1 v1 v3 x : F64) : ∀ (k : Nat) (y : F64) (i : Int), impl_wideAngle_l4 K a0 a1 v1 v3 x k y i = impl_wideAngle_l2 K a0 a1 v1 v3 x k y i := by
  intro k
  induction k with
  | zero => intro y i; rfl
  | succ k ih => intro y i; rw [impl_wideAngle_l4, impl_wideAngle_l2, ih]
theorem num_i3 (K : Nat) (a0 a1 v1 v3 : F64) : ∀ (k : Nat) (x : F64) (i : Int), impl_wideAngle_l3 K a0 a1 v1 v3 k x i = impl_wideAngle_l1 K a0 a1 v1 v3 k x i := by
  intro k
  induction k with
  | zero => intro x i; rfl
  | succ k ih =>
    intro x i
    rw [impl_wideAngle_l3, impl_wideAngle_l1, num_i4]
    simp only [ih]
theorem num_l2 (K : Nat) (a0 a1 v1 v3 x : F64) : ∀ (m j k : Nat), j + m = 8 → m < k → impl_wideAngle_l2 K a0 a1 v1 v3 x k (serN x j) (15 - 2 * (j : Int)) = impl_wideAngle_l2 K a0 a1 v1 v3 x 1 (serN x 8) (-1) := by
  intro m
  induction m with
  | zero =>
    intro j k hj hk
    obtain ⟨k, rfl⟩ : ∃ q, k = q + 1 := ⟨k - 1, by omega⟩
    have : j = 8 := by omega
    subst this
    rw [impl_wideAngle_l2, impl_wideAngle_l2, ite2_dec, ite2_dec, if_neg (by omega), if_neg (by omega)]
  | succ m ih =>
    intro j k hj hk
    obtain ⟨k, rfl⟩ : ∃ q, k = q + 1 := ⟨k - 1, by omega⟩
    rw [impl_wideAngle_l2, ite2_dec, if_pos (by omega)]
    have hw : IntKind.i64.wrap (15 - 2 * (j : Int) - 2) = 15 - 2 * ((j + 1 : Nat) : Int) := by rw [wrap_in (by omega) (by omega)]; omega
    rw [hw]
    exact ih (j + 1) k (by omega) (by omega)
theorem num_l1 (K : Nat) (hK : 16 < K) (a0 a1 v1 v3 x : F64) : impl_wideAngle_l1 K a0 a1 v1 v3 K x 0 = impl_wideAngle_l2 K a0 a1 v1 v3 (halfF (halfF (halfF x))) 1 (serN (halfF (halfF (halfF x))) 8) (-1) := by
  obtain ⟨k, rfl⟩ : ∃ q, K = q + 4 := ⟨K - 4, by omega⟩
  have w1 : IntKind.i64.wrap (0 + 1) = 1 := by decide
  have w2 : IntKind.i64.wrap (1 + 1) = 2 := by decide
  have w3 : IntKind.i64.wrap (2 + 1) = 3 := by decide
  rw [impl_wideAngle_l1, ite2_dec, if_pos (by omega), w1]
  unfold math_Sqrt math_sqrt
  rw [bind_of, bind_of, impl_wideAngle_l1, ite2_dec, if_pos (by omega), w2]
  unfold math_Sqrt math_sqrt
  rw [bind_of, bind_of, impl_wideAngle_l1, ite2_dec, if_pos (by omega), w3]
  unfold math_Sqrt math_sqrt
  rw [bind_of, bind_of, impl_wideAngle_l1, ite2_dec, if_neg (by omega)]
  exact num_l2 (k + 4) a0 a1 v1 v3 _ 8 0 (k + 4) (by omega) (by omega)
theorem wideAngle_eq {K : Nat} (hK : 16 < K) (y x : F64) : impl_wideAngle K y x = some (angF y x) := by
  unfold impl_wideAngle math_Abs
  rw [bind_of, bind_of, num_i3]
  unfold angF
  cases h : y.abs.gt x.abs <;> simp only [ite2_true, ite2_false, Bool.false_eq_true, if_false, if_true] <;> rw [num_l1 K hK, impl_wideAngle_l2, ite2_dec, if_neg (by omega), h] <;> simp only [ite2_true, ite2_false]
  · cases h1 : x.lt' o0 <;> cases h2 : y.lt' o0 <;> (have h1' := h1; have h2' := h2; unfold o0 at h1' h2'; rw [h1', h2']) <;> rfl
  · cases h1 : x.lt' o0 <;> cases h2 : y.lt' o0 <;> (have h1' := h1; have h2' := h2; unfold o0 at h1' h2'; rw [h1', h2']) <;> rfl

end
end Go.Fw
