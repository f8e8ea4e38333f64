/- The law of LayString, in plain Lean: a string laid on a floor. -/
import Derived.Test.YtibekmjdkfakgaaFwT3Law
namespace Go.Fw
open Go

theorem In_eq (K : Nat) (a b c : Int) : spec_l00In K a b c = some (decide (b ≤ a) && decide (a ≤ c)) := by
  unfold spec_l00In
  rw [ite2_dec]
  by_cases h : b ≤ a
  · rw [if_pos (by omega)]; simp [h]
  · rw [if_neg (by omega)]; simp [h]
/-- A string that is right. -/
def validS (a : String) : Bool := (decide ((2 : Int) ≤ (a.Points.length : Int)) && decide ((a.Points.length : Int) ≤ 16)) && (((a.Before.length : Int) == (a.Points.length : Int)) && (((a.Fixed.length : Int) == (a.Points.length : Int)) && (((a.Lengths.length : Int) == (IntKind.i64.wrap ((a.Points.length : Int) - (1 : Int)))) && (decide ((0 : Int) ≤ a.Passes) && decide (a.Passes ≤ 16)))))
theorem ite2_and (x y : Bool) : ite2 x (some y) (some false) = some (x && y) := by cases x <;> rfl
theorem l08Is_eq (K : Nat) (a : String) : spec_l08Is K a = some (validS a) := by
  unfold spec_l08Is spec_l04Points validS
  simp only [In_eq, bind_of, ite2_and]
theorem Valid_eq (K : Nat) (a : String) : impl_ValidString K a = some (validS a) := by
  unfold impl_ValidString impl_arePoints validS
  simp only [bind_of, ite2_and, ge_iff_le]

def liftV (f : F32) (v : Vector) : Vector := if v.Y.lt' f then Vector.mk v.X f v.Z else v
theorem map_take_succ {α β : Type} [Inhabited α] (g : α → β) {xs : List α} {i : Nat} (h : i < xs.length) : (xs.take (i + 1)).map g = (xs.take i).map g ++ [g (xs.getD i default)] := by
  rw [take_succ_getD h, List.map_append]; rfl
theorem specLift_eq {K : Nat} (f : F32) (a : List Vector) (h : a.length ≤ 16) (hK : 16 < K) : spec_LiftPoints K a f = some (a.map (liftV f), true) := by
  unfold spec_LiftPoints
  rw [ite2_dec, if_neg (by omega)]
  have := fold_loop (σ := List Vector) a.length (fun i => (a.take i).map (liftV f)) (a.map (liftV f), true) (spec_LiftPoints_l1 K a f)
    (fun k i h1 h2 => by
      have : i = a.length := by omega
      subst this
      rw [spec_LiftPoints_l1, ite2_dec, if_neg (by omega), List.take_length])
    (fun k i hi => by
      have hc : (i : Int) < (a.length : Int) := by omega
      have hlen : ∀ x : Vector, (((a.take i).map (liftV f)).length + [x].length) * 12 ≤ 140737488355328 := fun x => by simp; omega
      rw [spec_LiftPoints_l1, map_take_succ _ hi]
      simp (disch := omega) only [ite2_dec, if_pos hc, chk_pos, Int.toNat_natCast, wrap_nat1]
      simp only [chk_pos (hlen _)]
      unfold liftV
      cases (a.getD i default).Y.lt' f <;> rfl) K 0 (by omega) (by omega)
  simpa using this
theorem implLift_eq {K : Nat} (f : F32) (a : List Vector) (h : a.length ≤ 16) (hK : 16 < K) : impl_LiftPoints K a f = some (a.map (liftV f), true) := by
  unfold impl_LiftPoints slices_Clone_impl_Vector_impl_Vector
  rw [ite2_dec, if_neg (by omega), chk_pos (by simp; omega), bind_of, List.nil_append]
  have := fold_loop (σ := List Vector) a.length (fun i => (a.take i).map (liftV f) ++ a.drop i) (a.map (liftV f), true) (impl_LiftPoints_l1 K f a)
    (fun k i h1 h2 => by
      have : i = a.length := by omega
      subst this
      rw [impl_LiftPoints_l1, ite2_dec, if_neg (by omega), List.take_length, List.drop_length, List.append_nil])
    (fun k i hi => by
      have hc : (i : Int) < (a.length : Int) := by omega
      have hl1 : ((a.take i).map (liftV f)).length = i := by simp; omega
      have hl : ((a.take i).map (liftV f) ++ a.drop i).length = a.length := by rw [List.length_append, hl1, List.length_drop]; omega
      have hg : ((a.take i).map (liftV f) ++ a.drop i).getD i default = a.getD i default := by
        rw [List.getD_eq_getElem?_getD, List.getElem?_append_right (by omega), hl1, Nat.sub_self, List.getElem?_drop, Nat.add_zero, ← List.getD_eq_getElem?_getD]
      have hset : ∀ v, ((a.take i).map (liftV f) ++ a.drop i).set i v = (a.take i).map (liftV f) ++ v :: a.drop (i + 1) := by
        intro v
        rw [List.set_append_right _ _ (by omega), hl1, Nat.sub_self, List.drop_eq_getElem_cons hi, List.set_cons_zero]
      have hd : a.drop i = a.getD i default :: a.drop (i + 1) := by rw [getD_of_lt hi, List.drop_eq_getElem_cons hi]
      rw [impl_LiftPoints_l1, map_take_succ _ hi]
      simp (disch := omega) only [ite2_dec, if_pos hc, chk_pos, Int.toNat_natCast, wrap_nat1, hg, hset, bind_of]
      unfold liftV
      cases (a.getD i default).Y.lt' f
      · simp only [ite2_false, List.append_assoc, List.cons_append, List.nil_append, Bool.false_eq_true, if_false]
        rw [hd]
      · simp only [ite2_true, List.append_assoc, List.cons_append, List.nil_append, if_true]) K 0 (by omega) (by omega)
  simpa using this

theorem lay_eq {K : Nat} (hK : 1048577 < K) (a : String) (f : F32) (hs : mx_String a ≤ 1048576) : ∃ s ok, spec_LayString K a f = some (s, ok) ∧ impl_LayString K a f = some (s, ok) ∧ mx_String s ≤ 1048576 := by
  unfold spec_LayString impl_LayString
  rw [l08Is_eq, Valid_eq, bind_of, bind_of]
  cases hv : validS a
  · exact ⟨_, _, rfl, rfl, by simp [mx_String]⟩
  · simp only [mx_String] at hs
    have hp : a.Points.length ≤ 16 := by
      unfold validS at hv
      simp only [Bool.and_eq_true, decide_eq_true_eq] at hv
      omega
    have e1 : spec_l08Own K a = some a := by
      unfold spec_l08Own
      rw [chk_pos (by simp; omega), chk_pos (by simp; omega), chk_pos (by simp; omega), chk_pos (by simp; omega)]
      rfl
    have e2 : impl_String_copied K a = some a := by
      unfold impl_String_copied slices_Clone_impl_Vector_impl_Vector slices_Clone_bool_bool slices_Clone_float32_float32
      rw [chk_pos (by simp; omega), chk_pos (by simp; omega), chk_pos (by simp; omega), chk_pos (by simp; omega)]
      rfl
    simp only [Bool.not_true, ite2_false, e1, e2, bind_of, specLift_eq (K := K) f a.Points hp (by omega), implLift_eq (K := K) f a.Points hp (by omega)]
    exact ⟨_, _, rfl, rfl, by simp only [mx_String, List.length_map]; omega⟩

theorem law_LayString (a : String) (f : F32) (hm : mx_String a ≤ maxLen) : ∃ K, laws_FnExactLayString K a f = some true := by
  refine ⟨mx_String a + 1048578, ?_⟩
  generalize hKe : mx_String a + 1048578 = K
  unfold laws_FnExactLayString
  obtain ⟨r, er, r1, r2, r3⟩ := sz_String K a 1048576 (by omega) (by omega) hm (by omega)
  rw [er, bind_of, ite2_dec]
  split
  · rfl
  · have hs : mx_String a ≤ 1048576 := by have := r3 (by omega); omega
    obtain ⟨s, ok, s1, s2, s3⟩ := lay_eq (K := K) (by omega) a f hs
    obtain ⟨m, y0, y1, y2, y3, k1, k2, k3, k4, k5, k6, k7, k8⟩ := mark_String (K := K) (a := a) (k0 := 1) (by omega) hs (by omega) (by omega)
    obtain ⟨n, z0, z1, z2, z3, l1, l2, l3, l4, l5, l6, l7, l8⟩ := mark_String (K := K) (a := s) (k0 := 1) (by omega) s3 (by omega) (by omega)
    have n1 : decide (m < 0) = false := decide_eq_false (by omega)
    have n2 : decide (n < 0) = false := decide_eq_false (by omega)
    simp only [to_String (K := K) (a := a) (by omega) hs, bind_of, s1, s2, eq_String (K := K) (a := a) (by omega) hs, eq_String (K := K) (a := s) (by omega) s3, Bool.not_true, ite2_false, beq_self_eq_true, bne_self_eq_false, k1, chk_pos k4, chk_pos k5, chk_pos k6, chk_pos k7, n1, l1, chk_pos l4, chk_pos l5, chk_pos l6, chk_pos l7, l8, n2]

end Go.Fw
