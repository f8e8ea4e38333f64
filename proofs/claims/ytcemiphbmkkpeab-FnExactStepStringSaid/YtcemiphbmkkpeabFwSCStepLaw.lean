/- The law of StepString, in plain Lean: both programs move a string alike. -/
import Derived.Test.YtcemiphbmkkpeabFwSCLaw
import Derived.Test.YtcemiphbmkkpeabFwFC
namespace Go.Fw
open Go

theorem In_eq (K : Nat) (a b c : Int) : spec_l00In K a b c = some (decide (b ≤ a) && decide (a ≤ c)) := by
  unfold spec_l00In
  rw [ite2_dec]
  by_cases h : b ≤ a
  · rw [if_pos (by omega)]; simp [h]
  · rw [if_neg (by omega)]; simp [h]
theorem ite2_and (x y : Bool) : ite2 x (some y) (some false) = some (x && y) := by cases x <;> rfl
/-- A string that is right. -/
def validS (a : String) : Bool := (decide ((2 : Int) ≤ (a.Points.length : Int)) && decide ((a.Points.length : Int) ≤ 16)) && (((a.Before.length : Int) == (a.Points.length : Int)) && (((a.Fixed.length : Int) == (a.Points.length : Int)) && (((a.Lengths.length : Int) == (IntKind.i64.wrap ((a.Points.length : Int) - (1 : Int)))) && (decide ((0 : Int) ≤ a.Passes) && decide (a.Passes ≤ 16)))))
theorem l08Is_eq (K : Nat) (a : String) : spec_l08Is K a = some (validS a) := by
  unfold spec_l08Is spec_l04Points validS
  simp only [In_eq, bind_of, ite2_and]
theorem Valid_eq (K : Nat) (a : String) : impl_ValidString K a = some (validS a) := by
  unfold impl_ValidString impl_arePoints validS
  simp only [bind_of, ite2_and, ge_iff_le]
/-- The lengths of a right string. -/
structure Rs (n : Nat) (a : String) : Prop where
  n2 : 2 ≤ n
  n16 : n ≤ 16
  pts : a.Points.length = n
  bef : a.Before.length = n
  fix : a.Fixed.length = n
  len : a.Lengths.length + 1 = n
  pas : 0 ≤ a.Passes ∧ a.Passes ≤ 16
theorem rs_of {a : String} (h : validS a = true) : Rs a.Points.length a := by
  unfold validS at h
  simp only [Bool.and_eq_true, decide_eq_true_eq, beq_iff_eq] at h
  obtain ⟨⟨h1, h2⟩, h3, h4, h5, h6, h7⟩ := h
  rw [wrap_in (by omega) (by omega)] at h5
  exact ⟨by omega, by omega, rfl, by omega, by omega, by omega, h6, h7⟩

theorem sqrt_impl (K : Nat) (x : F32) : impl_RootNumber K x = some (Fl.cv .f64 .f32 (Fl.cv .f32 .f64 x).sqrt) := by
  unfold impl_RootNumber math_Sqrt math_sqrt
  simp only [bind_of, chk_pos (narrow_root x)]
theorem sqrt_spec (K : Nat) (x : F32) : spec_l01Sqrt K x = some (Fl.cv .f64 .f32 (Fl.cv .f32 .f64 x).sqrt) := by
  unfold spec_l01Sqrt math_Sqrt math_sqrt spec_l01Narrow
  simp only [bind_of, chk_pos (narrow_root x)]
theorem ne_eq' {k : FloatKind} (x y : Fl k) : x.ne y = !x.eq y := rfl
theorem len_set {α : Type} (a : List α) (i : Nat) (v : α) : (a.set i v).length = a.length := List.length_set

theorem pass_both {K n : Nat} {s : String} (h : Rs n s) {i : Nat} (hi : i + 1 < n) : ∃ r, spec_l08Pass K s (i : Int) = some r ∧ impl_String_pull K s (i : Int) = some r ∧ r.length = n := by
  have w : IntKind.i64.wrap ((i : Int) + 1) = ((i + 1 : Nat) : Int) := wrap_nat1 (by have := h.n16; omega)
  have h1 := h.pts
  have h2 := h.fix
  have h3 := h.len
  unfold spec_l08Pass impl_String_pull spec_l01Less impl_LessVectors spec_l01Long impl_LongOf spec_l01Inner impl_InnerOf spec_l01Finite impl_isLength impl_IsFinite spec_l01Scale impl_ScaleVector spec_l01Add impl_AddVectors
  simp only [w, Int.toNat_natCast, bind_of, sqrt_spec, sqrt_impl, len_set, ne_eq']
  simp (disch := omega) only [chk_pos]
  generalize (Fl.cv .f64 .f32 _ : F32) = m
  cases m.eq (Fl.mk (k := .f32) 0 (by decide)) <;> cases (m.sub m).eq (Fl.mk (k := .f32) 0 (by decide)) <;> cases s.Fixed.getD i default <;> cases s.Fixed.getD (i + 1) default <;>
    simp only [ite2_true, ite2_false, bind_of, Bool.not_true, Bool.not_false] <;> refine ⟨_, rfl, rfl, ?_⟩ <;> first | exact h1 | (simp only [len_set]; exact h1)

theorem l5_both {K n : Nat} {s : String} (h : Rs n s) (bef : List Vector) (hb : bef.length = n) : ∀ (k i : Nat) (p : List Vector), i + 1 ≤ n → n - 1 - i < k → p.length = n →
    ∃ r, spec_l08Move_l5 K s bef k (i : Int) p = some r ∧ impl_String_move_l5 K s bef k (i : Int) p = some r ∧ r.length = n := by
  intro k
  induction k with
  | zero => intro i p _ h; omega
  | succ k ih =>
    intro i p hi hk hp
    have hn := h.n16
    have hl := h.len
    have w : IntKind.i64.wrap ((i : Int) + 1) = ((i + 1 : Nat) : Int) := wrap_nat1 (by omega)
    rw [spec_l08Move_l5, impl_String_move_l5, w, ite2_dec, ite2_dec]
    by_cases hlt : i + 1 < n
    · rw [if_pos (by omega), if_pos (by omega)]
      obtain ⟨r, r1, r2, r3⟩ := pass_both (K := K) (n := n) (s := String.mk p bef s.Fixed s.Lengths s.Fall s.Damp s.Passes) ⟨h.n2, h.n16, hp, hb, h.fix, h.len, h.pas⟩ hlt
      rw [r1, r2, bind_of, bind_of, chk_pos (by omega), chk_pos (by omega)]
      exact ih (i + 1) r (by omega) (by omega) r3
    · rw [if_neg (by omega), if_neg (by omega)]
      exact ⟨p, rfl, rfl, hp⟩
theorem l4_both {K n : Nat} {s : String} (hK : 20 < K) (h : Rs n s) (bef : List Vector) (hb : bef.length = n) : ∀ (k i : Nat) (p : List Vector), (i : Int) ≤ s.Passes → (s.Passes - i).toNat < k → p.length = n →
    ∃ r, spec_l08Move_l4 K s bef k (i : Int) p = some (String.mk r bef s.Fixed s.Lengths s.Fall s.Damp s.Passes) ∧ impl_String_move_l4 K s bef k (i : Int) p = some (r, bef) ∧ r.length = n := by
  intro k
  induction k with
  | zero => intro i p _ h; omega
  | succ k ih =>
    intro i p hi hk hp
    have hn := h.n16
    have hp16 := h.pas
    have hpt := h.pts
    have hbf := h.bef
    have w : IntKind.i64.wrap ((i : Int) + 1) = ((i + 1 : Nat) : Int) := wrap_nat1 (by omega)
    rw [spec_l08Move_l4, impl_String_move_l4, w, ite2_dec, ite2_dec]
    by_cases hlt : (i : Int) < s.Passes
    · rw [if_pos hlt, if_pos hlt]
      obtain ⟨r, r1, r2, r3⟩ := l5_both (K := K) h bef hb K 0 p (by have := h.n2; omega) (by omega) hp
      rw [show ((0 : Nat) : Int) = 0 from rfl] at r1 r2
      rw [r1, r2, bind_of, bind_of]
      exact ih (i + 1) r (by omega) (by omega) r3
    · rw [if_neg hlt, if_neg hlt, chk_pos (by omega), chk_pos (by omega)]
      exact ⟨p, rfl, rfl, hp⟩
theorem l1_both {K n : Nat} {s : String} (hK : 20 < K) (h : Rs n s) : ∀ (k i : Nat) (p b : List Vector), i ≤ n → n - i < k → p.length = n → b.length = n →
    ∃ p' b', spec_l08Move_l1 K s k (i : Int) p b = some (String.mk p' b' s.Fixed s.Lengths s.Fall s.Damp s.Passes) ∧ impl_String_move_l1 K s k (i : Int) p b = some (p', b') ∧ p'.length = n ∧ b'.length = n := by
  intro k
  induction k with
  | zero => intro i p b _ h; omega
  | succ k ih =>
    intro i p b hi hk hp hb
    have hn := h.n16
    have hp16 := h.pas
    have hpt := h.pts
    have hfx := h.fix
    have w : IntKind.i64.wrap ((i : Int) + 1) = ((i + 1 : Nat) : Int) := wrap_nat1 (by omega)
    rw [spec_l08Move_l1, impl_String_move_l1, w, ite2_dec, ite2_dec]
    by_cases hlt : i < n
    · rw [if_pos (by omega), if_pos (by omega)]
      unfold spec_l01Less impl_LessVectors spec_l01Scale impl_ScaleVector spec_l01Add impl_AddVectors
      simp only [Int.toNat_natCast, bind_of]
      simp (disch := omega) only [chk_pos]
      cases s.Fixed.getD i default
      · simp only [Bool.not_false, ite2_true]
        exact ih (i + 1) _ _ (by omega) (by omega) (by rw [len_set]; exact hp) (by rw [len_set]; exact hb)
      · simp only [Bool.not_true, ite2_false]
        exact ih (i + 1) _ _ (by omega) (by omega) hp (by rw [len_set]; exact hb)
    · rw [if_neg (by omega), if_neg (by omega)]
      obtain ⟨r, r1, r2, r3⟩ := l4_both (K := K) hK h b hb K 0 p (by omega) (by omega) hp
      exact ⟨r, b, r1, r2, r3, hb⟩
theorem own_eq {K n : Nat} {s : String} (h : Rs n s) : spec_l08Own K s = some s := by
  have h1 := h.n16; have h2 := h.pts; have h3 := h.bef; have h4 := h.fix; have h5 := h.len
  unfold spec_l08Own
  rw [chk_pos (by simp; omega), chk_pos (by simp; omega), chk_pos (by simp; omega), chk_pos (by simp; omega)]
  rfl
theorem copied_eq {K n : Nat} {s : String} (h : Rs n s) : impl_String_copied K s = some s := by
  have h1 := h.n16; have h2 := h.pts; have h3 := h.bef; have h4 := h.fix; have h5 := h.len
  unfold impl_String_copied slices_Clone_impl_Vector_impl_Vector slices_Clone_bool_bool slices_Clone_float32_float32
  rw [chk_pos (by simp; omega), chk_pos (by simp; omega), chk_pos (by simp; omega), chk_pos (by simp; omega)]
  rfl
theorem move_both {K n : Nat} {s : String} (hK : 20 < K) (h : Rs n s) : ∃ p b, spec_l08Move K s = some (String.mk p b s.Fixed s.Lengths s.Fall s.Damp s.Passes) ∧ impl_String_move K s = some (p, b) ∧ p.length = n ∧ b.length = n := by
  unfold spec_l08Move impl_String_move
  rw [own_eq h, bind_of]
  exact l1_both hK h K 0 s.Points s.Before (by omega) (by have := h.n16; omega) h.pts h.bef
theorem step_l1 {K n : Nat} {s : String} (hK : 20 < K) (h : Rs n s) : ∃ p b, spec_l08Move K s = some (String.mk p b s.Fixed s.Lengths s.Fall s.Damp s.Passes) ∧ impl_RunString_l1 K 1 s K 0 s.Points s.Before = some (String.mk p b s.Fixed s.Lengths s.Fall s.Damp s.Passes, true) ∧ p.length = n ∧ b.length = n := by
  obtain ⟨p, b, r1, r2, r3, r4⟩ := move_both (K := K) hK h
  refine ⟨p, b, r1, ?_, r3, r4⟩
  obtain ⟨k, rfl⟩ : ∃ k, K = k + 2 := ⟨K - 2, by omega⟩
  have w : IntKind.i64.wrap ((0 : Int) + 1) = 1 := by decide
  have h1 := h.pts
  have h2 := h.bef
  rw [impl_RunString_l1, w, ite2_dec, if_pos (by omega)]
  rw [r2, bind_of, chk_pos (show p.length = s.Points.length by omega), chk_pos (show b.length = s.Before.length by omega)]
  rw [impl_RunString_l1, ite2_dec, if_neg (by omega)]
theorem run_eq {K : Nat} (hK : 1048577 < K) (a : String) (hs : mx_String a ≤ 1048576) : ∃ s ok, spec_StepString K a = some (s, ok) ∧ impl_StepString K a = some (s, ok) ∧ mx_String s ≤ 1048576 := by
  unfold spec_StepString impl_StepString impl_RunString impl_isMoves
  rw [l08Is_eq, Valid_eq, bind_of, bind_of]
  have e1 : decide ((1 : Int) ≥ 0) = true := by decide
  have e2 : decide ((1 : Int) ≤ 1000) = true := by decide
  simp only [e1, e2, ite2_true, bind_of]
  cases hv : validS a
  · exact ⟨_, _, rfl, rfl, by simp [mx_String]⟩
  · have h := rs_of hv
    obtain ⟨p, b, r1, r2, r3, r4⟩ := step_l1 (K := K) (by omega) h
    simp only [Bool.not_true, ite2_false, bind_of, copied_eq h, r1, r2]
    refine ⟨_, _, rfl, rfl, ?_⟩
    have := h.n16; have := h.fix; have := h.len
    simp only [mx_String]
    omega

theorem law_StepString (a : String) (hm : mx_String a ≤ maxLen) : ∃ K, laws_FnExactStepString K a = some true := by
  refine ⟨mx_String a + 1048578, ?_⟩
  generalize hKe : mx_String a + 1048578 = K
  unfold laws_FnExactStepString
  obtain ⟨r, er, r1, r2, r3⟩ := sz_String K a 1048576 (by omega) (by omega) hm (by omega)
  rw [er, bind_of, ite2_dec]
  split
  · rfl
  · have hs : mx_String a ≤ 1048576 := by have := r3 (by omega); omega
    obtain ⟨s, ok, s1, s2, s3⟩ := run_eq (K := K) (by omega) a hs
    obtain ⟨m, y0, y1, y2, y3, k1, k2, k3, k4, k5, k6, k7, k8⟩ := mark_String (K := K) (a := a) (k0 := 1) (by omega) hs (by omega) (by omega)
    obtain ⟨n, z0, z1, z2, z3, l1, l2, l3, l4, l5, l6, l7, l8⟩ := mark_String (K := K) (a := s) (k0 := 1) (by omega) s3 (by omega) (by omega)
    have n1 : decide (m < 0) = false := decide_eq_false (by omega)
    have n2 : decide (n < 0) = false := decide_eq_false (by omega)
    simp only [to_String (K := K) (a := a) (by omega) hs, bind_of, s1, s2, eq_String (K := K) (a := a) (by omega) hs, eq_String (K := K) (a := s) (by omega) s3, Bool.not_true, ite2_false, beq_self_eq_true, bne_self_eq_false, k1, chk_pos k4, chk_pos k5, chk_pos k6, chk_pos k7, n1, l1, chk_pos l4, chk_pos l5, chk_pos l6, chk_pos l7, l8, n2]

end Go.Fw
