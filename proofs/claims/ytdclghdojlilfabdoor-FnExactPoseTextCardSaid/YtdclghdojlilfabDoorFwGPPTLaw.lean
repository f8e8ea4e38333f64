/- Texts of poses are made alike. -/
import Derived.Test.YtdclghdojlilfabDoorFwGPTxHex
import Derived.Test.YtdclghdojlilfabDoorFwGPLaw
namespace Go.Fw
open Go
noncomputable section

def four (t : Turn) : List F32 := [t.W, t.X, t.Y, t.Z]
def trs (l : List Turn) : List UInt8 := (l.map fun t => 59 :: nt (four t)).flatten
theorem trs_cons (t : Turn) (r : List Turn) : trs (t :: r) = (59 :: nt (four t)) ++ trs r := rfl
def pt (p : Pose) : List UInt8 := nt [p.Root.X, p.Root.Y, p.Root.Z] ++ trs p.Turns
theorem four_length (t : Turn) : (nt (four t)).length ≤ 40 := nt_length (four t)
theorem spec_pt {K : Nat} {p : Pose} (h : p.Turns.length ≤ 12) (hK : 100 < K) : spec_l11Text K p = some (ofL (pt p)) := by
  have key : ∀ (k i : Nat) (o : List UInt8), i ≤ p.Turns.length → p.Turns.length - i < k → o.length + 41 * (p.Turns.length - i) ≤ 100000000 → spec_l11Text_l1 K p k (ofL o) (i : Int) = some (ofL (o ++ trs (p.Turns.drop i))) := by
    intro k
    induction k with
    | zero => intro i o _ h; omega
    | succ k ih =>
      intro i o h1 h2 h3
      rw [spec_l11Text_l1, ite2_dec]
      by_cases hi : i < p.Turns.length
      · have hl := four_length p.Turns[i]
        have e1 : spec_l11Four K p.Turns[i] = some (four p.Turns[i]) := rfl
        have e2 : spec_l01NText K (four p.Turns[i]) = some (ofL (nt (four p.Turns[i]))) := spec_nt (by show 4 ≤ _; omega) (by show 4 + 21 < K; omega)
        have hs : (ByteArray.mk #[59] ++ ofL (nt (four p.Turns[i]))) = ofL (59 :: nt (four p.Turns[i])) := ofL_app [59] _
        rw [if_pos (by omega), chk_pos (by omega), Int.toNat_natCast, getD_of_lt hi, e1, bind_of, e2, bind_of, hs, ofL_app]
        rw [chk_pos (by show ((1 + (nt (four p.Turns[i])).length : Nat) : Int) ≤ _; omega), chk_pos (by rw [size_ofL, size_ofL, List.length_cons]; omega), wrap_nat1 (by omega)]
        rw [ih (i + 1) _ (by omega) (by omega) (by rw [List.length_append, List.length_cons]; omega), drop_cons hi, trs_cons, List.append_assoc]
      · rw [if_neg (by omega), List.drop_eq_nil_of_le (by omega)]
        show _ = some (ofL (o ++ []))
        rw [List.append_nil]
  have e3 : spec_l01NText K [p.Root.X, p.Root.Y, p.Root.Z] = some (ofL (nt [p.Root.X, p.Root.Y, p.Root.Z])) := spec_nt (by show 3 ≤ _; omega) (by show 3 + 21 < K; omega)
  have hl : (nt [p.Root.X, p.Root.Y, p.Root.Z]).length ≤ 31 := nt_length _
  unfold spec_l11Text spec_l01VText
  rw [e3, bind_of, bind_of]
  exact key K 0 _ (by omega) (by omega) (by omega)
theorem impl_pt {K : Nat} {p : Pose} (h1 : 1 ≤ p.Turns.length) (h : p.Turns.length ≤ 12) (hK : 100 < K) : impl_PoseText K p = some (ofL (pt p), true) := by
  have key : ∀ (k i : Nat) (o : List UInt8), i ≤ p.Turns.length → p.Turns.length - i < k → o.length + 41 * (p.Turns.length - i) ≤ 100000000 → impl_PoseText_l1 K p k (ofL o) (i : Int) = some (ofL (o ++ trs (p.Turns.drop i)), true) := by
    intro k
    induction k with
    | zero => intro i o _ h; omega
    | succ k ih =>
      intro i o h1 h2 h3
      rw [impl_PoseText_l1, ite2_dec]
      by_cases hi : i < p.Turns.length
      · have hl := four_length p.Turns[i]
        have e2 : impl_numbersText K [p.Turns[i].W, p.Turns[i].X, p.Turns[i].Y, p.Turns[i].Z] = some (ofL (nt (four p.Turns[i]))) := impl_nt (l := four p.Turns[i]) (by show 4 ≤ _; omega) (by show 4 < K; omega)
        have hs : (ByteArray.mk #[59] ++ ofL (nt (four p.Turns[i]))) = ofL (59 :: nt (four p.Turns[i])) := ofL_app [59] _
        rw [if_pos (by omega), chk_pos (by omega), Int.toNat_natCast, getD_of_lt hi, e2, bind_of, hs, ofL_app]
        rw [chk_pos (by show ((1 + (nt (four p.Turns[i])).length : Nat) : Int) ≤ _; omega), chk_pos (by rw [size_ofL, size_ofL, List.length_cons]; omega), wrap_nat1 (by omega)]
        rw [ih (i + 1) _ (by omega) (by omega) (by rw [List.length_append, List.length_cons]; omega), drop_cons hi, trs_cons, List.append_assoc]
      · rw [if_neg (by omega), List.drop_eq_nil_of_le (by omega)]
        show _ = some (ofL (o ++ []), true)
        rw [List.append_nil]
  have e3 : impl_numbersText K [p.Root.X, p.Root.Y, p.Root.Z] = some (ofL (nt [p.Root.X, p.Root.Y, p.Root.Z])) := impl_nt (by show 3 ≤ _; omega) (by show 3 < K; omega)
  have hl : (nt [p.Root.X, p.Root.Y, p.Root.Z]).length ≤ 31 := nt_length _
  unfold impl_PoseText impl_isPose impl_VectorText
  rw [ite2_dec, if_pos (by omega), bind_of, bind_of, decide_eq_true (show (p.Turns.length : Int) ≤ 12 by omega), Bool.not_true, ite2_false, e3, bind_of, bind_of]
  exact key K 0 _ (by omega) (by omega) (by omega)
theorem law_PoseText (a : Pose) (hm : mx_Pose a ≤ maxLen) : ∃ K, laws_FnExactPoseText K a = some true := by
  refine ⟨mx_Pose a + 1048578, ?_⟩
  generalize hKe : mx_Pose a + 1048578 = K
  unfold laws_FnExactPoseText
  obtain ⟨r, er, r1, r2, r3⟩ := sz_Pose K a 1048576 (by omega) (by omega) hm (by omega)
  rw [er, bind_of, ite2_dec]
  split
  · rfl
  · have hs : mx_Pose a ≤ 1048576 := by have := r3 (by omega); omega
    have core : ∃ q : ByteArray × Bool, spec_PoseText K a = some q ∧ impl_PoseText K a = some q := by
      by_cases h : 1 ≤ a.Turns.length ∧ a.Turns.length ≤ 12
      · refine ⟨_, ?_, impl_pt h.1 h.2 (by omega)⟩
        unfold spec_PoseText spec_l03Few
        rw [ite2_dec, if_pos (by omega), bind_of, bind_of, decide_eq_true (show (a.Turns.length : Int) ≤ 12 by omega), Bool.not_true, ite2_false, spec_pt h.2 (by omega)]; rfl
      · refine ⟨(ByteArray.empty, false), ?_, ?_⟩
        · unfold spec_PoseText spec_l03Few
          rw [ite2_dec]
          by_cases h1 : (a.Turns.length : Int) ≥ 1
          · rw [if_pos h1, bind_of, bind_of, decide_eq_false (show ¬ (a.Turns.length : Int) ≤ 12 by omega)]; rfl
          · rw [if_neg h1]; rfl
        · unfold impl_PoseText impl_isPose
          rw [ite2_dec]
          by_cases h1 : (a.Turns.length : Int) ≥ 1
          · rw [if_pos h1, bind_of, bind_of, decide_eq_false (show ¬ (a.Turns.length : Int) ≤ 12 by omega)]; rfl
          · rw [if_neg h1]; rfl
    obtain ⟨⟨q1, q2⟩, e1, e2⟩ := core
    have x1 : (q1.toList == q1.toList) = true := by simp
    have x2 : (!(q2 == q2)) = false := by simp
    simp only [to_Pose (K := K) (a := a) (by omega) hs, bind_of, e1, e2, x1, Bool.not_true, ite2_false, x2, eq_Pose (K := K) (a := a) (by omega) hs]

end
end Go.Fw
