/- Lists of texts: compared, marked, held. -/
import Derived.Test.YtdclghdojlilfaaDoorFwGLTxBase
namespace Go.Fw
open Go
noncomputable section

def mt (K : Nat) (n : Int) : ByteArray := (laws_markText K n).getD ByteArray.empty
theorem markText_mt {K : Nat} {n : Int} (h0 : 0 ≤ n) (h1 : n ≤ 4611686018427387904) (hK : 70 ≤ K) : laws_markText K n = some (mt K n) := by
  have key : ∀ (k u : Nat) (out : ByteArray), u ≤ 4611686018427387904 → u < 2 ^ k → out.size + k ≤ 1000 → ∀ f, k + 1 ≤ f → (laws_markText_l1 K f (u : Int) out).isSome = true := by
    intro k
    induction k with
    | zero =>
      intro u out hu hp ho f hf
      have h0 : u = 0 := by simpa using hp
      subst h0
      obtain ⟨f, rfl⟩ : ∃ g, f = g + 1 := ⟨f - 1, by omega⟩
      rw [laws_markText_l1, ite2_dec, if_neg (by omega), chk_pos (by have : (ByteArray.mk #[109]).size = 1 := rfl
                                                                     omega)]
      rfl
    | succ k ih =>
      intro u out hu hp ho f hf
      obtain ⟨f, rfl⟩ : ∃ g, f = g + 1 := ⟨f - 1, by omega⟩
      rw [laws_markText_l1, ite2_dec]
      by_cases h0 : u = 0
      · subst h0
        rw [if_neg (by omega), chk_pos (by have : (ByteArray.mk #[109]).size = 1 := rfl
                                           omega)]
        rfl
      · have hd : ((u : Int).tdiv 10) = ((u / 10 : Nat) : Int) := by rw [Int.tdiv_eq_ediv_of_nonneg (by omega)]; omega
        have hm : ((u : Int).tmod 10) = ((u % 10 : Nat) : Int) := by rw [Int.tmod_eq_emod_of_nonneg (by omega)]; omega
        have hm10 : u % 10 < 10 := Nat.mod_lt _ (by omega)
        have hk : u / 10 < 2 ^ k := by
          rw [Nat.pow_succ] at hp
          generalize 2 ^ k = q at hp ⊢
          omega
        have hw : IntKind.u8.wrap (IntKind.i64.wrap ((48 : Int) + ((u % 10 : Nat) : Int))) = ((48 + u % 10 : Nat) : Int) := by
          rw [wrap_small (n := (48 : Int) + ((u % 10 : Nat) : Int)) (by omega) (by omega), show ∀ n : Int, IntKind.u8.wrap n = n % 256 from fun n => by simp [IntKind.wrap, IntKind.bits, IntKind.signed]]
          omega
        have hz : (strOf [((48 + u % 10 : Nat) : Int)]).size = 1 := rfl
        have hz2 : (strOf [((48 + u % 10 : Nat) : Int)] ++ out).size = 1 + out.size := by rw [ByteArray.size_append, hz]
        rw [if_pos (by omega), chk_pos (by omega), hm, hd, hw, chk_pos (by intro x hx; simp at hx; omega), chk_pos (by rw [hz]; omega), wrap_in (by omega) (by omega)]
        exact ih (u / 10) _ (by omega) hk (by rw [hz2]; omega) f (by omega)
  unfold mt
  suffices h : (laws_markText K n).isSome = true by
    obtain ⟨s, hs⟩ := Option.isSome_iff_exists.1 h
    rw [hs]; rfl
  unfold laws_markText
  rw [ite2_dec]
  split
  · rfl
  · obtain ⟨u, rfl⟩ : ∃ u : Nat, n = (u : Int) := ⟨n.toNat, by omega⟩
    have hu : u < 2 ^ 63 := by
      have : (2 : Nat) ^ 63 = 9223372036854775808 := by decide
      omega
    exact key 63 u _ (by omega) hu (by have : ByteArray.empty.size = 0 := rfl
                                       omega) K (by omega)

def one (_ : ByteArray) : Int := 1
def mtf (K : Nat) (k : Int) (_ : ByteArray) : ByteArray := mt K k
theorem eqS {K : Nat} {a : List ByteArray} (hl : a.length ≤ 1048576) (hK : a.length < K) : laws_eqStringS K a a = some true := by
  unfold laws_eqStringS
  rw [show (((a.length : Int)) != (a.length : Int)) = false by simp, ite2_false]
  refine eq_loop a (fun x y => some (x.toList == y.toList)) (fun x _ => by simp) (by rw [maxLen_eq]; omega) _ (fun k i => ?_) K 0 (by omega) (by omega)
  rw [laws_eqStringS_l1]
  simp only [bind_of]
theorem markS {K : Nat} {a : List ByteArray} (hl : a.length ≤ 100000) (hK : a.length + 70 ≤ K) : laws_markStringS K a 1 = some (1 + cnL one a, mkL (mtf K) one 1 a) := by
  unfold laws_markStringS
  refine mark_loop (mtf K) one 1 1 a (by omega) (by omega) (fun x _ => by unfold one; omega) (by omega) (by omega) _ (fun k i x xs h1 h2 => ?_) (fun k i x xs hx hx2 hi hl2 hi2 _ _ _ => ?_) K (by omega)
  · rw [laws_markStringS_l1, ite2_dec, if_neg (by omega), chk_pos h1]
  · rw [laws_markStringS_l1, ite2_dec, if_pos (by omega), markText_mt hx (by omega) (by omega), bind_of, chk_pos (by omega), wrap_in (by omega) (by omega), wrap_nat1 (by omega), Int.toNat_natCast]
    rfl
theorem heldS {K : Nat} {a : List ByteArray} (hl : a.length ≤ 100000) (hK : a.length + 70 ≤ K) : laws_heldStringS K (mkL (mtf K) one 1 a) 1 = some (1 + cnL one a) := by
  unfold laws_heldStringS
  refine held_loop (mtf K) one 1 1 a (by omega) (by omega) (fun x _ => by unfold one; omega) (by omega) (by omega) _ (fun k i x h => ?_) (fun k i x hx hx2 hi hi2 _ hg _ => ?_) K (by omega)
  · rw [laws_heldStringS_l1, ite2_dec, if_neg (by rw [mkL_length]; omega)]
  · rw [laws_heldStringS_l1, ite2_dec, if_pos (by omega), chk_pos (by omega), markText_mt hx (by omega) (by omega), bind_of, Int.toNat_natCast, hg]
    have : ((mtf K x (a.getD i default)).toList == (mt K x).toList) = true := by simp [mtf]
    rw [this, Bool.not_true, ite2_false, wrap_in (by omega) (by omega), wrap_nat1 (by omega)]
    rfl
theorem cnOne (a : List ByteArray) : cnL one a = (a.length : Int) := by
  induction a with
  | nil => rfl
  | cons x a ih => rw [cnL, ih, List.length_cons]; unfold one; omega

end
end Go.Fw
