/- What a law copies, compares, measures, marks and holds, in plain Lean. -/
import Derived.Test.YteehipecgmfeiaaGreatFwTC
import Derived.Test.YteehipecgmfeiaaGreatFwLW
namespace Go.Fw
open Go

theorem same_Float (K : Nat) (a : F64) : laws_sameFloat K a a = some true := by
  unfold laws_sameFloat
  cases h : a.ne a
  · have heq : a.eq a = true := by
      unfold Fl.ne cmpBits at h
      unfold Fl.eq cmpBits
      simpa using h
    simp only [ite2_false, bind_of, heq]
    cases a.eq (Fl.mk (k := .f64) 0 (by decide)) <;> simp [ite2]
  · simp [ite2]
def mk_Turn (k : Int) (_ : Turn) : Turn := (Turn.mk (Fl.ofInt .f32 (k)) (Fl.ofInt .f32 (k + 1)) (Fl.ofInt .f32 (k + 2)) (Fl.ofInt .f32 (k + 3)))
def mk_Key (k : Int) (_ : Key) : Key := (Key.mk k (Turn.mk (Fl.ofInt .f32 (k + 1)) (Fl.ofInt .f32 (k + 2)) (Fl.ofInt .f32 (k + 3)) (Fl.ofInt .f32 (k + 4))))
theorem sz_KeyS (K : Nat) (a : List Key) (s : Int) (h0 : 0 ≤ s) (h1 : s ≤ 1048576) (hm : a.length ≤ maxLen) (hK : a.length < K) : Sz (laws_szKeyS K a s) s (a.length) := by
  unfold laws_szKeyS
  exact sz_flat h0 h1 hm
theorem sz_KeySS (K : Nat) (a : List (List Key)) (s : Int) (h0 : 0 ≤ s) (h1 : s ≤ 1048576) (hm : mxL List.length a ≤ maxLen) (hK : mxL List.length a < K) : Sz (laws_szKeySS K a s) s (mxL List.length a) := by
  have hln := mxL_len List.length a
  unfold laws_szKeySS
  exact sz_nested List.length a (by omega) (laws_szKeySS_l1 K a) (fun x s => laws_szKeyS K x s) (fun x hx s h0 h1 => sz_KeyS K x s h0 h1 (by have := mxL_mem (f := List.length) hx; omega) (by have := mxL_mem (f := List.length) hx; omega))
    (fun k i s h => by rw [laws_szKeySS_l1, ite2_dec, if_neg (by omega)]) (fun k i s h => by rw [laws_szKeySS_l1, ite2_dec, if_pos (by omega), chk_pos (by omega), Int.toNat_natCast]) (by omega) h0 h1
def mk_Vector (k : Int) (_ : Vector) : Vector := (Vector.mk (Fl.ofInt .f32 (k)) (Fl.ofInt .f32 (k + 1)) (Fl.ofInt .f32 (k + 2)))
def mk_RootKey (k : Int) (_ : RootKey) : RootKey := (RootKey.mk k (Vector.mk (Fl.ofInt .f32 (k + 1)) (Fl.ofInt .f32 (k + 2)) (Fl.ofInt .f32 (k + 3))))
theorem sz_RootKeyS (K : Nat) (a : List RootKey) (s : Int) (h0 : 0 ≤ s) (h1 : s ≤ 1048576) (hm : a.length ≤ maxLen) (hK : a.length < K) : Sz (laws_szRootKeyS K a s) s (a.length) := by
  unfold laws_szRootKeyS
  exact sz_flat h0 h1 hm
def mx_Clip (a : Clip) : Nat := max (mxL List.length a.Tracks) (a.Roots.length)
def mk_Clip (k : Int) (a : Clip) : Clip := Clip.mk k (k + 1) ((mkL (mkL mk_Key (fun (_ : Key) => (5 : Int))) (cnL (fun (_ : Key) => (5 : Int)))) (k + 2) a.Tracks) ((mkL mk_RootKey (fun (_ : RootKey) => (4 : Int))) (k + 2 + (cnL (cnL (fun (_ : Key) => (5 : Int)))) a.Tracks) a.Roots)
def cn_Clip (a : Clip) : Int := 2 + (cnL (cnL (fun (_ : Key) => (5 : Int)))) a.Tracks + (cnL (fun (_ : RootKey) => (4 : Int))) a.Roots
theorem sz_Clip (K : Nat) (a : Clip) (s : Int) (h0 : 0 ≤ s) (h1 : s ≤ 1048576) (hm : mx_Clip a ≤ maxLen) (hK : mx_Clip a < K) : Sz (laws_szClip K a s) s (mx_Clip a) := by
  unfold laws_szClip
  simp only [mx_Clip] at hm hK ⊢
  exact (sz_KeySS K a.Tracks s h0 h1 (by omega) (by omega)).then h1 (fun v1 g1 _ r1 => (sz_RootKeyS K a.Roots v1 g1 r1 (by omega) (by omega)).last)
theorem to_Turn (K : Nat) (a : Turn) : laws_toTurn K a = some a := by
  first | rfl | (unfold laws_toTurn; simp only [bind_of]; rfl)
theorem to_Key (K : Nat) (a : Key) : laws_toKey K a = some a := by
  first | rfl | (unfold laws_toKey; simp only [bind_of, to_Turn]; rfl)
theorem to_KeyS {K : Nat} {a : List Key} (hK : a.length < K) (hs : a.length ≤ 1048576) : laws_toKeyS K a = some a := by
  unfold laws_toKeyS
  rw [chk_pos (by simp; omega)]
  exact to_loop a (laws_toKeyS_l1 K a) (fun k i ys h => by rw [laws_toKeyS_l1, ite2_dec, if_neg (by omega)]) (fun k i ys h hy => by
    have hc : (i : Int) < (a.length : Int) := by omega
    rw [laws_toKeyS_l1]
    simp (disch := omega) only [ite2_dec, if_pos hc, chk_pos, bind_of, Int.toNat_natCast, wrap_nat1, to_Key]) K 0 _ (by omega) (by simp) (by intro j hj; omega) (by omega)
theorem to_KeySS {K : Nat} {a : List (List Key)} (hK : mxL List.length a < K) (hs : mxL List.length a ≤ 1048576) : laws_toKeySS K a = some a := by
  have hln := mxL_len List.length a
  unfold laws_toKeySS
  rw [chk_pos (by simp; omega)]
  exact to_loop a (laws_toKeySS_l1 K a) (fun k i ys h => by rw [laws_toKeySS_l1, ite2_dec, if_neg (by omega)]) (fun k i ys h hy => by
    have hc : (i : Int) < (a.length : Int) := by omega
    rw [laws_toKeySS_l1]
    simp (disch := omega) only [ite2_dec, if_pos hc, chk_pos, bind_of, Int.toNat_natCast, wrap_nat1, to_KeyS (K := K) (a := a.getD i default) (by have := mxL_getD (f := List.length) h; omega) (by have := mxL_getD (f := List.length) h; omega)]) K 0 _ (by omega) (by simp) (by intro j hj; omega) (by omega)
theorem to_Vector (K : Nat) (a : Vector) : laws_toVector K a = some a := by
  first | rfl | (unfold laws_toVector; simp only [bind_of]; rfl)
theorem to_RootKey (K : Nat) (a : RootKey) : laws_toRootKey K a = some a := by
  first | rfl | (unfold laws_toRootKey; simp only [bind_of, to_Vector]; rfl)
theorem to_RootKeyS {K : Nat} {a : List RootKey} (hK : a.length < K) (hs : a.length ≤ 1048576) : laws_toRootKeyS K a = some a := by
  unfold laws_toRootKeyS
  rw [chk_pos (by simp; omega)]
  exact to_loop a (laws_toRootKeyS_l1 K a) (fun k i ys h => by rw [laws_toRootKeyS_l1, ite2_dec, if_neg (by omega)]) (fun k i ys h hy => by
    have hc : (i : Int) < (a.length : Int) := by omega
    rw [laws_toRootKeyS_l1]
    simp (disch := omega) only [ite2_dec, if_pos hc, chk_pos, bind_of, Int.toNat_natCast, wrap_nat1, to_RootKey]) K 0 _ (by omega) (by simp) (by intro j hj; omega) (by omega)
theorem to_Clip {K : Nat} {a : Clip} (hK : mx_Clip a < K) (hs : mx_Clip a ≤ 1048576) : laws_toClip K a = some a := by
  unfold laws_toClip
  simp only [to_KeySS (K := K) (a := a.Tracks) (by simp only [mx_Clip] at hK; omega) (by simp only [mx_Clip] at hs; omega), to_RootKeyS (K := K) (a := a.Roots) (by simp only [mx_Clip] at hK; omega) (by simp only [mx_Clip] at hs; omega), bind_of]
theorem eq_Turn (K : Nat) (a : Turn) : laws_eqTurn K a a = some true := by
  unfold laws_eqTurn
  simp only [bind_of, same_Float, Bool.not_true, ite2_false, beq_self_eq_true, bne_self_eq_false]
theorem eq_Key (K : Nat) (a : Key) : laws_eqKey K a a = some true := by
  unfold laws_eqKey
  simp only [eq_Turn, bind_of, same_Float, Bool.not_true, ite2_false, beq_self_eq_true, bne_self_eq_false]
theorem eq_KeyS {K : Nat} {a : List Key} (hK : a.length < K) (hs : a.length ≤ 1048576) : laws_eqKeyS K a a = some true := by
  unfold laws_eqKeyS
  simp only [bne_self_eq_false, ite2_false]
  exact cnt_loop a.length true (laws_eqKeyS_l1 K a a) (fun k i h => by rw [laws_eqKeyS_l1, ite2_dec, if_neg (by omega)]) (fun k i h => by
    have hc : (i : Int) < (a.length : Int) := by omega
    rw [laws_eqKeyS_l1]
    simp (disch := omega) only [ite2_dec, if_pos hc, chk_pos, bind_of, Int.toNat_natCast, wrap_nat1, same_Float, Bool.not_true, ite2_false, beq_self_eq_true, bne_self_eq_false, eq_Key]) K 0 (by omega)
theorem eq_KeySS {K : Nat} {a : List (List Key)} (hK : mxL List.length a < K) (hs : mxL List.length a ≤ 1048576) : laws_eqKeySS K a a = some true := by
  have hln := mxL_len List.length a
  unfold laws_eqKeySS
  simp only [bne_self_eq_false, ite2_false]
  exact cnt_loop a.length true (laws_eqKeySS_l1 K a a) (fun k i h => by rw [laws_eqKeySS_l1, ite2_dec, if_neg (by omega)]) (fun k i h => by
    have hc : (i : Int) < (a.length : Int) := by omega
    rw [laws_eqKeySS_l1]
    simp (disch := omega) only [ite2_dec, if_pos hc, chk_pos, bind_of, Int.toNat_natCast, wrap_nat1, same_Float, Bool.not_true, ite2_false, beq_self_eq_true, bne_self_eq_false, eq_KeyS (K := K) (a := a.getD i default) (by have := mxL_getD (f := List.length) h; omega) (by have := mxL_getD (f := List.length) h; omega)]) K 0 (by omega)
theorem eq_Vector (K : Nat) (a : Vector) : laws_eqVector K a a = some true := by
  unfold laws_eqVector
  simp only [bind_of, same_Float, Bool.not_true, ite2_false, beq_self_eq_true, bne_self_eq_false]
theorem eq_RootKey (K : Nat) (a : RootKey) : laws_eqRootKey K a a = some true := by
  unfold laws_eqRootKey
  simp only [eq_Vector, bind_of, same_Float, Bool.not_true, ite2_false, beq_self_eq_true, bne_self_eq_false]
theorem eq_RootKeyS {K : Nat} {a : List RootKey} (hK : a.length < K) (hs : a.length ≤ 1048576) : laws_eqRootKeyS K a a = some true := by
  unfold laws_eqRootKeyS
  simp only [bne_self_eq_false, ite2_false]
  exact cnt_loop a.length true (laws_eqRootKeyS_l1 K a a) (fun k i h => by rw [laws_eqRootKeyS_l1, ite2_dec, if_neg (by omega)]) (fun k i h => by
    have hc : (i : Int) < (a.length : Int) := by omega
    rw [laws_eqRootKeyS_l1]
    simp (disch := omega) only [ite2_dec, if_pos hc, chk_pos, bind_of, Int.toNat_natCast, wrap_nat1, same_Float, Bool.not_true, ite2_false, beq_self_eq_true, bne_self_eq_false, eq_RootKey]) K 0 (by omega)
theorem eq_Clip {K : Nat} {a : Clip} (hK : mx_Clip a < K) (hs : mx_Clip a ≤ 1048576) : laws_eqClip K a a = some true := by
  unfold laws_eqClip
  simp only [eq_KeySS (K := K) (a := a.Tracks) (by simp only [mx_Clip] at hK; omega) (by simp only [mx_Clip] at hs; omega), eq_RootKeyS (K := K) (a := a.Roots) (by simp only [mx_Clip] at hK; omega) (by simp only [mx_Clip] at hs; omega), bind_of, same_Float, Bool.not_true, ite2_false, beq_self_eq_true, bne_self_eq_false]
theorem mark_KeyS {K : Nat} {a : List Key} {k0 : Int} (hK : a.length < K) (hs : a.length ≤ 1048576) (hk0 : 0 ≤ k0) (hk1 : k0 + 5242880 ≤ 4611686018427387904) : laws_markKeyS K a k0 = some (k0 + cnL (fun (_ : Key) => (5 : Int)) a, mkL mk_Key (fun (_ : Key) => (5 : Int)) k0 a) := by
  unfold laws_markKeyS
  exact mark_loop mk_Key (fun (_ : Key) => (5 : Int)) 5 k0 a (by decide) (by omega) (fun x _ => by constructor <;> decide) hk0 (by omega) (laws_markKeyS_l1 K a) (fun k i x xs h1 h2 => by rw [laws_markKeyS_l1, ite2_dec, if_neg (by omega), chk_pos h1]) (fun k i x xs hx0 hx1 h he hi hl hg _ => by
    have w1 : IntKind.i64.wrap (x + 1) = x + 1 := by rw [wrap_in (by omega) (by omega)]
    have w2 : IntKind.i64.wrap (x + 1 + 1) = x + 2 := by rw [wrap_in (by omega) (by omega)]; omega
    have w3 : IntKind.i64.wrap (x + 2 + 1) = x + 3 := by rw [wrap_in (by omega) (by omega)]; omega
    have w4 : IntKind.i64.wrap (x + 3 + 1) = x + 4 := by rw [wrap_in (by omega) (by omega)]; omega
    have w5 : IntKind.i64.wrap (x + 4 + 1) = x + 5 := by rw [wrap_in (by omega) (by omega)]; omega
    have w0 : IntKind.i64.wrap x = x := wrap_in (by omega) (by omega)
    have w9 := wrap_nat1 (i := i) (by omega)
    have hc : 0 ≤ (i : Int) ∧ (i : Int) < (xs.length : Int) := by omega
    rw [laws_markKeyS_l1]
    simp only [Int.toNat_natCast, w9, w0, w1, w2, w3, w4, w5, List.length_set, bind_of, set_getD hi, List.set_set, ite2_dec, if_pos hc.2, chk_pos hc, hg]
    try rfl) K (by omega)
theorem bd_LKey {a : List Key} (hs : a.length ≤ 1048576) : 0 ≤ (cnL (fun (_ : Key) => (5 : Int))) a ∧ (cnL (fun (_ : Key) => (5 : Int))) a ≤ 5242880 := by
  have h1 := hs
  have := cnL_bound2 (c := (fun (_ : Key) => (5 : Int))) (B := 5) (xs := a) (by decide) (by omega) (fun x hx => by constructor <;> decide)
  exact ⟨this.1, Int.le_trans this.2 (by decide)⟩
theorem mark_KeySS {K : Nat} {a : List (List Key)} {k0 : Int} (hK : mxL List.length a < K) (hs : mxL List.length a ≤ 1048576) (hk0 : 0 ≤ k0) (hk1 : k0 + 5497558138880 ≤ 4611686018427387904) : laws_markKeySS K a k0 = some (k0 + cnL (cnL (fun (_ : Key) => (5 : Int))) a, mkL (mkL mk_Key (fun (_ : Key) => (5 : Int))) (cnL (fun (_ : Key) => (5 : Int))) k0 a) := by
  have hln := mxL_len List.length a
  unfold laws_markKeySS
  exact mark_loop (mkL mk_Key (fun (_ : Key) => (5 : Int))) (cnL (fun (_ : Key) => (5 : Int))) 5242880 k0 a (by decide) (by omega) (fun x hx => bd_LKey (by have := mxL_mem (f := List.length) hx; omega)) hk0 (by omega) (laws_markKeySS_l1 K a) (fun k i x xs h1 h2 => by rw [laws_markKeySS_l1, ite2_dec, if_neg (by omega), chk_pos h1]) (fun k i x xs hx0 hx1 h he hi hl hg _ => by
    have w0 : IntKind.i64.wrap x = x := wrap_in (by omega) (by omega)
    have w9 := wrap_nat1 (i := i) (by omega)
    have hc : 0 ≤ (i : Int) ∧ (i : Int) < (xs.length : Int) := by omega
    rw [laws_markKeySS_l1]
    simp only [Int.toNat_natCast, w9, w0, List.length_set, bind_of, set_getD hi, List.set_set, ite2_dec, if_pos hc.2, chk_pos hc, hg, mark_KeyS (K := K) (a := a.getD i default) (k0 := x) (by have := mxL_getD (f := List.length) h; omega) (by have := mxL_getD (f := List.length) h; omega) (by omega) (by omega)]
    try (simp only [Int.add_assoc]; try rfl)) K (by omega)
theorem mark_RootKeyS {K : Nat} {a : List RootKey} {k0 : Int} (hK : a.length < K) (hs : a.length ≤ 1048576) (hk0 : 0 ≤ k0) (hk1 : k0 + 4194304 ≤ 4611686018427387904) : laws_markRootKeyS K a k0 = some (k0 + cnL (fun (_ : RootKey) => (4 : Int)) a, mkL mk_RootKey (fun (_ : RootKey) => (4 : Int)) k0 a) := by
  unfold laws_markRootKeyS
  exact mark_loop mk_RootKey (fun (_ : RootKey) => (4 : Int)) 4 k0 a (by decide) (by omega) (fun x _ => by constructor <;> decide) hk0 (by omega) (laws_markRootKeyS_l1 K a) (fun k i x xs h1 h2 => by rw [laws_markRootKeyS_l1, ite2_dec, if_neg (by omega), chk_pos h1]) (fun k i x xs hx0 hx1 h he hi hl hg _ => by
    have w1 : IntKind.i64.wrap (x + 1) = x + 1 := by rw [wrap_in (by omega) (by omega)]
    have w2 : IntKind.i64.wrap (x + 1 + 1) = x + 2 := by rw [wrap_in (by omega) (by omega)]; omega
    have w3 : IntKind.i64.wrap (x + 2 + 1) = x + 3 := by rw [wrap_in (by omega) (by omega)]; omega
    have w4 : IntKind.i64.wrap (x + 3 + 1) = x + 4 := by rw [wrap_in (by omega) (by omega)]; omega
    have w0 : IntKind.i64.wrap x = x := wrap_in (by omega) (by omega)
    have w9 := wrap_nat1 (i := i) (by omega)
    have hc : 0 ≤ (i : Int) ∧ (i : Int) < (xs.length : Int) := by omega
    rw [laws_markRootKeyS_l1]
    simp only [Int.toNat_natCast, w9, w0, w1, w2, w3, w4, List.length_set, bind_of, set_getD hi, List.set_set, ite2_dec, if_pos hc.2, chk_pos hc, hg]
    try rfl) K (by omega)
theorem held_KeyS {K : Nat} {a : List Key} {k0 : Int} (hK : a.length < K) (hs : a.length ≤ 1048576) (hk0 : 0 ≤ k0) (hk1 : k0 + 5242880 ≤ 4611686018427387904) : laws_heldKeyS K (mkL mk_Key (fun (_ : Key) => (5 : Int)) k0 a) k0 = some (k0 + cnL (fun (_ : Key) => (5 : Int)) a) := by
  unfold laws_heldKeyS
  exact held_loop mk_Key (fun (_ : Key) => (5 : Int)) 5 k0 a (by decide) (by omega) (fun x _ => by constructor <;> decide) hk0 (by omega) (laws_heldKeyS_l1 K _) (fun k i x h2 => by rw [laws_heldKeyS_l1, ite2_dec, if_neg (by rw [mkL_length]; omega)]) (fun k i x hx0 hx1 h hi hl hg _ => by
    have w1 : IntKind.i64.wrap (x + 1) = x + 1 := by rw [wrap_in (by omega) (by omega)]
    have w2 : IntKind.i64.wrap (x + 1 + 1) = x + 2 := by rw [wrap_in (by omega) (by omega)]; omega
    have w3 : IntKind.i64.wrap (x + 2 + 1) = x + 3 := by rw [wrap_in (by omega) (by omega)]; omega
    have w4 : IntKind.i64.wrap (x + 3 + 1) = x + 4 := by rw [wrap_in (by omega) (by omega)]; omega
    have w5 : IntKind.i64.wrap (x + 4 + 1) = x + 5 := by rw [wrap_in (by omega) (by omega)]; omega
    have w0 : IntKind.i64.wrap x = x := wrap_in (by omega) (by omega)
    have w9 := wrap_nat1 (i := i) (by omega)
    have hc : 0 ≤ (i : Int) ∧ (i : Int) < ((mkL mk_Key (fun (_ : Key) => (5 : Int)) k0 a).length : Int) := by omega
    rw [laws_heldKeyS_l1]
    simp only [Int.toNat_natCast, w9, ite2_dec, if_pos hc.2, chk_pos hc, hg, mk_Key, w0, w1, w2, w3, w4, w5, ofInt_ne, ite2_false, bne_self_eq_false, beq_self_eq_true, Bool.not_true, bind_of]
    try rfl) K (by omega)
theorem held_KeySS {K : Nat} {a : List (List Key)} {k0 : Int} (hK : mxL List.length a < K) (hs : mxL List.length a ≤ 1048576) (hk0 : 0 ≤ k0) (hk1 : k0 + 5497558138880 ≤ 4611686018427387904) : laws_heldKeySS K (mkL (mkL mk_Key (fun (_ : Key) => (5 : Int))) (cnL (fun (_ : Key) => (5 : Int))) k0 a) k0 = some (k0 + cnL (cnL (fun (_ : Key) => (5 : Int))) a) := by
  have hln := mxL_len List.length a
  have hK' := hK
  have hs' := hs
  unfold laws_heldKeySS
  exact held_loop (mkL mk_Key (fun (_ : Key) => (5 : Int))) (cnL (fun (_ : Key) => (5 : Int))) 5242880 k0 a (by decide) (by omega) (fun x hx => bd_LKey (by have := mxL_mem (f := List.length) hx; omega)) hk0 (by omega) (laws_heldKeySS_l1 K _) (fun k i x h2 => by rw [laws_heldKeySS_l1, ite2_dec, if_neg (by rw [mkL_length]; omega)]) (fun k i x hx0 hx1 h hi hl hg _ => by
    have w0 : IntKind.i64.wrap x = x := wrap_in (by omega) (by omega)
    have hbd := bd_LKey (a := a.getD i default) (by have := mxL_getD (f := List.length) h; omega)
    have hz : ¬ (x + (cnL (fun (_ : Key) => (5 : Int))) (a.getD i default) < 0) := by omega
    have w9 := wrap_nat1 (i := i) (by omega)
    have hc : 0 ≤ (i : Int) ∧ (i : Int) < ((mkL (mkL mk_Key (fun (_ : Key) => (5 : Int))) (cnL (fun (_ : Key) => (5 : Int))) k0 a).length : Int) := by omega
    rw [laws_heldKeySS_l1]
    simp only [Int.toNat_natCast, w9, ite2_dec, if_pos hc.2, chk_pos hc, hg, w0, ofInt_ne, ite2_false, bne_self_eq_false, beq_self_eq_true, Bool.not_true, bind_of, held_KeyS (K := K) (a := a.getD i default) (k0 := x) (by have := mxL_getD (f := List.length) h; omega) (by have := mxL_getD (f := List.length) h; omega) (by omega) (by omega), if_neg hz]
    try (simp only [Int.add_assoc]; try rfl)) K (by omega)
theorem held_RootKeyS {K : Nat} {a : List RootKey} {k0 : Int} (hK : a.length < K) (hs : a.length ≤ 1048576) (hk0 : 0 ≤ k0) (hk1 : k0 + 4194304 ≤ 4611686018427387904) : laws_heldRootKeyS K (mkL mk_RootKey (fun (_ : RootKey) => (4 : Int)) k0 a) k0 = some (k0 + cnL (fun (_ : RootKey) => (4 : Int)) a) := by
  unfold laws_heldRootKeyS
  exact held_loop mk_RootKey (fun (_ : RootKey) => (4 : Int)) 4 k0 a (by decide) (by omega) (fun x _ => by constructor <;> decide) hk0 (by omega) (laws_heldRootKeyS_l1 K _) (fun k i x h2 => by rw [laws_heldRootKeyS_l1, ite2_dec, if_neg (by rw [mkL_length]; omega)]) (fun k i x hx0 hx1 h hi hl hg _ => by
    have w1 : IntKind.i64.wrap (x + 1) = x + 1 := by rw [wrap_in (by omega) (by omega)]
    have w2 : IntKind.i64.wrap (x + 1 + 1) = x + 2 := by rw [wrap_in (by omega) (by omega)]; omega
    have w3 : IntKind.i64.wrap (x + 2 + 1) = x + 3 := by rw [wrap_in (by omega) (by omega)]; omega
    have w4 : IntKind.i64.wrap (x + 3 + 1) = x + 4 := by rw [wrap_in (by omega) (by omega)]; omega
    have w0 : IntKind.i64.wrap x = x := wrap_in (by omega) (by omega)
    have w9 := wrap_nat1 (i := i) (by omega)
    have hc : 0 ≤ (i : Int) ∧ (i : Int) < ((mkL mk_RootKey (fun (_ : RootKey) => (4 : Int)) k0 a).length : Int) := by omega
    rw [laws_heldRootKeyS_l1]
    simp only [Int.toNat_natCast, w9, ite2_dec, if_pos hc.2, chk_pos hc, hg, mk_RootKey, w0, w1, w2, w3, w4, ofInt_ne, ite2_false, bne_self_eq_false, beq_self_eq_true, Bool.not_true, bind_of]
    try rfl) K (by omega)
theorem mark_Clip {K : Nat} {a : Clip} {k0 : Int} (hK : mx_Clip a < K) (hs : mx_Clip a ≤ 1048576) (hk0 : 0 ≤ k0) (hk1 : k0 + 5497562333184 ≤ 4611686018427387904) : ∃ m y0 y1, laws_markClip K a k0 = some (m, y0, y1) ∧ k0 ≤ m ∧ m ≤ k0 + 5497562333184 ∧ y0.length = a.Tracks.length ∧ y1.length = a.Roots.length ∧ ∀ (z0 : Int) (z1 : Int), laws_heldClip K (Clip.mk z0 z1 y0 y1) k0 = some m := by
  simp only [mx_Clip] at hK hs
  have b0 := cnL_bound2 (c := (cnL (fun (_ : Key) => (5 : Int)))) (B := 5242880) (xs := a.Tracks) (by decide) (by have := mxL_len List.length a.Tracks; omega) (fun x hx => bd_LKey (by have := mxL_mem (f := List.length) hx; omega))
  have e0 := mark_KeySS (K := K) (a := a.Tracks) (k0 := k0) (by omega) (by omega) (by omega) (by omega)
  have g0 := held_KeySS (K := K) (a := a.Tracks) (k0 := k0) (by omega) (by omega) (by omega) (by omega)
  have l0 := mkL_length (mkL mk_Key (fun (_ : Key) => (5 : Int))) (cnL (fun (_ : Key) => (5 : Int))) a.Tracks (k0)
  have n0 : ¬ (k0 + cnL (cnL (fun (_ : Key) => (5 : Int))) a.Tracks < 0) := by omega
  have b1 := cnL_bound2 (c := (fun (_ : RootKey) => (4 : Int))) (B := 4) (xs := a.Roots) (by decide) (by omega) (fun x hx => by constructor <;> decide)
  have e1 := mark_RootKeyS (K := K) (a := a.Roots) (k0 := k0 + cnL (cnL (fun (_ : Key) => (5 : Int))) a.Tracks) (by omega) (by omega) (by omega) (by omega)
  have g1 := held_RootKeyS (K := K) (a := a.Roots) (k0 := k0 + cnL (cnL (fun (_ : Key) => (5 : Int))) a.Tracks) (by omega) (by omega) (by omega) (by omega)
  have l1 := mkL_length mk_RootKey (fun (_ : RootKey) => (4 : Int)) a.Roots (k0 + cnL (cnL (fun (_ : Key) => (5 : Int))) a.Tracks)
  have n1 : ¬ (k0 + cnL (cnL (fun (_ : Key) => (5 : Int))) a.Tracks + cnL (fun (_ : RootKey) => (4 : Int)) a.Roots < 0) := by omega
  refine ⟨k0 + cnL (cnL (fun (_ : Key) => (5 : Int))) a.Tracks + cnL (fun (_ : RootKey) => (4 : Int)) a.Roots, (mkL (mkL mk_Key (fun (_ : Key) => (5 : Int))) (cnL (fun (_ : Key) => (5 : Int))) (k0) a.Tracks), (mkL mk_RootKey (fun (_ : RootKey) => (4 : Int)) (k0 + cnL (cnL (fun (_ : Key) => (5 : Int))) a.Tracks) a.Roots), ?_, by omega, by omega, l0, l1, ?_⟩
  · unfold laws_markClip
    simp only [e0, l0, e1, l1, bind_of, chk_pos]
  · intro z0 z1
    unfold laws_heldClip
    simp only [g0, if_neg n0, g1, if_neg n1, bind_of, ite2_dec]

end Go.Fw
