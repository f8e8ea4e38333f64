/- What a law copies, compares, measures, marks and holds, in plain Lean. -/
import Derived.Test.YtcemiphbmkkpeabFwSC
import Derived.Test.YtcemiphbmkkpeabFwLW
namespace Go.Fw
open Go

theorem same_Float (K : Nat) (a : F64) : laws_sameFloat K a a = some true := by
  unfold laws_sameFloat
  cases h : a.ne a
  · have heq : a.eq a = true := by
      unfold Fl.ne cmpBits at h
      unfold Fl.eq cmpBits
      simpa using h
    simp only [ite2_false, bind_of, heq]
    cases a.eq (Fl.mk (k := .f64) 0 (by decide)) <;> simp [ite2]
  · simp [ite2]
def mk_Vector (k : Int) (_ : Vector) : Vector := (Vector.mk (Fl.ofInt .f32 (k)) (Fl.ofInt .f32 (k + 1)) (Fl.ofInt .f32 (k + 2)))
theorem sz_VectorS (K : Nat) (a : List Vector) (s : Int) (h0 : 0 ≤ s) (h1 : s ≤ 1048576) (hm : a.length ≤ maxLen) (hK : a.length < K) : Sz (laws_szVectorS K a s) s (a.length) := by
  unfold laws_szVectorS
  exact sz_flat h0 h1 hm
theorem sz_BoolS (K : Nat) (a : List Bool) (s : Int) (h0 : 0 ≤ s) (h1 : s ≤ 1048576) (hm : a.length ≤ maxLen) (hK : a.length < K) : Sz (laws_szBoolS K a s) s (a.length) := by
  unfold laws_szBoolS
  exact sz_flat h0 h1 hm
theorem sz_Float32S (K : Nat) (a : List F32) (s : Int) (h0 : 0 ≤ s) (h1 : s ≤ 1048576) (hm : a.length ≤ maxLen) (hK : a.length < K) : Sz (laws_szFloat32S K a s) s (a.length) := by
  unfold laws_szFloat32S
  exact sz_flat h0 h1 hm
def mx_String (a : String) : Nat := max (a.Points.length) (max (a.Before.length) (max (a.Fixed.length) (a.Lengths.length)))
theorem sz_String (K : Nat) (a : String) (s : Int) (h0 : 0 ≤ s) (h1 : s ≤ 1048576) (hm : mx_String a ≤ maxLen) (hK : mx_String a < K) : Sz (laws_szString K a s) s (mx_String a) := by
  unfold laws_szString
  simp only [mx_String] at hm hK ⊢
  exact (sz_VectorS K a.Points s h0 h1 (by omega) (by omega)).then h1 (fun v1 g1 _ r1 => (sz_VectorS K a.Before v1 g1 r1 (by omega) (by omega)).then r1 (fun v2 g2 _ r2 => (sz_BoolS K a.Fixed v2 g2 r2 (by omega) (by omega)).then r2 (fun v3 g3 _ r3 => (sz_Float32S K a.Lengths v3 g3 r3 (by omega) (by omega)).last)))
theorem to_Vector (K : Nat) (a : Vector) : laws_toVector K a = some a := by
  first | rfl | (unfold laws_toVector; simp only [bind_of]; rfl)
theorem to_VectorS {K : Nat} {a : List Vector} (hK : a.length < K) (hs : a.length ≤ 1048576) : laws_toVectorS K a = some a := by
  unfold laws_toVectorS
  rw [chk_pos (by simp; omega)]
  exact to_loop a (laws_toVectorS_l1 K a) (fun k i ys h => by rw [laws_toVectorS_l1, ite2_dec, if_neg (by omega)]) (fun k i ys h hy => by
    have hc : (i : Int) < (a.length : Int) := by omega
    rw [laws_toVectorS_l1]
    simp (disch := omega) only [ite2_dec, if_pos hc, chk_pos, bind_of, Int.toNat_natCast, wrap_nat1, to_Vector]) K 0 _ (by omega) (by simp) (by intro j hj; omega) (by omega)
theorem to_BoolS {K : Nat} {a : List Bool} (hK : a.length < K) (hs : a.length ≤ 1048576) : laws_toBoolS K a = some a := by
  unfold laws_toBoolS
  rw [chk_pos (by simp; omega)]
  exact to_loop a (laws_toBoolS_l1 K a) (fun k i ys h => by rw [laws_toBoolS_l1, ite2_dec, if_neg (by omega)]) (fun k i ys h hy => by
    have hc : (i : Int) < (a.length : Int) := by omega
    rw [laws_toBoolS_l1]
    simp (disch := omega) only [ite2_dec, if_pos hc, chk_pos, bind_of, Int.toNat_natCast, wrap_nat1]) K 0 _ (by omega) (by simp) (by intro j hj; omega) (by omega)
theorem to_Float32S {K : Nat} {a : List F32} (hK : a.length < K) (hs : a.length ≤ 1048576) : laws_toFloat32S K a = some a := by
  unfold laws_toFloat32S
  rw [chk_pos (by simp; omega)]
  exact to_loop a (laws_toFloat32S_l1 K a) (fun k i ys h => by rw [laws_toFloat32S_l1, ite2_dec, if_neg (by omega)]) (fun k i ys h hy => by
    have hc : (i : Int) < (a.length : Int) := by omega
    rw [laws_toFloat32S_l1]
    simp (disch := omega) only [ite2_dec, if_pos hc, chk_pos, bind_of, Int.toNat_natCast, wrap_nat1]) K 0 _ (by omega) (by simp) (by intro j hj; omega) (by omega)
theorem to_String {K : Nat} {a : String} (hK : mx_String a < K) (hs : mx_String a ≤ 1048576) : laws_toString K a = some a := by
  unfold laws_toString
  simp only [to_VectorS (K := K) (a := a.Points) (by simp only [mx_String] at hK; omega) (by simp only [mx_String] at hs; omega), to_VectorS (K := K) (a := a.Before) (by simp only [mx_String] at hK; omega) (by simp only [mx_String] at hs; omega), to_BoolS (K := K) (a := a.Fixed) (by simp only [mx_String] at hK; omega) (by simp only [mx_String] at hs; omega), to_Float32S (K := K) (a := a.Lengths) (by simp only [mx_String] at hK; omega) (by simp only [mx_String] at hs; omega), to_Vector, bind_of]
theorem eq_Vector (K : Nat) (a : Vector) : laws_eqVector K a a = some true := by
  unfold laws_eqVector
  simp only [bind_of, same_Float, Bool.not_true, ite2_false, beq_self_eq_true, bne_self_eq_false]
theorem eq_VectorS {K : Nat} {a : List Vector} (hK : a.length < K) (hs : a.length ≤ 1048576) : laws_eqVectorS K a a = some true := by
  unfold laws_eqVectorS
  simp only [bne_self_eq_false, ite2_false]
  exact cnt_loop a.length true (laws_eqVectorS_l1 K a a) (fun k i h => by rw [laws_eqVectorS_l1, ite2_dec, if_neg (by omega)]) (fun k i h => by
    have hc : (i : Int) < (a.length : Int) := by omega
    rw [laws_eqVectorS_l1]
    simp (disch := omega) only [ite2_dec, if_pos hc, chk_pos, bind_of, Int.toNat_natCast, wrap_nat1, same_Float, Bool.not_true, ite2_false, beq_self_eq_true, bne_self_eq_false, eq_Vector]) K 0 (by omega)
theorem eq_BoolS {K : Nat} {a : List Bool} (hK : a.length < K) (hs : a.length ≤ 1048576) : laws_eqBoolS K a a = some true := by
  unfold laws_eqBoolS
  simp only [bne_self_eq_false, ite2_false]
  exact cnt_loop a.length true (laws_eqBoolS_l1 K a a) (fun k i h => by rw [laws_eqBoolS_l1, ite2_dec, if_neg (by omega)]) (fun k i h => by
    have hc : (i : Int) < (a.length : Int) := by omega
    rw [laws_eqBoolS_l1]
    simp (disch := omega) only [ite2_dec, if_pos hc, chk_pos, bind_of, Int.toNat_natCast, wrap_nat1, same_Float, Bool.not_true, ite2_false, beq_self_eq_true, bne_self_eq_false]) K 0 (by omega)
theorem eq_Float32S {K : Nat} {a : List F32} (hK : a.length < K) (hs : a.length ≤ 1048576) : laws_eqFloat32S K a a = some true := by
  unfold laws_eqFloat32S
  simp only [bne_self_eq_false, ite2_false]
  exact cnt_loop a.length true (laws_eqFloat32S_l1 K a a) (fun k i h => by rw [laws_eqFloat32S_l1, ite2_dec, if_neg (by omega)]) (fun k i h => by
    have hc : (i : Int) < (a.length : Int) := by omega
    rw [laws_eqFloat32S_l1]
    simp (disch := omega) only [ite2_dec, if_pos hc, chk_pos, bind_of, Int.toNat_natCast, wrap_nat1, same_Float, Bool.not_true, ite2_false, beq_self_eq_true, bne_self_eq_false]) K 0 (by omega)
theorem eq_String {K : Nat} {a : String} (hK : mx_String a < K) (hs : mx_String a ≤ 1048576) : laws_eqString K a a = some true := by
  unfold laws_eqString
  simp only [eq_VectorS (K := K) (a := a.Points) (by simp only [mx_String] at hK; omega) (by simp only [mx_String] at hs; omega), eq_VectorS (K := K) (a := a.Before) (by simp only [mx_String] at hK; omega) (by simp only [mx_String] at hs; omega), eq_BoolS (K := K) (a := a.Fixed) (by simp only [mx_String] at hK; omega) (by simp only [mx_String] at hs; omega), eq_Float32S (K := K) (a := a.Lengths) (by simp only [mx_String] at hK; omega) (by simp only [mx_String] at hs; omega), eq_Vector, bind_of, same_Float, Bool.not_true, ite2_false, beq_self_eq_true, bne_self_eq_false]
theorem mark_VectorS {K : Nat} {a : List Vector} {k0 : Int} (hK : a.length < K) (hs : a.length ≤ 1048576) (hk0 : 0 ≤ k0) (hk1 : k0 + 3145728 ≤ 4611686018427387904) : laws_markVectorS K a k0 = some (k0 + cnL (fun (_ : Vector) => (3 : Int)) a, mkL mk_Vector (fun (_ : Vector) => (3 : Int)) k0 a) := by
  unfold laws_markVectorS
  exact mark_loop mk_Vector (fun (_ : Vector) => (3 : Int)) 3 k0 a (by decide) (by omega) (fun x _ => by constructor <;> decide) hk0 (by omega) (laws_markVectorS_l1 K a) (fun k i x xs h1 h2 => by rw [laws_markVectorS_l1, ite2_dec, if_neg (by omega), chk_pos h1]) (fun k i x xs hx0 hx1 h he hi hl hg _ => by
    have w1 : IntKind.i64.wrap (x + 1) = x + 1 := by rw [wrap_in (by omega) (by omega)]
    have w2 : IntKind.i64.wrap (x + 1 + 1) = x + 2 := by rw [wrap_in (by omega) (by omega)]; omega
    have w3 : IntKind.i64.wrap (x + 2 + 1) = x + 3 := by rw [wrap_in (by omega) (by omega)]; omega
    have w0 : IntKind.i64.wrap x = x := wrap_in (by omega) (by omega)
    have w9 := wrap_nat1 (i := i) (by omega)
    have hc : 0 ≤ (i : Int) ∧ (i : Int) < (xs.length : Int) := by omega
    rw [laws_markVectorS_l1]
    simp only [Int.toNat_natCast, w9, w0, w1, w2, w3, List.length_set, bind_of, set_getD hi, List.set_set, ite2_dec, if_pos hc.2, chk_pos hc, hg]
    try rfl) K (by omega)
theorem mark_BoolS {K : Nat} {a : List Bool} {k0 : Int} (hK : a.length < K) (hs : a.length ≤ 1048576) (hk0 : 0 ≤ k0) (hk1 : k0 + 1048576 ≤ 4611686018427387904) : laws_markBoolS K a k0 = some (k0 + cnL (fun (_ : Bool) => (1 : Int)) a, mkL (fun k (_ : Bool) => ((k).tmod 3 == 0)) (fun (_ : Bool) => (1 : Int)) k0 a) := by
  unfold laws_markBoolS
  exact mark_loop (fun k (_ : Bool) => ((k).tmod 3 == 0)) (fun (_ : Bool) => (1 : Int)) 1 k0 a (by decide) (by omega) (fun x _ => by constructor <;> decide) hk0 (by omega) (laws_markBoolS_l1 K a) (fun k i x xs h1 h2 => by rw [laws_markBoolS_l1, ite2_dec, if_neg (by omega), chk_pos h1]) (fun k i x xs hx0 hx1 h he hi hl hg _ => by
    have w1 : IntKind.i64.wrap (x + 1) = x + 1 := by rw [wrap_in (by omega) (by omega)]
    have w0 : IntKind.i64.wrap x = x := wrap_in (by omega) (by omega)
    have w9 := wrap_nat1 (i := i) (by omega)
    have hc : 0 ≤ (i : Int) ∧ (i : Int) < (xs.length : Int) := by omega
    rw [laws_markBoolS_l1]
    simp only [chk_pos (show (3 : Int) ≠ 0 by decide), Int.toNat_natCast, w9, w0, w1, List.length_set, bind_of, set_getD hi, List.set_set, ite2_dec, if_pos hc.2, chk_pos hc, hg]
    try rfl) K (by omega)
theorem mark_Float32S {K : Nat} {a : List F32} {k0 : Int} (hK : a.length < K) (hs : a.length ≤ 1048576) (hk0 : 0 ≤ k0) (hk1 : k0 + 1048576 ≤ 4611686018427387904) : laws_markFloat32S K a k0 = some (k0 + cnL (fun (_ : F32) => (1 : Int)) a, mkL (fun k (_ : F32) => (Fl.ofInt .f32 (k))) (fun (_ : F32) => (1 : Int)) k0 a) := by
  unfold laws_markFloat32S
  exact mark_loop (fun k (_ : F32) => (Fl.ofInt .f32 (k))) (fun (_ : F32) => (1 : Int)) 1 k0 a (by decide) (by omega) (fun x _ => by constructor <;> decide) hk0 (by omega) (laws_markFloat32S_l1 K a) (fun k i x xs h1 h2 => by rw [laws_markFloat32S_l1, ite2_dec, if_neg (by omega), chk_pos h1]) (fun k i x xs hx0 hx1 h he hi hl hg _ => by
    have w1 : IntKind.i64.wrap (x + 1) = x + 1 := by rw [wrap_in (by omega) (by omega)]
    have w0 : IntKind.i64.wrap x = x := wrap_in (by omega) (by omega)
    have w9 := wrap_nat1 (i := i) (by omega)
    have hc : 0 ≤ (i : Int) ∧ (i : Int) < (xs.length : Int) := by omega
    rw [laws_markFloat32S_l1]
    simp only [Int.toNat_natCast, w9, w0, w1, List.length_set, bind_of, set_getD hi, List.set_set, ite2_dec, if_pos hc.2, chk_pos hc, hg]
    try rfl) K (by omega)
theorem held_VectorS {K : Nat} {a : List Vector} {k0 : Int} (hK : a.length < K) (hs : a.length ≤ 1048576) (hk0 : 0 ≤ k0) (hk1 : k0 + 3145728 ≤ 4611686018427387904) : laws_heldVectorS K (mkL mk_Vector (fun (_ : Vector) => (3 : Int)) k0 a) k0 = some (k0 + cnL (fun (_ : Vector) => (3 : Int)) a) := by
  unfold laws_heldVectorS
  exact held_loop mk_Vector (fun (_ : Vector) => (3 : Int)) 3 k0 a (by decide) (by omega) (fun x _ => by constructor <;> decide) hk0 (by omega) (laws_heldVectorS_l1 K _) (fun k i x h2 => by rw [laws_heldVectorS_l1, ite2_dec, if_neg (by rw [mkL_length]; omega)]) (fun k i x hx0 hx1 h hi hl hg _ => by
    have w1 : IntKind.i64.wrap (x + 1) = x + 1 := by rw [wrap_in (by omega) (by omega)]
    have w2 : IntKind.i64.wrap (x + 1 + 1) = x + 2 := by rw [wrap_in (by omega) (by omega)]; omega
    have w3 : IntKind.i64.wrap (x + 2 + 1) = x + 3 := by rw [wrap_in (by omega) (by omega)]; omega
    have w0 : IntKind.i64.wrap x = x := wrap_in (by omega) (by omega)
    have w9 := wrap_nat1 (i := i) (by omega)
    have hc : 0 ≤ (i : Int) ∧ (i : Int) < ((mkL mk_Vector (fun (_ : Vector) => (3 : Int)) k0 a).length : Int) := by omega
    rw [laws_heldVectorS_l1]
    simp only [Int.toNat_natCast, w9, ite2_dec, if_pos hc.2, chk_pos hc, hg, mk_Vector, w0, w1, w2, w3, ofInt_ne, ite2_false, bne_self_eq_false, beq_self_eq_true, Bool.not_true, bind_of]
    try rfl) K (by omega)
theorem held_BoolS {K : Nat} {a : List Bool} {k0 : Int} (hK : a.length < K) (hs : a.length ≤ 1048576) (hk0 : 0 ≤ k0) (hk1 : k0 + 1048576 ≤ 4611686018427387904) : laws_heldBoolS K (mkL (fun k (_ : Bool) => ((k).tmod 3 == 0)) (fun (_ : Bool) => (1 : Int)) k0 a) k0 = some (k0 + cnL (fun (_ : Bool) => (1 : Int)) a) := by
  unfold laws_heldBoolS
  exact held_loop (fun k (_ : Bool) => ((k).tmod 3 == 0)) (fun (_ : Bool) => (1 : Int)) 1 k0 a (by decide) (by omega) (fun x _ => by constructor <;> decide) hk0 (by omega) (laws_heldBoolS_l1 K _) (fun k i x h2 => by rw [laws_heldBoolS_l1, ite2_dec, if_neg (by rw [mkL_length]; omega)]) (fun k i x hx0 hx1 h hi hl hg _ => by
    have w1 : IntKind.i64.wrap (x + 1) = x + 1 := by rw [wrap_in (by omega) (by omega)]
    have w0 : IntKind.i64.wrap x = x := wrap_in (by omega) (by omega)
    have w9 := wrap_nat1 (i := i) (by omega)
    have hc : 0 ≤ (i : Int) ∧ (i : Int) < ((mkL (fun k (_ : Bool) => ((k).tmod 3 == 0)) (fun (_ : Bool) => (1 : Int)) k0 a).length : Int) := by omega
    rw [laws_heldBoolS_l1]
    simp only [chk_pos (show (3 : Int) ≠ 0 by decide), Int.toNat_natCast, w9, ite2_dec, if_pos hc.2, chk_pos hc, hg, w0, w1, ofInt_ne, ite2_false, bne_self_eq_false, beq_self_eq_true, Bool.not_true, bind_of]
    try rfl) K (by omega)
theorem held_Float32S {K : Nat} {a : List F32} {k0 : Int} (hK : a.length < K) (hs : a.length ≤ 1048576) (hk0 : 0 ≤ k0) (hk1 : k0 + 1048576 ≤ 4611686018427387904) : laws_heldFloat32S K (mkL (fun k (_ : F32) => (Fl.ofInt .f32 (k))) (fun (_ : F32) => (1 : Int)) k0 a) k0 = some (k0 + cnL (fun (_ : F32) => (1 : Int)) a) := by
  unfold laws_heldFloat32S
  exact held_loop (fun k (_ : F32) => (Fl.ofInt .f32 (k))) (fun (_ : F32) => (1 : Int)) 1 k0 a (by decide) (by omega) (fun x _ => by constructor <;> decide) hk0 (by omega) (laws_heldFloat32S_l1 K _) (fun k i x h2 => by rw [laws_heldFloat32S_l1, ite2_dec, if_neg (by rw [mkL_length]; omega)]) (fun k i x hx0 hx1 h hi hl hg _ => by
    have w1 : IntKind.i64.wrap (x + 1) = x + 1 := by rw [wrap_in (by omega) (by omega)]
    have w0 : IntKind.i64.wrap x = x := wrap_in (by omega) (by omega)
    have w9 := wrap_nat1 (i := i) (by omega)
    have hc : 0 ≤ (i : Int) ∧ (i : Int) < ((mkL (fun k (_ : F32) => (Fl.ofInt .f32 (k))) (fun (_ : F32) => (1 : Int)) k0 a).length : Int) := by omega
    rw [laws_heldFloat32S_l1]
    simp only [Int.toNat_natCast, w9, ite2_dec, if_pos hc.2, chk_pos hc, hg, w0, w1, ofInt_ne, ite2_false, bne_self_eq_false, beq_self_eq_true, Bool.not_true, bind_of]
    try rfl) K (by omega)
theorem mark_String {K : Nat} {a : String} {k0 : Int} (hK : mx_String a < K) (hs : mx_String a ≤ 1048576) (hk0 : 0 ≤ k0) (hk1 : k0 + 8388608 ≤ 4611686018427387904) : ∃ m y0 y1 y2 y3, laws_markString K a k0 = some (m, y0, y1, y2, y3) ∧ k0 ≤ m ∧ m ≤ k0 + 8388608 ∧ y0.length = a.Points.length ∧ y1.length = a.Before.length ∧ y2.length = a.Fixed.length ∧ y3.length = a.Lengths.length ∧ ∀ (z0 : Vector) (z1 : F32) (z2 : Int), laws_heldString K (String.mk y0 y1 y2 y3 z0 z1 z2) k0 = some m := by
  simp only [mx_String] at hK hs
  have b0 := cnL_bound2 (c := (fun (_ : Vector) => (3 : Int))) (B := 3) (xs := a.Points) (by decide) (by omega) (fun x hx => by constructor <;> decide)
  have e0 := mark_VectorS (K := K) (a := a.Points) (k0 := k0) (by omega) (by omega) (by omega) (by omega)
  have g0 := held_VectorS (K := K) (a := a.Points) (k0 := k0) (by omega) (by omega) (by omega) (by omega)
  have l0 := mkL_length mk_Vector (fun (_ : Vector) => (3 : Int)) a.Points (k0)
  have n0 : ¬ (k0 + cnL (fun (_ : Vector) => (3 : Int)) a.Points < 0) := by omega
  have b1 := cnL_bound2 (c := (fun (_ : Vector) => (3 : Int))) (B := 3) (xs := a.Before) (by decide) (by omega) (fun x hx => by constructor <;> decide)
  have e1 := mark_VectorS (K := K) (a := a.Before) (k0 := k0 + cnL (fun (_ : Vector) => (3 : Int)) a.Points) (by omega) (by omega) (by omega) (by omega)
  have g1 := held_VectorS (K := K) (a := a.Before) (k0 := k0 + cnL (fun (_ : Vector) => (3 : Int)) a.Points) (by omega) (by omega) (by omega) (by omega)
  have l1 := mkL_length mk_Vector (fun (_ : Vector) => (3 : Int)) a.Before (k0 + cnL (fun (_ : Vector) => (3 : Int)) a.Points)
  have n1 : ¬ (k0 + cnL (fun (_ : Vector) => (3 : Int)) a.Points + cnL (fun (_ : Vector) => (3 : Int)) a.Before < 0) := by omega
  have b2 := cnL_bound2 (c := (fun (_ : Bool) => (1 : Int))) (B := 1) (xs := a.Fixed) (by decide) (by omega) (fun x hx => by constructor <;> decide)
  have e2 := mark_BoolS (K := K) (a := a.Fixed) (k0 := k0 + cnL (fun (_ : Vector) => (3 : Int)) a.Points + cnL (fun (_ : Vector) => (3 : Int)) a.Before) (by omega) (by omega) (by omega) (by omega)
  have g2 := held_BoolS (K := K) (a := a.Fixed) (k0 := k0 + cnL (fun (_ : Vector) => (3 : Int)) a.Points + cnL (fun (_ : Vector) => (3 : Int)) a.Before) (by omega) (by omega) (by omega) (by omega)
  have l2 := mkL_length (fun k (_ : Bool) => ((k).tmod 3 == 0)) (fun (_ : Bool) => (1 : Int)) a.Fixed (k0 + cnL (fun (_ : Vector) => (3 : Int)) a.Points + cnL (fun (_ : Vector) => (3 : Int)) a.Before)
  have n2 : ¬ (k0 + cnL (fun (_ : Vector) => (3 : Int)) a.Points + cnL (fun (_ : Vector) => (3 : Int)) a.Before + cnL (fun (_ : Bool) => (1 : Int)) a.Fixed < 0) := by omega
  have b3 := cnL_bound2 (c := (fun (_ : F32) => (1 : Int))) (B := 1) (xs := a.Lengths) (by decide) (by omega) (fun x hx => by constructor <;> decide)
  have e3 := mark_Float32S (K := K) (a := a.Lengths) (k0 := k0 + cnL (fun (_ : Vector) => (3 : Int)) a.Points + cnL (fun (_ : Vector) => (3 : Int)) a.Before + cnL (fun (_ : Bool) => (1 : Int)) a.Fixed) (by omega) (by omega) (by omega) (by omega)
  have g3 := held_Float32S (K := K) (a := a.Lengths) (k0 := k0 + cnL (fun (_ : Vector) => (3 : Int)) a.Points + cnL (fun (_ : Vector) => (3 : Int)) a.Before + cnL (fun (_ : Bool) => (1 : Int)) a.Fixed) (by omega) (by omega) (by omega) (by omega)
  have l3 := mkL_length (fun k (_ : F32) => (Fl.ofInt .f32 (k))) (fun (_ : F32) => (1 : Int)) a.Lengths (k0 + cnL (fun (_ : Vector) => (3 : Int)) a.Points + cnL (fun (_ : Vector) => (3 : Int)) a.Before + cnL (fun (_ : Bool) => (1 : Int)) a.Fixed)
  have n3 : ¬ (k0 + cnL (fun (_ : Vector) => (3 : Int)) a.Points + cnL (fun (_ : Vector) => (3 : Int)) a.Before + cnL (fun (_ : Bool) => (1 : Int)) a.Fixed + cnL (fun (_ : F32) => (1 : Int)) a.Lengths < 0) := by omega
  refine ⟨k0 + cnL (fun (_ : Vector) => (3 : Int)) a.Points + cnL (fun (_ : Vector) => (3 : Int)) a.Before + cnL (fun (_ : Bool) => (1 : Int)) a.Fixed + cnL (fun (_ : F32) => (1 : Int)) a.Lengths, (mkL mk_Vector (fun (_ : Vector) => (3 : Int)) (k0) a.Points), (mkL mk_Vector (fun (_ : Vector) => (3 : Int)) (k0 + cnL (fun (_ : Vector) => (3 : Int)) a.Points) a.Before), (mkL (fun k (_ : Bool) => ((k).tmod 3 == 0)) (fun (_ : Bool) => (1 : Int)) (k0 + cnL (fun (_ : Vector) => (3 : Int)) a.Points + cnL (fun (_ : Vector) => (3 : Int)) a.Before) a.Fixed), (mkL (fun k (_ : F32) => (Fl.ofInt .f32 (k))) (fun (_ : F32) => (1 : Int)) (k0 + cnL (fun (_ : Vector) => (3 : Int)) a.Points + cnL (fun (_ : Vector) => (3 : Int)) a.Before + cnL (fun (_ : Bool) => (1 : Int)) a.Fixed) a.Lengths), ?_, by omega, by omega, l0, l1, l2, l3, ?_⟩
  · unfold laws_markString
    simp only [e0, l0, e1, l1, e2, l2, e3, l3, bind_of, chk_pos]
  · intro z0 z1 z2
    unfold laws_heldString
    simp only [g0, if_neg n0, g1, if_neg n1, g2, if_neg n2, g3, if_neg n3, bind_of, ite2_dec]

end Go.Fw
