/- The angle of a turn, in plain Lean: both programs tell one number. -/
import Derived.Test.YteehipecgmfeiaaGreatFwTCLaw
import Derived.Test.YteehipecgmfeiaaGreatFwFC
namespace Go.Fw
open Go

/-! The series and the halving are the same loops. -/
theorem ang_l2 (K : Nat) (a0 a1 v1 v3 x : F64) : ∀ (k : Nat) (y : F64) (i : Int), spec_l01AngleWide_l2 K a0 a1 v1 v3 x k y i = impl_wideAngle_l2 K a0 a1 v1 v3 x k y i := by
  intro k
  induction k with
  | zero => intro y i; rfl
  | succ k ih => intro y i; rw [spec_l01AngleWide_l2, impl_wideAngle_l2, ih]
theorem ang_l4 (K : Nat) (a0 a1 v1 v3 x : F64) : ∀ (k : Nat) (y : F64) (i : Int), spec_l01AngleWide_l4 K a0 a1 v1 v3 x k y i = impl_wideAngle_l2 K a0 a1 v1 v3 x k y i := by
  intro k
  induction k with
  | zero => intro y i; rfl
  | succ k ih => intro y i; rw [spec_l01AngleWide_l4, impl_wideAngle_l2, ih]
theorem ang_i4 (K : Nat) (a0 a1 v1 v3 x : F64) : ∀ (k : Nat) (y : F64) (i : Int), impl_wideAngle_l4 K a0 a1 v1 v3 x k y i = impl_wideAngle_l2 K a0 a1 v1 v3 x k y i := by
  intro k
  induction k with
  | zero => intro y i; rfl
  | succ k ih => intro y i; rw [impl_wideAngle_l4, impl_wideAngle_l2, ih]
theorem ang_l1 (K : Nat) (a0 a1 v1 v3 : F64) : ∀ (k : Nat) (x : F64) (i : Int), spec_l01AngleWide_l1 K a0 a1 v1 v3 k x i = impl_wideAngle_l1 K a0 a1 v1 v3 k x i := by
  intro k
  induction k with
  | zero => intro x i; rfl
  | succ k ih => intro x i; rw [spec_l01AngleWide_l1, impl_wideAngle_l1, ang_l2]; simp only [ih]
theorem ang_l3 (K : Nat) (a0 a1 v1 v3 : F64) : ∀ (k : Nat) (x : F64) (i : Int), spec_l01AngleWide_l3 K a0 a1 v1 v3 k x i = impl_wideAngle_l1 K a0 a1 v1 v3 k x i := by
  intro k
  induction k with
  | zero => intro x i; rfl
  | succ k ih => intro x i; rw [spec_l01AngleWide_l3, impl_wideAngle_l1, ang_l4]; simp only [ih]
theorem ang_i3 (K : Nat) (a0 a1 v1 v3 : F64) : ∀ (k : Nat) (x : F64) (i : Int), impl_wideAngle_l3 K a0 a1 v1 v3 k x i = impl_wideAngle_l1 K a0 a1 v1 v3 k x i := by
  intro k
  induction k with
  | zero => intro x i; rfl
  | succ k ih => intro x i; rw [impl_wideAngle_l3, impl_wideAngle_l1, ang_i4]; simp only [ih]

/-! The angle may be narrowed. -/
def OkA (o : Option F64) : Prop := ∃ v, o = some v ∧ Sm v 126
theorem OkA.ite {b : Bool} {p q : Option F64} (h1 : OkA p) (h2 : OkA q) : OkA (ite2 b p q) := by
  cases b
  · exact h2
  · exact h1
theorem OkA.of {v : F64} {n : Int} (h : Sm v n) (hn : n ≤ 126) : OkA (some v) := ⟨v, rfl, h.mono hn⟩
theorem one_read : Ieee.double.read (Fl.mk (k := .f64) 4607182418800017408 (by decide)).bits = .number false 4503599627370496 (-52) := by decide
theorem one_sm : Sm (Fl.mk (k := .f64) 4607182418800017408 (by decide)) 1 := .of (by decide)
theorem ang_end {x y e : F64} (hx : Sm x 5) (hy : Sm y 102) (he : ((Fl.mk (k := .f64) 4620693217682128896 (by decide)).mul (x.mul y)).div (Fl.mk (k := .f64) 4618760256179416344 (by decide)) = e) : Sm e 114 := by
  subst he
  have a := Sm.mul hx hy (by omega) (by omega)
  have b := Sm.mul (x := Fl.mk (k := .f64) 4620693217682128896 (by decide)) (a := 4) (.of (by decide)) a (by omega) (by omega)
  exact (Sm.div (y := Fl.mk (k := .f64) 4618760256179416344 (by decide)) b (.of (by decide)) (by omega) (by omega)).mono (by omega)
theorem ang_ok2 (K : Nat) (a0 a1 v1 v3 x : F64) (hx : Sm x 5) : ∀ (n k : Nat) (y : F64), n ≤ 8 → n < k → Sm y (102 - 14 * (n : Int)) → OkA (impl_wideAngle_l2 K a0 a1 v1 v3 x k y (2 * (n : Int) - 1)) := by
  intro n
  induction n with
  | zero =>
    intro k y _ hk hy
    obtain ⟨k, rfl⟩ : ∃ j, k = j + 1 := ⟨k - 1, by omega⟩
    rw [impl_wideAngle_l2, ite2_dec, if_neg (by omega)]
    generalize he : ((Fl.mk (k := .f64) 4620693217682128896 (by decide)).mul (x.mul y)).div (Fl.mk (k := .f64) 4618760256179416344 (by decide)) = e
    have e1 := ang_end hx (hy.mono (by omega)) he
    have q1 : Sm (Fl.mk (k := .f64) 4598175219545276416 (by decide)) 114 := .of (by decide)
    have q2 : Sm (Fl.mk (k := .f64) 4602678819172646912 (by decide)) 114 := .of (by decide)
    have s1 := Sm.sub q1 e1 (by omega) (by omega)
    have s2 := Sm.sub q2 e1 (by omega) (by omega)
    have s3 := Sm.sub (a := 116) (q2.mono (by omega)) s1 (by omega) (by omega)
    refine .ite (.ite (.ite (.of s3.neg (by omega)) (.of s3 (by omega))) (.ite (.of s1.neg (by omega)) (.of s1 (by omega)))) (.ite (.ite (.of s2.neg (by omega)) (.of s2 (by omega))) (.ite (.of e1.neg (by omega)) (.of e1 (by omega))))
  | succ n ih =>
    intro k y hn hk hy
    obtain ⟨k, rfl⟩ : ∃ j, k = j + 1 := ⟨k - 1, by omega⟩
    rw [impl_wideAngle_l2, ite2_dec, if_pos (by omega)]
    have hw : IntKind.i64.wrap (2 * ((n + 1 : Nat) : Int) - 1 - 2) = 2 * (n : Int) - 1 := by rw [wrap_in (by omega) (by omega)]; omega
    rw [hw]
    refine ih k _ (by omega) (by omega) ?_
    have := Sm.series one_sm hx (n := n + 1) (by omega) (by omega) hy
    exact this.mono (by omega)
theorem ang_ok1 (K : Nat) (hK : 8 < K) (a0 a1 v1 v3 : F64) : ∀ (n k : Nat) (x : F64), n ≤ 3 → n < k → Sm x (5 - (n : Int)) → OkA (impl_wideAngle_l1 K a0 a1 v1 v3 k x (3 - (n : Int))) := by
  intro n
  induction n with
  | zero =>
    intro k x _ hk hx
    obtain ⟨k, rfl⟩ : ∃ j, k = j + 1 := ⟨k - 1, by omega⟩
    rw [impl_wideAngle_l1, ite2_dec, if_neg (by omega)]
    exact ang_ok2 K a0 a1 v1 v3 x (hx.mono (by omega)) 8 K _ (by omega) (by omega) (.of (by decide))
  | succ n ih =>
    intro k x hn hk hx
    obtain ⟨k, rfl⟩ : ∃ j, k = j + 1 := ⟨k - 1, by omega⟩
    rw [impl_wideAngle_l1, ite2_dec, if_pos (by omega)]
    have hw : IntKind.i64.wrap (3 - ((n + 1 : Nat) : Int) + 1) = 3 - (n : Int) := by rw [wrap_in (by omega) (by omega)]; omega
    rw [hw]
    unfold math_Sqrt math_sqrt
    rw [bind_of, bind_of]
    refine ih k _ (by omega) (by omega) ?_
    exact (Sm.half one_read one_sm (by omega) (by omega) hx).mono (by omega)
theorem ang_ok (K : Nat) (hK : 16 < K) {x y : F64} {s t : Bool} {m n : Nat} {i j : Int} (ex : Ieee.double.read x.bits = .number s m i) (ey : Ieee.double.read y.bits = .number t n j) (hz : ¬ (m = 0 ∧ n = 0)) : OkA (impl_wideAngle K x y) := by
  unfold impl_wideAngle math_Abs
  rw [bind_of, bind_of, ang_i3]
  cases h : x.abs.gt y.abs
  · exact ang_ok1 K (by omega) x y _ _ 3 K _ (by omega) (by omega) (quot_not ex ey hz h)
  · exact ang_ok1 K (by omega) x y _ _ 3 K _ (by omega) (by omega) (quot_gt ex ey h)

/-! Both angles. -/
theorem nan_some (K : Nat) : math_NaN K = some (Fl.nan .f64) := by
  unfold math_NaN math_Float64frombits
  have : Fl.ofBits .f64 (9221120237041090561 : Int) = some (Fl.nan .f64) := by decide
  rw [this, bind_of]
theorem isfin (K : Nat) (x : F32) : impl_IsFinite K x = some (numD (Ieee.single.read x.bits)) := by
  unfold impl_IsFinite
  rw [sub_self .f32 x _ rfl]; rfl
theorem num_ex {d : Ieee.Datum} (h : numD d = true) : ∃ s m i, d = .number s m i := by
  cases d with
  | number s m i => exact ⟨s, m, i, rfl⟩
  | infinity s => cases h
  | nan s t => cases h
theorem angle_eq (K : Nat) (hK : 16 < K) (a0 a1 : F32) : ∃ r, spec_l01Angle K a0 a1 = some r ∧ impl_AngleTurns K a0 a1 = some r := by
  have f0 := (wide_num a0).1
  have f1 := (wide_num a1).1
  have z0 := (wide_num a0).2
  have z1 := (wide_num a1).2
  unfold spec_l01Angle impl_AngleTurns spec_l01AngleWide
  rw [isfin, isfin, bind_of, ne_not, ne_not, sub_self .f64 _ _ rfl, sub_self .f64 _ _ rfl, eq_zero .f64 _ _ rfl, eq_zero .f64 _ _ rfl, eq_zero .f32 _ _ rfl, eq_zero .f32 _ _ rfl]
  simp only [FloatKind.format] at *
  rw [f0, f1, z0, z1]
  unfold impl_notNumber spec_l01Narrow
  simp only [nan_some, bind_of]
  have c1 : (convBits .f64 (Fl.nan .f64).bits .f32).isSome = true := by decide
  have c2 : (convBits .f64 (Fl.mk (k := .f64) 0 (by decide)).bits .f32).isSome = true := by decide
  have c3 : Fl.cv .f64 .f32 (Fl.mk (k := .f64) 0 (by decide)) = Fl.mk (k := .f32) 0 (by decide) := by decide
  cases g0 : numD (Ieee.single.read a0.bits) <;> cases g1 : numD (Ieee.single.read a1.bits) <;> simp only [Bool.not_true, Bool.not_false, ite2_true, ite2_false, bind_of, chk_pos c1]
  · exact ⟨_, rfl, rfl⟩
  · exact ⟨_, rfl, rfl⟩
  · exact ⟨_, rfl, rfl⟩
  · by_cases hz : zeroD (Ieee.single.read a1.bits) = true ∧ zeroD (Ieee.single.read a0.bits) = true
    · rw [hz.1, hz.2]
      simp only [ite2_true, bind_of, chk_pos c2, c3]
      exact ⟨_, rfl, rfl⟩
    · have hj : ite2 (zeroD (Ieee.single.read a1.bits)) (some (zeroD (Ieee.single.read a0.bits))) (some false) = some false := by
        cases h1 : zeroD (Ieee.single.read a1.bits)
        · rfl
        · cases h0 : zeroD (Ieee.single.read a0.bits)
          · rfl
          · exact absurd ⟨h1, h0⟩ hz
      rw [hj]
      simp only [bind_of, ite2_false]
      rw [g0] at f0
      rw [g1] at f1
      obtain ⟨s, m, i, e0⟩ := num_ex f0
      obtain ⟨t, n, j, e1⟩ := num_ex f1
      obtain ⟨v, hv, hs⟩ := ang_ok K hK e0 e1 (fun c => hz (by rw [← z1, ← z0, e0, e1, c.1, c.2]; exact ⟨rfl, rfl⟩))
      have hsp : ((math_Abs K (Fl.cv .f32 .f64 a0)).bind fun v11 => (math_Abs K (Fl.cv .f32 .f64 a1)).bind fun v13 => ite2 ((v11.gt v13)) (spec_l01AngleWide_l1 K (Fl.cv .f32 .f64 a0) (Fl.cv .f32 .f64 a1) v11 v13 K (v13.div v11) (0 : Int)) (spec_l01AngleWide_l3 K (Fl.cv .f32 .f64 a0) (Fl.cv .f32 .f64 a1) v11 v13 K (v11.div v13) (0 : Int))) = some v := by
        rw [← hv]
        unfold impl_wideAngle
        simp only [ang_l1, ang_l3, ang_i3]
      rw [hsp, hv, bind_of, bind_of, chk_pos (narrow_ok (.inl hs)), bind_of]
      exact ⟨_, rfl, rfl⟩

/-! The size of a number. -/
theorem ne_self {k : FloatKind} (x : Fl k) : x.ne x = nanB k x.bits := by
  show (k.format.order x.bits x.bits != some .eq) = _
  unfold Ieee.Format.order nanB
  cases h : k.format.read x.bits with
  | number s m i => simp [Ieee.Datum.order, Ieee.Datum.isNaN]
  | infinity s => simp [Ieee.Datum.order, Ieee.Datum.isNaN]
  | nan s t => simp [Ieee.Datum.order, Ieee.Datum.isNaN]
theorem andNot_31 {b : Nat} (hb : b < 4294967296) : bits .andNot .i64 (b : Int) 2147483648 = ((b % 2147483648 : Nat) : Int) := by
  have : bits .andNot .i64 (b : Int) 2147483648 = IntKind.i64.wrap (((BitVec.ofNat 64 b &&& ~~~ (BitVec.ofNat 64 2147483648)).toNat : Nat) : Int) := by
    have hb : (BitVec.ofInt 64 (b : Int)) = BitVec.ofNat 64 b := by simp
    rw [← hb]; rfl
  rw [this]
  have e : (BitVec.ofNat 64 b &&& ~~~ (BitVec.ofNat 64 2147483648)) = BitVec.ofNat 64 (b % 2147483648) := by
    apply BitVec.eq_of_getLsbD_eq
    intro j hj
    simp only [BitVec.getLsbD_and, BitVec.getLsbD_not, BitVec.getLsbD_ofNat, hj, decide_true, Bool.true_and]
    have e2 : (2147483648 : Nat) = 2 ^ 31 := by decide
    rw [e2, Nat.testBit_mod_two_pow, Nat.testBit_two_pow]
    by_cases hj2 : j < 31
    · have : ¬ (31 = j) := by omega
      simp [hj2, this]
    · by_cases hj3 : j = 31
      · subst hj3
        simp
      · have h3 : b.testBit j = false := Nat.testBit_lt_two_pow (Nat.lt_of_lt_of_le hb (by
          have : 2 ^ 32 ≤ 2 ^ j := Nat.pow_le_pow_right (by omega) (by omega)
          exact this))
        simp [h3, hj2]
  rw [e, BitVec.toNat_ofNat]
  have h3 : b % 2147483648 < 2147483648 := Nat.mod_lt _ (by omega)
  rw [Nat.mod_eq_of_lt (by omega), wrap_in (by omega) (by omega)]
theorem size_impl (K : Nat) (x : F32) : impl_size K x = some x.abs32 := by
  unfold impl_size math_Abs
  rw [bind_of, chk_pos (by rw [narrow_abs]; rfl), cv_abs]
theorem size_spec (K : Nat) (x : F32) : spec_l02Size K x = some x.abs32 := by
  have hl : x.bits < 4294967296 := x.lt
  have hr : x.bits % 2147483648 < 2147483648 := Nat.mod_lt _ (by omega)
  unfold spec_l02Size spec_l01Bits spec_l01From math_Float32bits math_Float32frombits Fl.toBits
  rw [ne_self]
  cases h : nanB .f32 x.bits
  · simp only [ite2_false, Bool.false_eq_true, if_false, bind_of]
    rw [wrap_in (by omega) (by omega), andNot_31 hl]
    have hw : IntKind.u32.wrap ((x.bits % 2147483648 : Nat) : Int) = ((x.bits % 2147483648 : Nat) : Int) := by
      have : ∀ n : Int, IntKind.u32.wrap n = n % 4294967296 := fun n => by simp [IntKind.wrap, IntKind.bits, IntKind.signed]
      rw [this]; omega
    rw [hw]
    have ho : Fl.ofBits .f32 ((x.bits % 2147483648 : Nat) : Int) = some x.abs32 := by
      unfold Fl.ofBits
      rw [dif_pos ⟨by omega, by rw [Int.toNat_natCast]; exact abs32_lt _⟩]
      congr 1
    rw [ho, bind_of, bind_of]
  · rw [ite2_true, bind_of]
    have hb := nan_bits h
    have e : x = ⟨nanBits .f32, okF_nanBits .f32⟩ := Fl.ext hb
    rw [e]
    decide

/-! Turns that are apart. -/
theorem sqrt_impl (K : Nat) (x : F32) : impl_RootNumber K x = some (Fl.cv .f64 .f32 (Fl.cv .f32 .f64 x).sqrt) := by
  unfold impl_RootNumber math_Sqrt math_sqrt
  simp only [bind_of, chk_pos (narrow_root x)]
theorem sqrt_spec (K : Nat) (x : F32) : spec_l01Sqrt K x = some (Fl.cv .f64 .f32 (Fl.cv .f32 .f64 x).sqrt) := by
  unfold spec_l01Sqrt math_Sqrt math_sqrt spec_l01Narrow
  simp only [bind_of, chk_pos (narrow_root x)]
def apartF (K : Nat) (a b : Turn) : F32 := (impl_ApartTurns K a b).getD default
theorem apart_both {K : Nat} (hK : 16 < K) (a b : Turn) : ∃ r, spec_l02Apart K a b = some r ∧ impl_ApartTurns K a b = some r := by
  unfold spec_l02Apart impl_ApartTurns spec_l02Inverse impl_InverseOf spec_l02Mul impl_MulTurns
  simp only [bind_of]
  unfold spec_l02Angle impl_AngleOf spec_l02Axis impl_Turn_vector spec_l01Long impl_LongOf spec_l01Inner impl_InnerOf
  simp only [bind_of, sqrt_impl, sqrt_spec, size_impl, size_spec]
  obtain ⟨r, h1, h2⟩ := angle_eq K hK (Fl.cv .f64 .f32 (Fl.cv .f32 .f64 (((((((a.W.mul b.X).add (a.X.neg.mul b.W)).add (a.Y.neg.mul b.Z)).sub (a.Z.neg.mul b.Y)).mul ((((a.W.mul b.X).add (a.X.neg.mul b.W)).add (a.Y.neg.mul b.Z)).sub (a.Z.neg.mul b.Y))).add (((((a.W.mul b.Y).sub (a.X.neg.mul b.Z)).add (a.Y.neg.mul b.W)).add (a.Z.neg.mul b.X)).mul ((((a.W.mul b.Y).sub (a.X.neg.mul b.Z)).add (a.Y.neg.mul b.W)).add (a.Z.neg.mul b.X)))).add (((((a.W.mul b.Z).add (a.X.neg.mul b.Y)).sub (a.Y.neg.mul b.X)).add (a.Z.neg.mul b.W)).mul ((((a.W.mul b.Z).add (a.X.neg.mul b.Y)).sub (a.Y.neg.mul b.X)).add (a.Z.neg.mul b.W))))).sqrt) (((((a.W.mul b.W).sub (a.X.neg.mul b.X)).sub (a.Y.neg.mul b.Y)).sub (a.Z.neg.mul b.Z))).abs32
  rw [h1, h2]
  exact ⟨_, rfl, rfl⟩
theorem apart_impl {K : Nat} (hK : 16 < K) (a b : Turn) : impl_ApartTurns K a b = some (apartF K a b) := by
  obtain ⟨r, _, h2⟩ := apart_both hK a b
  unfold apartF; rw [h2]; rfl
theorem apart_spec {K : Nat} (hK : 16 < K) (a b : Turn) : spec_l02Apart K a b = some (apartF K a b) := by
  obtain ⟨r, h1, h2⟩ := apart_both hK a b
  unfold apartF; rw [h1, h2]; rfl

end Go.Fw
