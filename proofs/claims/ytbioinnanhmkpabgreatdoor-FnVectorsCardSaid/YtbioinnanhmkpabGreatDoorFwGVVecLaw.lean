/- The law of vectors, in plain Lean. -/
import Derived.Test.YtbioinnanhmkpabGreatDoorFwGVTxRead
import Derived.Test.YtbioinnanhmkpabGreatDoorFwGVSrcLaw
import Derived.Test.YtbioinnanhmkpabGreatDoorFwGVSameLaw
import Derived.Test.YtbioinnanhmkpabGreatDoorFwFB
import Derived.Test.YtbioinnanhmkpabGreatDoorFwFD
namespace Go.Fw
open Go

/-! Exact numbers with bounds. -/
def Db (B : Nat) (n : Int) (x : F32) : Prop := Dy 0 n x ∧ n.natAbs ≤ B
theorem Db.mul {B C : Nat} {a b : Int} {x y : F32} (hx : Db B a x) (hy : Db C b y) (hn : B * C < 16777216) : Db (B * C) (a * b) (x.mul y) := by
  have h : (a * b).natAbs ≤ B * C := by rw [Int.natAbs_mul]; exact Nat.mul_le_mul hx.2 hy.2
  exact ⟨hx.1.mul hy.1 (by omega) (by decide), h⟩
theorem Db.add {B C : Nat} {a b : Int} {x y : F32} (hx : Db B a x) (hy : Db C b y) (hn : B + C < 16777216) : Db (B + C) (a + b) (x.add y) := by
  have h1 := hx.2; have h2 := hy.2
  exact ⟨hx.1.add hy.1 (by omega) (by decide), by omega⟩
theorem Db.sub {B C : Nat} {a b : Int} {x y : F32} (hx : Db B a x) (hy : Db C b y) (hn : B + C < 16777216) : Db (B + C) (a - b) (x.sub y) := by
  have h1 := hx.2; have h2 := hy.2
  exact ⟨hx.1.sub hy.1 (by omega) (by decide), by omega⟩
abbrev V3 := Int × Int × Int
structure Vb (B : Nat) (q : V3) (v : Vector) : Prop where
  x : Db B q.1 v.X
  y : Db B q.2.1 v.Y
  z : Db B q.2.2 v.Z
def plusF (a b : Vector) : Vector := Vector.mk (a.X.add b.X) (a.Y.add b.Y) (a.Z.add b.Z)
def lessF (a b : Vector) : Vector := Vector.mk (a.X.sub b.X) (a.Y.sub b.Y) (a.Z.sub b.Z)
def timesF (a : Vector) (x : F32) : Vector := Vector.mk (a.X.mul x) (a.Y.mul x) (a.Z.mul x)
def crossF (a b : Vector) : Vector := Vector.mk ((a.Y.mul b.Z).sub (a.Z.mul b.Y)) ((a.Z.mul b.X).sub (a.X.mul b.Z)) ((a.X.mul b.Y).sub (a.Y.mul b.X))
def innF (a b : Vector) : F32 := ((a.X.mul b.X).add (a.Y.mul b.Y)).add (a.Z.mul b.Z)
theorem plus_impl (K : Nat) (a b : Vector) : impl_AddVectors K a b = some (plusF a b) := rfl
theorem less_impl (K : Nat) (a b : Vector) : impl_LessVectors K a b = some (lessF a b) := rfl
theorem times_impl (K : Nat) (a : Vector) (x : F32) : impl_ScaleVector K a x = some (timesF a x) := rfl
theorem cross_impl (K : Nat) (a b : Vector) : impl_CrossOf K a b = some (crossF a b) := rfl
theorem inn_impl (K : Nat) (a b : Vector) : impl_InnerOf K a b = some (innF a b) := rfl
theorem square_eq (K : Nat) (a : Vector) : laws_b10Square K a = some (innF a a) := rfl
theorem between_impl (K : Nat) (a b : Vector) (s : F32) : impl_BetweenVectors K a b s = some (plusF a (timesF (lessF b a) s)) := rfl
theorem Vb.plus {B C : Nat} {p q : V3} {u v : Vector} (hu : Vb B p u) (hv : Vb C q v) (h : B + C < 16777216) : Vb (B + C) (p.1 + q.1, p.2.1 + q.2.1, p.2.2 + q.2.2) (plusF u v) := ⟨hu.x.add hv.x h, hu.y.add hv.y h, hu.z.add hv.z h⟩
theorem Vb.less {B C : Nat} {p q : V3} {u v : Vector} (hu : Vb B p u) (hv : Vb C q v) (h : B + C < 16777216) : Vb (B + C) (p.1 - q.1, p.2.1 - q.2.1, p.2.2 - q.2.2) (lessF u v) := ⟨hu.x.sub hv.x h, hu.y.sub hv.y h, hu.z.sub hv.z h⟩
theorem Vb.times {B C : Nat} {p : V3} {n : Int} {u : Vector} {x : F32} (hu : Vb B p u) (hx : Db C n x) (h : B * C < 16777216) : Vb (B * C) (p.1 * n, p.2.1 * n, p.2.2 * n) (timesF u x) := ⟨hu.x.mul hx h, hu.y.mul hx h, hu.z.mul hx h⟩
theorem Vb.cross {B C : Nat} {p q : V3} {u v : Vector} (hu : Vb B p u) (hv : Vb C q v) (h : B * C + B * C < 16777216) : Vb (B * C + B * C) (p.2.1 * q.2.2 - p.2.2 * q.2.1, p.2.2 * q.1 - p.1 * q.2.2, p.1 * q.2.1 - p.2.1 * q.1) (crossF u v) :=
  ⟨(hu.y.mul hv.z (by omega)).sub (hu.z.mul hv.y (by omega)) h, (hu.z.mul hv.x (by omega)).sub (hu.x.mul hv.z (by omega)) h, (hu.x.mul hv.y (by omega)).sub (hu.y.mul hv.x (by omega)) h⟩
theorem Vb.inn {B C : Nat} {p q : V3} {u v : Vector} (hu : Vb B p u) (hv : Vb C q v) (h : B * C + B * C + B * C < 16777216) : Db (B * C + B * C + B * C) (p.1 * q.1 + p.2.1 * q.2.1 + p.2.2 * q.2.2) (innF u v) :=
  ((hu.x.mul hv.x (by omega)).add (hu.y.mul hv.y (by omega)) (by omega)).add (hu.z.mul hv.z (by omega)) h
theorem Vb.same {K B C : Nat} {p q : V3} {u v : Vector} (hu : Vb B p u) (hv : Vb C q v) (h : p.1 = q.1 ∧ p.2.1 = q.2.1 ∧ p.2.2 = q.2.2) : laws_b10VEqual K u v = some true := by
  unfold laws_b10VEqual
  rw [hu.x.1.eq hv.x.1, decide_eq_true h.1, ite2_true, hu.y.1.eq hv.y.1, decide_eq_true h.2.1, ite2_true, hu.z.1.eq hv.z.1, decide_eq_true h.2.2, bind_of]
theorem one_db : Db 1 1 (Fl.mk (k := .f32) 1065353216 (by decide)) := by
  have e : Ieee.single.read (Fl.mk (k := .f32) 1065353216 (by decide)).bits = .number false 8388608 (-23) := by decide
  exact ⟨⟨false, 8388608, -23, e, 0, 23, by omega, by decide⟩, by decide⟩
theorem two_db : Db 2 2 (Fl.mk (k := .f32) 1073741824 (by decide)) := by
  have e : Ieee.single.read (Fl.mk (k := .f32) 1073741824 (by decide)).bits = .number false 8388608 (-22) := by decide
  exact ⟨⟨false, 8388608, -22, e, 0, 22, by omega, by decide⟩, by decide⟩
theorem mone_db : Db 1 (-1) (Fl.mk (k := .f32) 3212836864 (by decide)) := by
  have e : Ieee.single.read (Fl.mk (k := .f32) 3212836864 (by decide)).bits = .number true 8388608 (-23) := by decide
  exact ⟨⟨true, 8388608, -23, e, 0, 23, by omega, by decide⟩, by decide⟩
theorem zero_db : Db 0 0 (Fl.mk (k := .f32) 0 (by decide)) := ⟨(Dz.of_zero (x := (Fl.mk (k := .f32) 0 (by decide))) rfl 0).1, by decide⟩
theorem ne_not' {x y : F32} : x.ne y = !x.eq y := rfl
theorem across (a b c d e f : Int) : (b * f - c * e) * a + (c * d - a * f) * b + (a * e - b * d) * c = 0 ∧ (b * f - c * e) * d + (c * d - a * f) * e + (a * e - b * d) * f = 0 := by
  simp only [Int.sub_mul]
  have h1 : b * f * a = a * b * f := by ac_rfl
  have h2 : a * f * b = a * b * f := by ac_rfl
  have h3 : c * e * a = a * c * e := by ac_rfl
  have h4 : a * e * c = a * c * e := by ac_rfl
  have h5 : c * d * b = b * c * d := by ac_rfl
  have h6 : b * d * c = b * c * d := by ac_rfl
  have k1 : b * f * d = b * d * f := by ac_rfl
  have k2 : c * e * d = c * d * e := by ac_rfl
  have k3 : a * f * e = a * e * f := by ac_rfl
  rw [h1, h2, h3, h4, h5, h6, k1, k2, k3]
  omega
theorem vec_drawn {K : Nat} {c : List Int} (hc : Byt c) : ∃ v q, spec_B10Vector K c 50 = some v ∧ Vb 50 q v := by
  have w : IntKind.i64.wrap (IntKind.i64.wrap ((2 : Int) * 50) + 1) = 101 := by decide
  obtain ⟨r1, a1, s1, e1, p1, q1, q2⟩ := pick_dr (K := K) hc 0 0 101 (by omega) (by omega)
  obtain ⟨r2, a2, s2, e2, p2, q3, q4⟩ := pick_dr (K := K) hc a1 s1 101 q1 (by omega)
  obtain ⟨r3, a3, s3, e3, p3, q5, q6⟩ := pick_dr (K := K) hc a2 s2 101 q3 (by omega)
  refine ⟨Vector.mk (Fl.ofInt .f32 (r1 - 50)) (Fl.ofInt .f32 (r2 - 50)) (Fl.ofInt .f32 (r3 - 50)), (r1 - 50, r2 - 50, r3 - 50), ?_, ?_⟩
  · unfold spec_B10Vector
    rw [w, e1, bind_of, e2, bind_of, e3, bind_of, wrap_in (by omega) (by omega), wrap_in (by omega) (by omega), wrap_in (by omega) (by omega)]
  · exact ⟨(⟨Dy.ofInt (by omega), by omega⟩ : Db 50 (r1 - 50) (Fl.ofInt .f32 (r1 - 50))), (⟨Dy.ofInt (by omega), by omega⟩ : Db 50 (r2 - 50) (Fl.ofInt .f32 (r2 - 50))), (⟨Dy.ofInt (by omega), by omega⟩ : Db 50 (r3 - 50) (Fl.ofInt .f32 (r3 - 50)))⟩
theorem root_same (K : Nat) (x : F32) : ∃ y, impl_RootNumber K x = some y ∧ spec_RootNumber K x = some y := by
  unfold impl_RootNumber spec_RootNumber spec_l01Sqrt math_Sqrt math_sqrt spec_l01Narrow
  simp only [bind_of, chk_pos (narrow_root x)]
  exact ⟨_, rfl, rfl⟩
theorem specbits_some (K : Nat) (x : F32) : ∃ n, spec_l01Bits K x = some n := by
  unfold spec_l01Bits math_Float32bits
  cases h : x.ne x
  · rw [ite2_false, bits_of x h, bind_of]; exact ⟨_, rfl⟩
  · exact ⟨_, rfl⟩
theorem same_refl (K : Nat) (x : F32) : spec_SameNumber K x x = some true := by
  obtain ⟨n, hn⟩ := specbits_some K x
  unfold spec_SameNumber spec_l01Same
  rw [hn, bind_of, bind_of, bind_of, beq_self_eq_true]
theorem sameV_refl (K : Nat) (v : Vector) : impl_SameVector K v v = some true := by
  have s : ∀ x : F32, impl_SameNumber K x x = some true := fun x => by rw [same_impl, beq_self_eq_true]
  unfold impl_SameVector
  rw [s, bind_of, ite2_true, s, bind_of, ite2_true, s]; rfl
theorem read_vec {K : Nat} (hK : 300 < K) (v : Vector) : ∃ t, impl_VectorText K v = some t ∧ t.size = 26 ∧ impl_ReadVector K t = some (v, true) := by
  refine ⟨ofL (nt [v.X, v.Y, v.Z]), ?_, ?_, ?_⟩
  · unfold impl_VectorText
    rw [impl_nt (by show 3 ≤ _; omega) (by show 3 < K; omega)]; rfl
  · rw [size_ofL, nt, List.length_append, h8_length, tailT_length]; rfl
  · unfold impl_ReadVector
    rw [read_nt (by show 3 ≤ _; omega) hK, bind_of, Bool.not_true, ite2_false, bind_of, show ((([v.X, v.Y, v.Z].length : Nat) : Int) != 3) = false from rfl, ite2_false, chk_pos (by simp), chk_pos (by simp), chk_pos (by simp)]
    rfl
theorem vec_law {K : Nat} (hK : 1000 < K) {a0 a1 : List Int} (h0 : Byt a0) (h1 : Byt a1) (l0 : a0.length ≤ 1048576) (l1 : a1.length ≤ 1048576) : laws_FnVectors K a0 a1 = some true := by
  obtain ⟨a, p, e1, ha⟩ := vec_drawn (K := K) h0
  obtain ⟨b, q, e2, hb⟩ := vec_drawn (K := K) h1
  obtain ⟨p1, p2, p3⟩ := p
  obtain ⟨q1, q2, q3⟩ := q
  have c1 := ha.cross hb (by decide)
  have c2 := hb.cross ha (by decide)
  have hback : laws_b10VEqual K (plusF b (lessF a b)) a = some true := (hb.plus (ha.less hb (by decide)) (by decide)).same ha ⟨by show q1 + (p1 - q1) = p1; omega, by show q2 + (p2 - q2) = p2; omega, by show q3 + (p3 - q3) = p3; omega⟩
  have x1 := c1.inn ha (by decide)
  have x2 := c1.inn hb (by decide)
  obtain ⟨z1, z2⟩ := across p1 p2 p3 q1 q2 q3
  have n1 : (innF (crossF a b) a).ne (Fl.mk (k := .f32) 0 (by decide)) = false := by
    rw [ne_not', x1.1.eq zero_db.1, decide_eq_true z1]; rfl
  have n2 : (innF (crossF a b) b).ne (Fl.mk (k := .f32) 0 (by decide)) = false := by
    rw [ne_not', x2.1.eq zero_db.1, decide_eq_true z2]; rfl
  have hcd : laws_b10VEqual K (crossF a b) (timesF (crossF b a) (Fl.mk (k := .f32) 3212836864 (by decide))) = some true := c1.same (c2.times mone_db (by decide)) (by
    have m : ∀ x y u v : Int, x * y - u * v = (v * u - y * x) * -1 := fun x y u v => by rw [Int.mul_comm v u, Int.mul_comm y x]; omega
    exact ⟨m _ _ _ _, m _ _ _ _, m _ _ _ _⟩)
  have htw : laws_b10VEqual K (timesF a (Fl.mk (k := .f32) 1073741824 (by decide))) (plusF a a) = some true := (ha.times two_db (by decide)).same (ha.plus ha (by decide)) ⟨by show p1 * 2 = p1 + p1; omega, by show p2 * 2 = p2 + p2; omega, by show p3 * 2 = p3 + p3; omega⟩
  have n3 : (innF a a).ne (innF a a) = false := by
    have h := (ha.inn ha (by decide)).1
    rw [ne_not', h.eq h, decide_eq_true rfl]; rfl
  obtain ⟨y, r1, r2⟩ := root_same K (innF a a)
  have hb0 : laws_b10VEqual K (plusF a (timesF (lessF b a) (Fl.mk (k := .f32) 0 (by decide)))) a = some true := (ha.plus ((hb.less ha (by decide)).times zero_db (by decide)) (by decide)).same ha ⟨by show p1 + (q1 - p1) * 0 = p1; omega, by show p2 + (q2 - p2) * 0 = p2; omega, by show p3 + (q3 - p3) * 0 = p3; omega⟩
  have hb1 : laws_b10VEqual K (plusF a (timesF (lessF b a) (Fl.mk (k := .f32) 1065353216 (by decide)))) b = some true := (ha.plus ((hb.less ha (by decide)).times one_db (by decide)) (by decide)).same hb ⟨by show p1 + (q1 - p1) * 1 = q1; omega, by show p2 + (q2 - p2) * 1 = q2; omega, by show p3 + (q3 - p3) * 1 = q3; omega⟩
  have hlong : impl_LongOf K a = some y := by
    unfold impl_LongOf
    rw [inn_impl, bind_of, r1]; rfl
  obtain ⟨v, at_, sd, e3, _⟩ := vector_dr (K := K) h0 0 0 (by omega) (by omega)
  have e4 : spec_B10Any K a0 = some v := by
    unfold spec_B10Any
    rw [e3]; rfl
  obtain ⟨t, t1, t2, t3⟩ := read_vec (K := K) (by omega) v
  unfold laws_FnVectors laws_b10Long
  rw [ite2_dec, if_neg (by omega), bind_of, bind_of, decide_eq_false (by omega), ite2_false]
  simp only [e1, e2, bind_of, cross_impl, less_impl, plus_impl, times_impl, hback, Bool.not_true, ite2_false, inn_impl, n1, n2, hcd, htw, square_eq, n3, hlong, r2, same_refl, between_impl, hb0, hb1, e4, t1, t3, sameV_refl, ite2_true, t2]
  rfl
theorem law_FnVectors (a b : List Int) (ha : a.length ≤ maxLen ∧ ∀ x ∈ a, (Lit.int .u8 x).wf = true) (hb : b.length ≤ maxLen ∧ ∀ x ∈ b, (Lit.int .u8 x).wf = true) : ∃ K, laws_FnVectors K a b = some true := by
  have byt : ∀ {c : List Int}, (∀ x ∈ c, (Lit.int .u8 x).wf = true) → Byt c := fun h x hx => by
    have := h x hx
    simp only [Lit.wf, Bool.and_eq_true, decide_eq_true_eq] at this
    have e1 : IntKind.u8.min = 0 := by decide
    have e2 : IntKind.u8.max = 255 := by decide
    omega
  refine ⟨2000, ?_⟩
  by_cases l0 : (a.length : Int) > 1048576
  · unfold laws_FnVectors laws_b10Long
    rw [ite2_dec, if_pos l0]; rfl
  · by_cases l1 : (b.length : Int) > 1048576
    · unfold laws_FnVectors laws_b10Long
      rw [ite2_dec, if_neg l0, bind_of, bind_of, decide_eq_true l1]; rfl
    · exact vec_law (by omega) (byt ha.2) (byt hb.2) (by omega) (by omega)

end Go.Fw
