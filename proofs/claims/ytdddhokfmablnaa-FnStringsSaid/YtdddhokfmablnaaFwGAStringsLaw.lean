/- The law of strings that move and hang, in plain Lean. -/
import Derived.Test.YtdddhokfmablnaaFwGAStrLaw
import Derived.KernelRfl
namespace Go.Fw
open Go

theorem r8At_rng {K : Nat} {c : List Int} (hc : Byt c) (k n : Int) (hk : 0 ≤ k) (hn : 1 ≤ n) : ∃ r, laws_r8At K c k n = some r ∧ 0 ≤ r ∧ r < n := by
  unfold laws_r8At
  rw [ite2_dec]
  by_cases h1 : n ≤ 1
  · rw [if_pos h1, bind_of, ite2_true]; exact ⟨0, rfl, by omega, by omega⟩
  · rw [if_neg h1, bind_of, ite2_dec]
    by_cases h : k ≥ (c.length : Int)
    · rw [if_pos h]; exact ⟨0, rfl, by omega, by omega⟩
    · have hb := hc _ (getD_mem (xs := c) (i := k.toNat) (by omega))
      rw [if_neg h, chk_pos (by omega), chk_pos (by omega), wrap_in (by omega) (by omega)]
      exact ⟨_, rfl, tmod_in hb.1 (by omega)⟩
theorem small_q {K : Nat} {c : List Int} (hc : Byt c) (at_ sd : Int) : Dr at_ 2 (spec_l01DrawSmall K (l00Src.mk c at_ sd)) (fun f => ∃ q : Int, -16 ≤ q ∧ q ≤ 16 ∧ f = Qr q) := by
  unfold spec_l01DrawSmall
  refine Dr.bind (c2 := 0) (pick_dr hc at_ sd 33) (by decide) fun r a1 s1 hr => .of ⟨r - 16, by omega, by omega, ?_⟩ (by omega) rfl
  show (Fl.ofInt .f32 (IntKind.i64.wrap (r - 16))).div _ = _
  rw [wrap_in (by omega) (by omega)]; rfl
theorem R8Small_q {K : Nat} {c : List Int} (hc : Byt c) : ∃ x y z : Int, spec_R8Small K c = some (Vector.mk (Qr x) (Qr y) (Qr z)) ∧ (-16 ≤ x ∧ x ≤ 16) ∧ (-16 ≤ y ∧ y ≤ 16) ∧ (-16 ≤ z ∧ z ≤ 16) := by
  obtain ⟨f1, a1, s1, e1, ⟨x, x1, x2, rfl⟩, p1, p2⟩ := small_q (K := K) hc 0 0 (Int.le_refl _) (by decide)
  obtain ⟨f2, a2, s2, e2, ⟨y, y1, y2, rfl⟩, p3, p4⟩ := small_q (K := K) hc a1 s1 p1 (by omega)
  obtain ⟨f3, a3, s3, e3, ⟨z, z1, z2, rfl⟩, p5, p6⟩ := small_q (K := K) hc a2 s2 p3 (by omega)
  refine ⟨x, y, z, ?_, ⟨x1, x2⟩, ⟨y1, y2⟩, ⟨z1, z2⟩⟩
  unfold spec_R8Small
  rw [e1, bind_of, e2, bind_of, e3]; rfl

/-! Quarters. -/
theorem Qr_sub {a b : Int} (ha : a.natAbs < 1000000) (hb : b.natAbs < 1000000) : (Qr a).sub (Qr b) = Qr (a - b) :=
  ((Qr.dz (by omega)).sub (Qr.dz (by omega)).1 (by omega) (by omega)).uniq (Qr.dz (by omega))
theorem Qr_add {a b : Int} (ha : a.natAbs < 1000000) (hb : b.natAbs < 1000000) : (Qr a).add (Qr b) = Qr (a + b) :=
  ((Qr.dz (by omega)).add (Qr.dz (by omega)).1 (by omega) (by omega)).uniq (Qr.dz (by omega))
/-- The negative zero. -/
def M0 : F32 := Fl.mk (k := .f32) 2147483648 (by decide)
theorem M0_dy : Dy 2 0 M0 := by
  have e : Ieee.single.read M0.bits = .number true 0 (-149) := by decide
  exact ⟨true, 0, -149, e, 0, 147, by omega, by simp [sg]⟩
theorem add_m0 {a : Int} (ha : a.natAbs < 1000000) : (Qr a).add M0 = Qr a := (Qr.dz (by omega)).add0 M0_dy (by omega) (by omega)
theorem sub_m0 {a : Int} (ha : a.natAbs < 1000000) : (Qr a).sub M0 = Qr a := (Qr.dz (by omega)).sub0 M0_dy (by omega) (by omega)
theorem add_q0 {a : Int} (ha : a.natAbs < 1000000) : (Qr a).add (Qr 0) = Qr a := by rw [Qr_add ha (by decide), Int.add_zero]
theorem sub_q0 {a : Int} (ha : a.natAbs < 1000000) : (Qr a).sub (Qr 0) = Qr a := by rw [Qr_sub ha (by decide), Int.sub_zero]
theorem def_q0 : (default : F32) = Qr 0 := by decide +kernel
theorem zero_q0 : (Fl.mk (k := .f32) 0 (by decide)) = Qr 0 := by decide +kernel
/-- What is asked of the lengths. -/
def lenOK (l : Nat) : Bool :=
  ((Fl.cv .f64 .f32 (Fl.cv .f32 .f64 ((((Qr 0).mul (Qr 0)).add ((Qr (-(l : Int))).mul (Qr (-(l : Int))))).add ((Qr 0).mul (Qr 0)))).sqrt : F32) == Qr l)
  && (((Qr l).sub (Qr l)).eq (Fl.mk (k := .f32) 0 (by decide))) && ((Qr l).ne (Fl.mk (k := .f32) 0 (by decide)))
  && ((Qr 0).div (Qr l) == Qr 0) && ((Qr (-(l : Int))).mul (Qr 0) == M0)
theorem len_all : ∀ l : Fin 16, lenOK (l.val + 1) = true := by decide +kernel
theorem len_ok {l : Int} (h1 : 1 ≤ l) (h2 : l ≤ 16) : ((Fl.cv .f64 .f32 (Fl.cv .f32 .f64 ((((Qr 0).mul (Qr 0)).add ((Qr (-l)).mul (Qr (-l)))).add ((Qr 0).mul (Qr 0)))).sqrt : F32) = Qr l) ∧ (((Qr l).sub (Qr l)).eq (Fl.mk (k := .f32) 0 (by decide))) = true ∧ ((Qr l).ne (Fl.mk (k := .f32) 0 (by decide))) = true ∧ (Qr 0).div (Qr l) = Qr 0 ∧ (Qr (-l)).mul (Qr 0) = M0 := by
  obtain ⟨m, rfl⟩ : ∃ m : Nat, l = (m : Int) := ⟨l.toNat, by omega⟩
  obtain ⟨q, rfl⟩ : ∃ q, m = q + 1 := ⟨m - 1, by omega⟩
  have := len_all ⟨q, by omega⟩
  unfold lenOK at this
  simp only [Bool.and_eq_true, beq_iff_eq] at this
  exact ⟨this.1.1.1.1, this.1.1.1.2, this.1.1.2, this.1.2, this.2⟩
theorem half_ok : (Qr 0).mul (Fl.mk (k := .f32) 1056964608 (by decide)) = Qr 0 ∧ M0.mul (Fl.mk (k := .f32) 1056964608 (by decide)) = M0 ∧ (Qr 0).mul (Qr 0) = Qr 0 ∧ (Qr 0).mul (Fl.mk (k := .f32) 1065353216 (by decide)) = Qr 0 := by decide +kernel

/-! A string that hangs. -/
/-- The points of a string that hangs. -/
def Pt (x y z l : Int) (j : Nat) : Vector := Vector.mk (Qr x) (Qr (y - (j : Int) * l)) (Qr z)
structure Hung (n : Nat) (x y z l : Int) (s : String) : Prop where
  rs : Rs n s
  n7 : n ≤ 7
  xb : -16 ≤ x ∧ x ≤ 16
  yb : -16 ≤ y ∧ y ≤ 16
  zb : -16 ≤ z ∧ z ≤ 16
  lb : 1 ≤ l ∧ l ≤ 16
  pts : ∀ j, j < n → s.Points.getD j default = Pt x y z l j
  bef : s.Before = s.Points
  len : ∀ j, j + 1 < n → s.Lengths.getD j default = Qr l
  fx : ∀ j, j < n → s.Fixed.getD j default = decide (j = 0)
  fall : s.Fall = Vector.mk default default default
  damp : s.Damp = Fl.mk (k := .f32) 1065353216 (by decide)
theorem jl_le {n j : Nat} {y l : Int} (hj : j ≤ n) (hn : n ≤ 7) (hy : -16 ≤ y ∧ y ≤ 16) (hl : 1 ≤ l ∧ l ≤ 16) : (y - (j : Int) * l).natAbs < 1000 := by
  have h1 : (j : Int) * l ≤ 7 * 16 := Int.mul_le_mul (by omega) hl.2 (by omega) (by omega)
  have h2 : 0 ≤ (j : Int) * l := Int.mul_nonneg (by omega) (by omega)
  omega
theorem pull_hung {K n : Nat} {x y z l : Int} {s : String} (h : Hung n x y z l s) {i : Nat} (hi : i + 1 < n) : impl_String_pull K s (i : Int) = some s.Points := by
  have w : IntKind.i64.wrap ((i : Int) + 1) = ((i + 1 : Nat) : Int) := wrap_nat1 (by have := h.rs.n16; omega)
  have h1 := h.rs.pts
  have h2 := h.rs.fix
  have h3 := h.rs.len
  have n7 := h.n7
  have xb := h.xb
  have zb := h.zb
  have lb := h.lb
  obtain ⟨c1, c2, c3, c4, c5⟩ := len_ok h.lb.1 h.lb.2
  obtain ⟨d1, d2, d3, d4⟩ := half_ok
  have b1 := jl_le (j := i) (by omega) h.n7 h.yb h.lb
  have b2 := jl_le (j := i + 1) (by omega) h.n7 h.yb h.lb
  have ex : (Qr x).sub (Qr x) = Qr 0 := by rw [Qr_sub (by omega) (by omega), Int.sub_self]
  have ez : (Qr z).sub (Qr z) = Qr 0 := by rw [Qr_sub (by omega) (by omega), Int.sub_self]
  have ey : (Qr (y - ((i + 1 : Nat) : Int) * l)).sub (Qr (y - (i : Int) * l)) = Qr (-l) := by
    rw [Qr_sub (by omega) (by omega)]
    congr 1
    rw [Int.natCast_add, Int.add_mul]; omega
  have el : (Qr l).sub (Qr l) = Qr 0 := by rw [Qr_sub (by omega) (by omega), Int.sub_self]
  have p1 : s.Points.getD i default = Pt x y z l i := h.pts i (by omega)
  have p2 : s.Points.getD (i + 1) default = Pt x y z l (i + 1) := h.pts (i + 1) hi
  have nx : x.natAbs < 1000000 := by omega
  have nz : z.natAbs < 1000000 := by omega
  have ny1 : (y - (i : Int) * l).natAbs < 1000000 := by omega
  have ny2 : (y - ((i + 1 : Nat) : Int) * l).natAbs < 1000000 := by omega
  unfold impl_String_pull impl_LessVectors impl_LongOf impl_InnerOf impl_isLength impl_IsFinite impl_ScaleVector impl_AddVectors
  simp only [w, Int.toNat_natCast, bind_of, sqrt_impl, len_set, p1, p2, h.len i hi, h.fx i (by omega), h.fx (i + 1) hi]
  simp (disch := omega) only [chk_pos]
  simp only [Pt, ex, ey, ez, c1, c2, c3, ite2_true, bind_of, Bool.not_true, ite2_false]
  simp only [el, c4, d3, c5, d1, d2]
  have f1 : decide (i + 1 = 0) = false := decide_eq_false (by omega)
  rw [f1]
  simp only [ite2_false, add_m0 ny1, sub_m0 ny2, add_q0 nx, add_q0 nz, sub_q0 nx, sub_q0 nz]
  have s1 : s.Points.set (i + 1) (Vector.mk (Qr x) (Qr (y - ((i + 1 : Nat) : Int) * l)) (Qr z)) = s.Points := by
    have := set_same s.Points (i + 1)
    rw [p2] at this; exact this
  have s0 : s.Points.set i (Vector.mk (Qr x) (Qr (y - (i : Int) * l)) (Qr z)) = s.Points := by
    have := set_same s.Points i
    rw [p1] at this; exact this
  rw [s0, s1]
  cases decide (i = 0)
  · rw [ite2_false, bind_of, ite2_false, ite2_false]; exact chk_pos trivial _
  · rw [ite2_true, bind_of, ite2_false, ite2_true]; exact chk_pos trivial _
theorem self_mk (s : String) : String.mk s.Points s.Before s.Fixed s.Lengths s.Fall s.Damp s.Passes = s := rfl
theorem l5_hung {K n : Nat} {x y z l : Int} {s : String} (h : Hung n x y z l s) : ∀ (k i : Nat), i + 1 ≤ n → n - 1 - i < k → impl_String_move_l5 K s s.Before k (i : Int) s.Points = some s.Points := by
  intro k
  induction k with
  | zero => intro i _ h; omega
  | succ k ih =>
    intro i hi hk
    have hn := h.rs.n16
    have hl := h.rs.len
    have w : IntKind.i64.wrap ((i : Int) + 1) = ((i + 1 : Nat) : Int) := wrap_nat1 (by omega)
    rw [impl_String_move_l5, w, ite2_dec]
    by_cases hlt : i + 1 < n
    · rw [if_pos (by omega), self_mk, pull_hung h hlt, bind_of, chk_pos rfl]
      exact ih (i + 1) (by omega) (by omega)
    · rw [if_neg (by omega)]
theorem l4_hung {K n : Nat} {x y z l : Int} {s : String} (hK : 20 < K) (h : Hung n x y z l s) : ∀ (k i : Nat), (i : Int) ≤ s.Passes → (s.Passes - i).toNat < k → impl_String_move_l4 K s s.Before k (i : Int) s.Points = some (s.Points, s.Before) := by
  intro k
  induction k with
  | zero => intro i _ h; omega
  | succ k ih =>
    intro i hi hk
    have hn := h.rs.n16
    have hp16 := h.rs.pas
    have w : IntKind.i64.wrap ((i : Int) + 1) = ((i + 1 : Nat) : Int) := wrap_nat1 (by omega)
    rw [impl_String_move_l4, w, ite2_dec]
    by_cases hlt : (i : Int) < s.Passes
    · have r2 := l5_hung (K := K) h K 0 (by have := h.rs.n2; omega) (by omega)
      rw [show ((0 : Nat) : Int) = 0 from rfl] at r2
      rw [if_pos hlt, r2, bind_of]
      exact ih (i + 1) (by omega) (by omega)
    · rw [if_neg hlt, chk_pos rfl, chk_pos rfl]
theorem l1_hung {K n : Nat} {x y z l : Int} {s : String} (hK : 20 < K) (h : Hung n x y z l s) : ∀ (k i : Nat), i ≤ n → n - i < k → impl_String_move_l1 K s k (i : Int) s.Points s.Before = some (s.Points, s.Before) := by
  intro k
  induction k with
  | zero => intro i _ h; omega
  | succ k ih =>
    intro i hi hk
    have hn := h.rs.n16
    have hp16 := h.rs.pas
    have hpt := h.rs.pts
    have hbf := h.rs.bef
    have hfx := h.rs.fix
    have xb := h.xb
    have zb := h.zb
    have w : IntKind.i64.wrap ((i : Int) + 1) = ((i + 1 : Nat) : Int) := wrap_nat1 (by omega)
    rw [impl_String_move_l1, w, ite2_dec]
    by_cases hlt : i < n
    · have rest := ih (i + 1) (by omega) (by omega)
      have p1 : s.Points.getD i default = Pt x y z l i := h.pts i hlt
      have b1 := jl_le (j := i) (by omega) h.n7 h.yb h.lb
      have nx : x.natAbs < 1000000 := by omega
      have nz : z.natAbs < 1000000 := by omega
      have ny1 : (y - (i : Int) * l).natAbs < 1000000 := by omega
      obtain ⟨d1, d2, d3, d4⟩ := half_ok
      have s0 : s.Points.set i (Pt x y z l i) = s.Points := by
        have := set_same s.Points i
        rw [p1] at this; exact this
      have s1 : s.Before.set i (Pt x y z l i) = s.Before := by rw [h.bef]; exact s0
      have p2 : s.Before.getD i default = Pt x y z l i := by rw [h.bef]; exact p1
      rw [if_pos (by omega)]
      unfold impl_LessVectors impl_ScaleVector impl_AddVectors
      simp only [Int.toNat_natCast, bind_of]
      simp (disch := omega) only [chk_pos]
      rw [p1, p2, h.damp, h.fall, s1]
      have ex : (Qr x).sub (Qr x) = Qr 0 := by rw [Qr_sub nx nx, Int.sub_self]
      have ez : (Qr z).sub (Qr z) = Qr 0 := by rw [Qr_sub nz nz, Int.sub_self]
      have ey : (Qr (y - (i : Int) * l)).sub (Qr (y - (i : Int) * l)) = Qr 0 := by rw [Qr_sub ny1 ny1, Int.sub_self]
      simp only [Pt, ex, ey, ez, d4, def_q0, add_q0 nx, add_q0 nz, add_q0 ny1]
      have s2 : s.Points.set i (Vector.mk (Qr x) (Qr (y - (i : Int) * l)) (Qr z)) = s.Points := s0
      rw [s2, rest]
      unfold ite2
      split <;> rfl
    · rw [if_neg (by omega)]
      have := l4_hung (K := K) hK h K 0 (by omega) (by omega)
      rw [show ((0 : Nat) : Int) = 0 from rfl] at this
      exact this
theorem step_hung {K n : Nat} {x y z l : Int} {s : String} (hK : 1010 < K) (h : Hung n x y z l s) : impl_StepString K s = some (s, true) := by
  have e : impl_String_move K s = some (s.Points, s.Before) := by
    unfold impl_String_move
    have := l1_hung (K := K) (by omega) h K 0 (by omega) (by have := h.n7; omega)
    rw [show ((0 : Nat) : Int) = 0 from rfl] at this
    exact this
  unfold impl_StepString
  rw [run_eq hK h.rs (by decide) (by decide), bind_of]
  have : stepsS K (1 : Int).toNat s = s := by
    show stepS K s = s
    unfold stepS; rw [e]
  rw [this]
theorem dist_hung {K n : Nat} {x y z l : Int} {s : String} (h : Hung n x y z l s) : ∀ (k i : Nat) (p : List F32), i + 1 ≤ n → n - i < k + 1 → p.length + 1 = n → (∀ j, j < i → p.getD j default = Qr l) →
    ∃ r, impl_distances_l1 K s.Points k (i : Int) p = some r ∧ r.length + 1 = n ∧ ∀ j, j + 1 < n → r.getD j default = Qr l := by
  intro k
  induction k with
  | zero => intro i p _ h; omega
  | succ k ih =>
    intro i p h2 h3 h4 hv
    have hp := h.rs.pts
    have n7 := h.n7
    have xb := h.xb
    have zb := h.zb
    have w : IntKind.i64.wrap ((i : Int) + 1) = ((i + 1 : Nat) : Int) := wrap_nat1 (by omega)
    have w2 : IntKind.i64.wrap ((s.Points.length : Int) - 1) = ((s.Points.length - 1 : Nat) : Int) := by rw [wrap_in (by omega) (by omega)]; omega
    rw [impl_distances_l1, ite2_dec, w, w2, List.length_replicate, Int.toNat_natCast]
    by_cases hi : i + 1 < n
    · have p1 : s.Points.getD i default = Pt x y z l i := h.pts i (by omega)
      have p2 : s.Points.getD (i + 1) default = Pt x y z l (i + 1) := h.pts (i + 1) hi
      have b1 := jl_le (j := i) (by omega) h.n7 h.yb h.lb
      have b2 := jl_le (j := i + 1) (by omega) h.n7 h.yb h.lb
      have nx : x.natAbs < 1000000 := by omega
      have nz : z.natAbs < 1000000 := by omega
      have ex : (Qr x).sub (Qr x) = Qr 0 := by rw [Qr_sub nx nx, Int.sub_self]
      have ez : (Qr z).sub (Qr z) = Qr 0 := by rw [Qr_sub nz nz, Int.sub_self]
      have ey : (Qr (y - ((i + 1 : Nat) : Int) * l)).sub (Qr (y - (i : Int) * l)) = Qr (-l) := by
        rw [Qr_sub (by omega) (by omega)]
        congr 1
        rw [Int.natCast_add, Int.add_mul]; omega
      obtain ⟨c1, c2, c3, c4, c5⟩ := len_ok h.lb.1 h.lb.2
      unfold impl_LessVectors impl_LongOf impl_InnerOf
      rw [if_pos (by omega), chk_pos (by omega), chk_pos (by omega), Int.toNat_natCast, Int.toNat_natCast, p1, p2]
      simp only [bind_of, sqrt_impl]
      rw [chk_pos (by omega)]
      simp only [Pt, ex, ey, ez, c1]
      refine ih (i + 1) _ (by omega) (by omega) (by rw [List.length_set]; exact h4) (fun j hj => ?_)
      by_cases e : i = j
      · subst e; rw [set_getD (by omega)]
      · rw [set_ne e]; exact hv j (by omega)
    · rw [if_neg (by omega)]
      exact ⟨p, rfl, h4, fun j hj => hv j (by omega)⟩
theorem size_impl (K : Nat) (x : F32) : impl_size K x = some x.abs32 := by
  unfold impl_size math_Abs
  rw [bind_of, chk_pos (by rw [narrow_abs]; rfl), cv_abs]
theorem stretch_loop {K n : Nat} {l : Int} (s : String) (ds : List F32) (hd : ds.length + 1 = n) (hl : s.Lengths.length + 1 = n) (hn : n ≤ 7) (hl2 : 1 ≤ l ∧ l ≤ 16) (v1 : ∀ j, j + 1 < n → ds.getD j default = Qr l) (v2 : ∀ j, j + 1 < n → s.Lengths.getD j default = Qr l) : ∀ (k i : Nat), i + 1 ≤ n → n - i < k + 1 →
    impl_StretchOf_l1 K s ds k (Qr 0) (i : Int) = some (Qr 0, true) := by
  intro k
  induction k with
  | zero => intro i _ h; omega
  | succ k ih =>
    intro i h1 h2
    rw [impl_StretchOf_l1, ite2_dec]
    by_cases hi : i + 1 < n
    · have e1 : ((Qr 0).abs32) = Qr 0 := by decide +kernel
      have e2 : (Qr 0).gt (Qr 0) = false := by decide +kernel
      have e3 : (Qr l).sub (Qr l) = Qr 0 := by rw [Qr_sub (by omega) (by omega), Int.sub_self]
      rw [if_pos (by omega), chk_pos (by omega), chk_pos (by omega), Int.toNat_natCast, size_impl, bind_of, wrap_nat1 (by omega), v1 i hi, v2 i hi, e3, e1]
      unfold impl_greater
      rw [e2, ite2_false, bind_of]
      exact ih (i + 1) (by omega) (by omega)
    · rw [if_neg (by omega)]
theorem stretch_hung {K n : Nat} {x y z l : Int} {s : String} (hK : 20 < K) (h : Hung n x y z l s) : impl_StretchOf K s = some (Qr 0, true) := by
  have hp := h.rs.pts
  have n7 := h.n7
  have n2 := h.rs.n2
  have w2 : IntKind.i64.wrap ((s.Points.length : Int) - 1) = ((s.Points.length - 1 : Nat) : Int) := by rw [wrap_in (by omega) (by omega)]; omega
  obtain ⟨ds, d1, d2, d3⟩ := dist_hung (K := K) h K 0 (List.replicate (s.Points.length - 1) default) (by omega) (by omega) (by simp; omega) (fun j hj => by omega)
  rw [show ((0 : Nat) : Int) = 0 from rfl] at d1
  unfold impl_StretchOf impl_distances
  rw [h.rs.valid, bind_of, Bool.not_true, ite2_false, w2, chk_pos (by omega), Int.toNat_natCast, d1, bind_of, zero_q0]
  exact stretch_loop s ds d2 h.rs.len n7 h.lb d3 h.len K 0 (by omega) (by omega)
theorem rep_eq {K : Nat} (hK : 20 < K) (x : F32) (c : Int) (h1 : 1 ≤ c) (h6 : c ≤ 6) : slices_Repeat_float32_float32 K [x] c = some (List.replicate c.toNat x) := by
  obtain ⟨k, rfl⟩ : ∃ k, K = k + 20 := ⟨K - 20, by omega⟩
  have hc : c = 1 ∨ c = 2 ∨ c = 3 ∨ c = 4 ∨ c = 5 ∨ c = 6 := by omega
  have r1 : slices_Repeat_float32_float32 (k + 20) [x] 1 = some [x] := by kernel_rfl
  have r2 : slices_Repeat_float32_float32 (k + 20) [x] 2 = some [x, x] := by kernel_rfl
  have r3 : slices_Repeat_float32_float32 (k + 20) [x] 3 = some [x, x, x] := by kernel_rfl
  have r4 : slices_Repeat_float32_float32 (k + 20) [x] 4 = some [x, x, x, x] := by kernel_rfl
  have r5 : slices_Repeat_float32_float32 (k + 20) [x] 5 = some [x, x, x, x, x] := by kernel_rfl
  have r6 : slices_Repeat_float32_float32 (k + 20) [x] 6 = some [x, x, x, x, x, x] := by kernel_rfl
  rcases hc with rfl | rfl | rfl | rfl | rfl | rfl
  · exact r1
  · exact r2
  · exact r3
  · exact r4
  · exact r5
  · exact r6
theorem hang_loop {K n : Nat} (a0 : Vector) (a2 : F32) (v6 : List F32) {x y z l : Int} (hx : a0.X = Qr x) (hz : a0.Z = Qr z) (h2 : a2 = Qr l) (hn : n ≤ 7) (hy : -16 ≤ y ∧ y ≤ 16) (hl : 1 ≤ l ∧ l ≤ 16) : ∀ (k i : Nat) (f : F32) (p : List Vector), i ≤ n → n - i < k → f = Qr (y - (i : Int) * l) → p.length = i → (∀ j, j < i → p.getD j default = Pt x y z l j) →
    ∃ r, impl_HangString_l1 K a0 (n : Int) a2 v6 k (i : Int) f p = some (String.mk r r ((List.replicate n (default : Bool)).set 0 true) v6 (Vector.mk default default default) (Fl.mk (k := .f32) 1065353216 (by decide)) 4, true) ∧ r.length = n ∧ ∀ j, j < n → r.getD j default = Pt x y z l j := by
  intro k
  induction k with
  | zero => intro i f p _ h; omega
  | succ k ih =>
    intro i f p h1 h3 hf hp hv
    rw [impl_HangString_l1, ite2_dec]
    by_cases hi : i < n
    · have b1 := jl_le (j := i) (by omega) hn hy hl
      rw [if_pos (by omega), chk_pos (by simp; omega), wrap_nat1 (by omega)]
      refine ih (i + 1) _ _ (by omega) (by omega) ?_ (by simp; omega) (fun j hj => ?_)
      · rw [hf, h2, Qr_sub (by omega) (by omega)]
        congr 1
        rw [Int.natCast_add, Int.add_mul]; omega
      · by_cases e : j < i
        · rw [List.getD_eq_getElem?_getD, List.getElem?_append_left (by omega), ← List.getD_eq_getElem?_getD]; exact hv j e
        · have e2 : j = i := by omega
          subst e2
          rw [List.getD_eq_getElem?_getD, List.getElem?_append_right (by omega), hp, Nat.sub_self, hx, hz, hf]; rfl
    · have e : i = n := by omega
      subst e
      rw [if_neg (by omega)]
      unfold slices_Clone_impl_Vector_impl_Vector
      rw [chk_pos (by simp; omega), bind_of, List.nil_append, Int.toNat_natCast]
      exact ⟨p, rfl, hp, hv⟩
theorem hang_eq {K : Nat} (hK : 20 < K) {x y z l c : Int} (hx : -16 ≤ x ∧ x ≤ 16) (hy : -16 ≤ y ∧ y ≤ 16) (hz : -16 ≤ z ∧ z ≤ 16) (hl : 1 ≤ l ∧ l ≤ 16) (h2 : 2 ≤ c) (h7 : c ≤ 7) :
    ∃ s, impl_HangString K (Vector.mk (Qr x) (Qr y) (Qr z)) c (Qr l) = some (s, true) ∧ Hung c.toNat x y z l s := by
  obtain ⟨n, rfl⟩ : ∃ n : Nat, c = (n : Int) := ⟨c.toNat, by omega⟩
  have w : IntKind.i64.wrap ((n : Int) - 1) = (n : Int) - 1 := wrap_in (by omega) (by omega)
  obtain ⟨r, r1, r2, r3⟩ := hang_loop (K := K) (n := n) (Vector.mk (Qr x) (Qr y) (Qr z)) (Qr l) (List.replicate (n - 1) (Qr l)) (x := x) (y := y) (z := z) (l := l) rfl rfl rfl (by omega) hy hl K 0 (Qr y) [] (by omega) (by omega) (by rw [show y - ((0 : Nat) : Int) * l = y by simp]) rfl (fun j hj => by omega)
  rw [show ((0 : Nat) : Int) = 0 from rfl] at r1
  unfold impl_HangString
  rw [ite2_dec, if_neg (by omega), bind_of, ite2_dec, if_neg (by omega), chk_pos (by omega), w, rep_eq hK _ _ (by omega) (by omega), bind_of, show ((n : Int) - 1).toNat = n - 1 by omega, chk_pos (by simp; omega)]
  refine ⟨_, r1, ⟨⟨by omega, by omega, ?_, ?_, ?_, ?_, (show (0 : Int) ≤ 4 ∧ (4 : Int) ≤ 16 by decide)⟩, by omega, hx, hy, hz, hl, ?_, rfl, ?_, ?_, rfl, rfl⟩⟩
  · rw [Int.toNat_natCast]; exact r2
  · rw [Int.toNat_natCast]; exact r2
  · rw [Int.toNat_natCast, len_set, List.length_replicate]
  · rw [Int.toNat_natCast, List.length_replicate]; omega
  · rw [Int.toNat_natCast]; exact r3
  · intro j hj
    rw [Int.toNat_natCast] at hj
    show (List.replicate (n - 1) (Qr l)).getD j default = _
    rw [List.getD_eq_getElem?_getD, List.getElem?_replicate, if_pos (by omega)]; rfl
  · intro j hj
    rw [Int.toNat_natCast] at hj
    show ((List.replicate n (default : Bool)).set 0 true).getD j default = _
    by_cases e : j = 0
    · subst e; rw [set_getD (by simp; omega)]; rfl
    · rw [set_ne (by omega), decide_eq_false e, List.getD_eq_getElem?_getD, List.getElem?_replicate, if_pos hj]; rfl
theorem fixed_loop {K n : Nat} (a1 : List Int) (x : String) (v6 : Int) (t : String × Bool) (hx : Rs n x) (hl : t.1.Points.length = n) (hb : t.1.Before.length = n) (h1 : Fx x n t.1.Points x.Points) (h2 : 0 < v6 → Fx x n t.1.Before x.Points)
    (fin : ∀ (k i : Nat), i = n → laws_FnStrings_l1 K a1 x v6 t (k + 1) (i : Int) = some true) : ∀ (k i : Nat), i ≤ n → n - i < k → laws_FnStrings_l1 K a1 x v6 t k (i : Int) = some true := by
  intro k
  induction k with
  | zero => intro i _ h; omega
  | succ k ih =>
    intro i g1 g2
    by_cases hi : i < n
    · have hrest := ih (i + 1) (by omega) (by omega)
      have e1 := hx.pts; have e3 := hx.fix; have e4 := hx.n16
      rw [laws_FnStrings_l1, ite2_dec, if_pos (by omega), chk_pos (by omega), wrap_nat1 (by omega), Int.toNat_natCast]
      cases hf : x.Fixed.getD i default
      · rw [ite2_false, bind_of, ite2_false]; exact hrest
      · rw [ite2_true, chk_pos (by omega), chk_pos (by omega), h1 i hi hf, sameV_refl, bind_of, Bool.not_true, ite2_false, ite2_dec]
        by_cases hv : v6 > 0
        · rw [if_pos hv, chk_pos (by omega), h2 hv i hi hf, sameV_refl, bind_of, Bool.not_true, bind_of, ite2_false]; exact hrest
        · rw [if_neg hv, bind_of, ite2_false]; exact hrest
    · exact fin k i (by omega)

theorem strings_true (a b : List Int) (ha : Byt a) (hb : Byt b) : ∃ K, laws_FnStrings K a b = some true := by
  refine ⟨2000, ?_⟩
  unfold laws_FnStrings laws_r8Long
  cases hlong : ite2 (decide ((a.length : Int) > 48)) (some true) (some (decide ((b.length : Int) > 48))) with
  | none => revert hlong; unfold ite2; split <;> intro h <;> cases h
  | some g =>
  rw [bind_of, bind_of]
  cases g with
  | true => rfl
  | false =>
  rw [ite2_false]
  obtain ⟨x, n, x1, n2, n5, hs, p0, p3⟩ := string_drawn (K := 2000) (by omega) ha
  have rs : Rs n x := ⟨n2, by omega, hs.pts, hs.bef, hs.fix, hs.len, by omega⟩
  obtain ⟨v6, hv6, q1, q2⟩ := r8At_rng (K := 2000) hb 0 6 (by omega) (by omega)
  obtain ⟨v8, hv8, q3, q4⟩ := r8At_rng (K := 2000) hb 1 (v6 + 1) (by omega) (by omega)
  have k1 := steps_kept (K := 2000) (by omega) v6.toNat rs
  have k2 := steps_kept (K := 2000) (by omega) v8.toNat rs
  rw [x1, bind_of, hv6, bind_of, wrap_in (by omega) (by omega), hv8, bind_of]
  rw [run_eq (by omega) rs (by omega) (by omega), bind_of, run_eq (by omega) rs (by omega) (by omega), bind_of, wrap_in (by omega) (by omega)]
  rw [run_eq (by omega) k2.1.rs (by omega) (by omega), bind_of, ← steps_add, show v8.toNat + (v6 - v8).toNat = v6.toNat by omega]
  simp only [Bool.not_true, ite2_false, rs.valid, k1.1.rs.valid, bind_of, sameS_refl (K := 2000) k1.1.rs (by omega)]
  rw [show (((stepsS 2000 v6.toNat x).Points.length : Int) != (x.Points.length : Int)) = false by rw [k1.1.rs.pts, rs.pts]; simp, ite2_false]
  obtain ⟨vx, vy, vz, e1, bx, by_, bz⟩ := R8Small_q (K := 2000) hb
  obtain ⟨c, hc, c1, c2⟩ := r8At_rng (K := 2000) hb 40 6 (by omega) (by omega)
  obtain ⟨l, hl, l1, l2⟩ := r8At_rng (K := 2000) hb 41 16 (by omega) (by omega)
  obtain ⟨s, s1, s2⟩ := hang_eq (K := 2000) (by omega) (x := vx) (y := vy) (z := vz) (l := 1 + l) (c := 2 + c) bx by_ bz (by omega) (by omega) (by omega)
  refine fixed_loop (K := 2000) (n := n) b x v6 _ rs k1.1.rs.pts k1.1.rs.bef k1.1.pt (fun h => k1.2 (by omega)) (fun k i hi => ?_) 2000 0 (by omega) (by omega)
  have e5 := rs.pts
  rw [laws_FnStrings_l1, ite2_dec, if_neg (by omega), e1, bind_of, hc, bind_of, hl, bind_of, wrap_in (by omega) (by omega), wrap_in (by omega) (by omega)]
  rw [show (Fl.ofInt .f32 ((1 : Int) + l)).div (Fl.mk (k := .f32) 1082130432 (by decide)) = Qr (1 + l) from rfl, s1, bind_of]
  simp only [ite2_true, step_hung (K := 2000) (by omega) s2, stretch_hung (K := 2000) (by omega) s2, bind_of, sameS_refl s2.rs (K := 2000) (by omega)]
  rw [show (Qr 0).eq (Fl.mk (k := .f32) 0 (by decide)) = true by decide +kernel, ite2_true, bind_of, s2.rs.pts]
  rw [show (((2 + c).toNat : Int) == 2 + c) = true by rw [beq_iff_eq]; omega]
theorem law_FnStrings (a b : List Int) (ha : a.length ≤ maxLen ∧ ∀ x ∈ a, (Lit.int .u8 x).wf = true) (hb : b.length ≤ maxLen ∧ ∀ x ∈ b, (Lit.int .u8 x).wf = true) : ∃ K, laws_FnStrings K a b = some true := by
  have byt : ∀ {c : List Int}, (∀ x ∈ c, (Lit.int .u8 x).wf = true) → Byt c := fun h x hx => by
    have := h x hx
    simp only [Lit.wf, Bool.and_eq_true, decide_eq_true_eq] at this
    have e1 : IntKind.u8.min = 0 := by decide
    have e2 : IntKind.u8.max = 255 := by decide
    omega
  exact strings_true a b (byt ha.2) (byt hb.2)

end Go.Fw
