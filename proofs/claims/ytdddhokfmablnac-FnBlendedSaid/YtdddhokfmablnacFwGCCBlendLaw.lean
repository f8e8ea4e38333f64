/- The law of blended poses, in plain Lean. -/
import Derived.Test.YtdddhokfmablnacFwGCCUnit
import Derived.Test.YtdddhokfmablnacFwFB
namespace Go.Fw
open Go

theorem set_ne {α : Type} [Inhabited α] {xs : List α} {i j : Nat} {v : α} (h : i ≠ j) : (xs.set i v).getD j default = xs.getD j default := by
  rw [List.getD_eq_getElem?_getD, List.getElem?_set_ne h, ← List.getD_eq_getElem?_getD]
theorem getD_left {α : Type} [Inhabited α] {a b : List α} {j : Nat} (h : j < a.length) : (a ++ b).getD j default = a.getD j default := by
  rw [List.getD_eq_getElem?_getD, List.getElem?_append_left h, ← List.getD_eq_getElem?_getD]
theorem getD_end {α : Type} [Inhabited α] {a : List α} {x : α} {j : Nat} (h : j = a.length) : (a ++ [x]).getD j default = x := by
  subst h
  rw [List.getD_eq_getElem?_getD, List.getElem?_append_right (Nat.le_refl _), Nat.sub_self]; rfl
theorem ite2_or (x y : Bool) : ite2 x (some true) (some y) = some (x || y) := by cases x <;> rfl
theorem ite2_and (x y : Bool) : ite2 x (some y) (some false) = some (x && y) := by cases x <;> rfl
theorem sqrt_impl (K : Nat) (x : F32) : impl_RootNumber K x = some (Fl.cv .f64 .f32 (Fl.cv .f32 .f64 x).sqrt) := by
  unfold impl_RootNumber math_Sqrt math_sqrt
  simp only [bind_of, chk_pos (narrow_root x)]
theorem sqrt_spec (K : Nat) (x : F32) : spec_l01Sqrt K x = some (Fl.cv .f64 .f32 (Fl.cv .f32 .f64 x).sqrt) := by
  unfold spec_l01Sqrt math_Sqrt math_sqrt spec_l01Narrow
  simp only [bind_of, chk_pos (narrow_root x)]
theorem ne_eq' {k : FloatKind} (x y : Fl k) : x.ne y = !x.eq y := rfl
def innF (a b : Turn) : F32 := (((a.W.mul b.W).add (a.X.mul b.X)).add (a.Y.mul b.Y)).add (a.Z.mul b.Z)
def lenF (a : Turn) : F32 := Fl.cv .f64 .f32 (Fl.cv .f32 .f64 (innF a a)).sqrt
def mendF (a : Turn) : Turn := if ((lenF a).eq (Fl.mk (k := .f32) 0 (by decide)) || !(((lenF a).sub (lenF a)).eq (Fl.mk (k := .f32) 0 (by decide)))) = true then Turn.mk (Fl.mk (k := .f32) 1065353216 (by decide)) default default default else Turn.mk (a.W.div (lenF a)) (a.X.div (lenF a)) (a.Y.div (lenF a)) (a.Z.div (lenF a))
theorem mend_spec (K : Nat) (a : Turn) : spec_l02Mend K a = some (mendF a) := by
  unfold spec_l02Mend spec_l02Inner spec_l01Finite spec_l02No
  simp only [bind_of, sqrt_spec, ite2_or]
  unfold mendF lenF innF
  cases (((Fl.cv .f64 .f32 (Fl.cv .f32 .f64 ((((a.W.mul a.W).add (a.X.mul a.X)).add (a.Y.mul a.Y)).add (a.Z.mul a.Z))).sqrt)).eq (Fl.mk (k := .f32) 0 (by decide)) || !((((Fl.cv .f64 .f32 (Fl.cv .f32 .f64 ((((a.W.mul a.W).add (a.X.mul a.X)).add (a.Y.mul a.Y)).add (a.Z.mul a.Z))).sqrt)).sub (Fl.cv .f64 .f32 (Fl.cv .f32 .f64 ((((a.W.mul a.W).add (a.X.mul a.X)).add (a.Y.mul a.Y)).add (a.Z.mul a.Z))).sqrt)).eq (Fl.mk (k := .f32) 0 (by decide)))) <;> rfl
theorem mend_impl (K : Nat) (a : Turn) : impl_MendTurn K a = some (mendF a) := by
  rw [← mend_spec K a]
  unfold impl_MendTurn impl_LengthOfTurn impl_InnerOfTurns impl_isLength impl_IsFinite impl_NoTurn spec_l02Mend spec_l02Inner spec_l01Finite spec_l02No
  simp only [bind_of, sqrt_spec, sqrt_impl, ite2_or, ite2_and, ne_eq']
  generalize (Fl.cv .f64 .f32 (Fl.cv .f32 .f64 ((((a.W.mul a.W).add (a.X.mul a.X)).add (a.Y.mul a.Y)).add (a.Z.mul a.Z))).sqrt) = n
  cases n.eq (Fl.mk (k := .f32) 0 (by decide)) <;> cases (n.sub n).eq (Fl.mk (k := .f32) 0 (by decide)) <;> rfl
def oppF (t : Turn) : Turn := Turn.mk t.W.neg t.X.neg t.Y.neg t.Z.neg
def stepF (a b s : F32) : F32 := a.add (s.mul (b.sub a))
def stepsF (a b : Turn) (s : F32) : Turn := mendF (Turn.mk (stepF a.W b.W s) (stepF a.X b.X s) (stepF a.Y b.Y s) (stepF a.Z b.Z s))
def nearT (a b : Turn) (s : F32) : Turn := if (innF a b).lt' (Fl.mk (k := .f32) 0 (by decide)) = true then stepsF a (oppF b) s else stepsF a b s
theorem near_spec (K : Nat) (a b : Turn) (s : F32) : spec_l02Near K a b s = some (nearT a b s) := by
  unfold spec_l02Near spec_l02Inner spec_l02Opposite spec_l02Step
  simp only [bind_of, mend_spec]
  unfold nearT innF
  cases ((((a.W.mul b.W).add (a.X.mul b.X)).add (a.Y.mul b.Y)).add (a.Z.mul b.Z)).lt' (Fl.mk (k := .f32) 0 (by decide)) <;> rfl
theorem near_impl (K : Nat) (a b : Turn) (s : F32) : impl_NearTurn K a b s = some (nearT a b s) := by
  unfold impl_NearTurn impl_InnerOfTurns impl_Turn_opposite impl_between
  simp only [bind_of, mend_impl]
  unfold nearT innF
  cases ((((a.W.mul b.W).add (a.X.mul b.X)).add (a.Y.mul b.Y)).add (a.Z.mul b.Z)).lt' (Fl.mk (k := .f32) 0 (by decide)) <;> rfl
def nearP (a b : Vector) (s : F32) : Vector := Vector.mk (a.X.add ((b.X.sub a.X).mul s)) (a.Y.add ((b.Y.sub a.Y).mul s)) (a.Z.add ((b.Z.sub a.Z).mul s))
theorem nearp_impl (K : Nat) (a b : Vector) (s : F32) : impl_BetweenVectors K a b s = some (nearP a b s) := rfl
theorem b10At_rng {K : Nat} {c : List Int} (hc : Byt c) (k n : Int) (hk : 0 ≤ k) (hk2 : k < 1000000) (hn : 1 ≤ n) : ∃ r, laws_b10At K c k n = some r ∧ 0 ≤ r ∧ r < n := by
  unfold laws_b10At
  rw [ite2_dec]
  by_cases h1 : n ≤ 1
  · rw [if_pos h1]; exact ⟨0, rfl, by omega, by omega⟩
  · rw [if_neg h1, ite2_dec]
    by_cases h : k < (c.length : Int)
    · have hb := hc _ (getD_mem (xs := c) (i := k.toNat) (by omega))
      rw [if_pos h, chk_pos (by omega), chk_pos (by omega), wrap_in (by omega) (by omega)]
      exact ⟨_, rfl, tmod_in hb.1 (by omega)⟩
    · rw [if_neg h, chk_pos (by omega), wrap_in (n := k * 37) (by omega) (by omega), wrap_in (by omega) (by omega)]
      exact ⟨_, rfl, tmod_in (by omega) (by omega)⟩

/-! A share of nought. -/
theorem zero_dz : Dz 0 0 (Fl.mk (k := .f32) 0 (by decide)) := Dz.of_zero rfl 0
theorem step0 {n m : Int} (hn : n.natAbs ≤ 2) (hm : m.natAbs ≤ 2) {y : F32} (hy : Dy 1 m y) : stepF (hf n) y (Fl.mk (k := .f32) 0 (by decide)) = hf n := by
  have d := (hy.sub (hf_dz hn).1 (by omega) (by omega))
  have e : Dy (0 + 1) (0 * (m - n)) ((Fl.mk (k := .f32) 0 (by decide)).mul (y.sub (hf n))) := zero_dz.1.mul d (by simp) (by omega)
  rw [Int.zero_mul] at e
  exact (hf_dz hn).add0 (e.zero 1) (by omega) (by omega)
def mendOK (i : Nat) : Bool := let m := mendF (uT i); let t := uT i; m.W.eq t.W && m.X.eq t.X && m.Y.eq t.Y && m.Z.eq t.Z
theorem mend_all : ∀ i : Fin 24, mendOK i.val = true := by decide +kernel
theorem near0 {i j : Nat} : nearT (uT i) (uT j) (Fl.mk (k := .f32) 0 (by decide)) = mendF (uT i) := by
  obtain ⟨h1, h2, h3, h4⟩ := H_le i
  obtain ⟨g1, g2, g3, g4⟩ := H_le j
  unfold nearT stepsF
  split
  · have e1 : stepF (uT i).W (oppF (uT j)).W (Fl.mk (k := .f32) 0 (by decide)) = (uT i).W := step0 h1 (m := -HW j) (by omega) (hf_dz g1).1.neg
    have e2 : stepF (uT i).X (oppF (uT j)).X (Fl.mk (k := .f32) 0 (by decide)) = (uT i).X := step0 h2 (m := -HX j) (by omega) (hf_dz g2).1.neg
    have e3 : stepF (uT i).Y (oppF (uT j)).Y (Fl.mk (k := .f32) 0 (by decide)) = (uT i).Y := step0 h3 (m := -HY j) (by omega) (hf_dz g3).1.neg
    have e4 : stepF (uT i).Z (oppF (uT j)).Z (Fl.mk (k := .f32) 0 (by decide)) = (uT i).Z := step0 h4 (m := -HZ j) (by omega) (hf_dz g4).1.neg
    rw [e1, e2, e3, e4]
  · have e1 : stepF (uT i).W (uT j).W (Fl.mk (k := .f32) 0 (by decide)) = (uT i).W := step0 h1 g1 (hf_dz g1).1
    have e2 : stepF (uT i).X (uT j).X (Fl.mk (k := .f32) 0 (by decide)) = (uT i).X := step0 h2 g2 (hf_dz g2).1
    have e3 : stepF (uT i).Y (uT j).Y (Fl.mk (k := .f32) 0 (by decide)) = (uT i).Y := step0 h3 g3 (hf_dz g3).1
    have e4 : stepF (uT i).Z (uT j).Z (Fl.mk (k := .f32) 0 (by decide)) = (uT i).Z := step0 h4 g4 (hf_dz g4).1
    rw [e1, e2, e3, e4]
theorem teq_of {K : Nat} {t u : Turn} (h : t.W.eq u.W = true ∧ t.X.eq u.X = true ∧ t.Y.eq u.Y = true ∧ t.Z.eq u.Z = true) : laws_b10TEqual K t u = some true := by
  unfold laws_b10TEqual
  rw [h.1, h.2.1, h.2.2.1, h.2.2.2]; rfl
theorem mend_eq {K i : Nat} (hi : i < 24) : laws_b10TEqual K (mendF (uT i)) (uT i) = some true := by
  have := mend_all ⟨i, hi⟩
  unfold mendOK at this
  simp only [Bool.and_eq_true] at this
  exact teq_of ⟨this.1.1.1, this.1.1.2, this.1.2, this.2⟩
/-- A vector of small integers. -/
structure Iv (x y : Int) (v : Vector) : Prop where
  x : Db 0 4 x v.X
  y : Db 0 4 y v.Y
  z : Db 0 4 0 v.Z
theorem iv_root {x y : Int} (hx : -4 ≤ x ∧ x ≤ 4) (hy : -4 ≤ y ∧ y ≤ 4) : Iv x y (Vector.mk (Fl.ofInt .f32 x) (Fl.ofInt .f32 y) default) :=
  ⟨⟨Dy.ofInt (by omega), by omega⟩, ⟨Dy.ofInt (by omega), by omega⟩, ⟨(Dz.of_zero (x := (default : F32)) rfl 0).1, by decide⟩⟩
theorem veq_of {K : Nat} {u v : Vector} (h : u.X.eq v.X = true ∧ u.Y.eq v.Y = true ∧ u.Z.eq v.Z = true) : laws_b10VEqual K u v = some true := by
  unfold laws_b10VEqual
  rw [h.1, h.2.1, h.2.2]; rfl
theorem Iv.eq {x y : Int} {u v : Vector} (hu : Dy 0 x u.X ∧ Dy 0 y u.Y ∧ Dy 0 0 u.Z) (hv : Iv x y v) : u.X.eq v.X = true ∧ u.Y.eq v.Y = true ∧ u.Z.eq v.Z = true := by
  refine ⟨?_, ?_, ?_⟩
  · rw [hu.1.eq hv.x.1, decide_eq_true rfl]
  · rw [hu.2.1.eq hv.y.1, decide_eq_true rfl]
  · rw [hu.2.2.eq hv.z.1, decide_eq_true rfl]
theorem between0 {x y : Int} {B : Nat} (hB : B ≤ 100) {a b : F32} (ha : Db 0 4 x a) (hb : Db 0 B y b) : Dy 0 x (a.add ((b.sub a).mul (Fl.mk (k := .f32) 0 (by decide)))) := by
  have d := (hb.sub ha (by omega) (by omega))
  have e : Dy (0 + 0) ((y - x) * 0) ((b.sub a).mul (Fl.mk (k := .f32) 0 (by decide))) := d.1.mul zero_dz.1 (by simp) (by omega)
  rw [Int.mul_zero] at e
  have := ha.1.add e (by have := ha.2; omega) (by omega)
  rwa [Int.add_zero] at this
theorem there {x y : Int} {a b : F32} (ha : Db 0 4 x a) (hb : Db 0 4 y b) : Dy 0 y (a.add (b.sub a)) := by
  have := (ha.add (hb.sub ha (by decide) (by omega)) (by decide) (by omega)).1
  rwa [show x + (y - x) = y by omega] at this
theorem times1 {x : Int} {a : F32} (ha : Db 0 4 x a) : Dy 0 x (a.mul (Fl.mk (k := .f32) 1065353216 (by decide))) := by
  have h1 : Dy 1 2 (Fl.mk (k := .f32) 1065353216 (by decide)) := (hf_dz (n := 2) (by decide)).1
  have h2 : Dy 0 1 (Fl.mk (k := .f32) 1065353216 (by decide)) := h1.down
  have := ha.1.mul h2 (by have := ha.2; omega) (by omega)
  rwa [Int.mul_one] at this
theorem mask_root {K : Nat} {p q : Pose} {n : Nat} (hp : ExP n p) (hq : ExP n q) : laws_b10VEqual K (nearP p.Root q.Root (Fl.mk (k := .f32) 0 (by decide))) p.Root = some true := by
  obtain ⟨x, y, hx, hy, e⟩ := hp.root
  obtain ⟨x2, y2, hx2, hy2, e2⟩ := hq.root
  have i1 := iv_root hx hy
  have i2 := iv_root hx2 hy2
  rw [← e] at i1
  rw [← e2] at i2
  exact veq_of (Iv.eq (x := x) (y := y) ⟨between0 (by decide) i1.x i2.x, between0 (by decide) i1.y i2.y, between0 (by decide) i1.z i2.z⟩ i1)

/-! Poses. -/
theorem isPose_eq {K n : Nat} {p : Pose} (h : p.Turns.length = n) (h1 : 1 ≤ n) (h12 : n ≤ 12) : impl_isPose K p = some true := by
  unfold impl_isPose
  rw [ite2_dec, if_pos (by omega), decide_eq_true (by omega)]; rfl
theorem pair_eq {K n : Nat} {p q : Pose} (h : p.Turns.length = n) (hq : q.Turns.length = n) (h1 : 1 ≤ n) (h12 : n ≤ 12) : impl_arePair K p q = some true := by
  unfold impl_arePair
  rw [isPose_eq h h1 h12, bind_of, ite2_true, h, hq, beq_self_eq_true]; rfl
theorem clone_eq {K : Nat} (a : List Turn) (h : a.length ≤ 12) : slices_Clone_impl_Turn_impl_Turn K a = some a := by
  unfold slices_Clone_impl_Turn_impl_Turn
  rw [chk_pos (by simp; omega)]; rfl
/-- What a blend has at a place. -/
def bl (p q : Pose) (s : F32) (mask : List Bool) (j : Nat) : Turn := if mask.getD j default = true then nearT (p.Turns.getD j default) (q.Turns.getD j default) s else p.Turns.getD j default
theorem bl_loop1 {K n : Nat} (p q : Pose) (s : F32) (mask : List Bool) (v : Vector) (hp : p.Turns.length = n) (hq : q.Turns.length = n) (hm : mask.length = n) (hn : n ≤ 12) : ∀ (k i : Nat) (ts : List Turn), i ≤ n → n - i < k → ts.length = n → (∀ j, j < i → ts.getD j default = bl p q s mask j) → (∀ j, i ≤ j → ts.getD j default = p.Turns.getD j default) →
    ∃ r, impl_BlendPoses_l1 K p q s mask v k (i : Int) ts = some (Pose.mk v r, true) ∧ r.length = n ∧ ∀ j, j < n → r.getD j default = bl p q s mask j := by
  intro k
  induction k with
  | zero => intro i ts _ h; omega
  | succ k ih =>
    intro i ts h1 h2 h3 h4 h5
    rw [impl_BlendPoses_l1, ite2_dec]
    by_cases hi : i < n
    · rw [if_pos (by omega), chk_pos (by omega), Int.toNat_natCast, wrap_nat1 (by omega)]
      cases hb : mask.getD i default
      · rw [ite2_false]
        refine ih (i + 1) ts (by omega) (by omega) h3 (fun j hj => ?_) (fun j hj => h5 j (by omega))
        by_cases e : j = i
        · subst e; rw [h5 j (Nat.le_refl _)]; unfold bl; rw [hb]; simp
        · exact h4 j (by omega)
      · rw [ite2_true, chk_pos (by omega), chk_pos (by omega), near_impl, bind_of, chk_pos (by omega)]
        refine ih (i + 1) _ (by omega) (by omega) (by simp; exact h3) (fun j hj => ?_) (fun j hj => by rw [set_ne (by omega)]; exact h5 j (by omega))
        by_cases e : i = j
        · subst e; rw [set_getD (by omega)]; unfold bl; rw [hb]; simp
        · rw [set_ne e]; exact h4 j (by omega)
    · rw [if_neg (by omega)]
      exact ⟨ts, rfl, h3, fun j hj => h4 j (by omega)⟩
theorem bl_loop2 {K n : Nat} (p q : Pose) (s : F32) (mask : List Bool) (hp : p.Turns.length = n) (hq : q.Turns.length = n) (hm : mask.length = n) (hn : n ≤ 12) : ∀ (k i : Nat) (ts : List Turn), i ≤ n → n - i < k → ts.length = n → (∀ j, j < i → ts.getD j default = bl p q s mask j) → (∀ j, i ≤ j → ts.getD j default = p.Turns.getD j default) →
    ∃ r, impl_BlendPoses_l2 K p q s mask k (i : Int) ts = some (Pose.mk p.Root r, true) ∧ r.length = n ∧ ∀ j, j < n → r.getD j default = bl p q s mask j := by
  intro k
  induction k with
  | zero => intro i ts _ h; omega
  | succ k ih =>
    intro i ts h1 h2 h3 h4 h5
    rw [impl_BlendPoses_l2, ite2_dec]
    by_cases hi : i < n
    · rw [if_pos (by omega), chk_pos (by omega), Int.toNat_natCast, wrap_nat1 (by omega)]
      cases hb : mask.getD i default
      · rw [ite2_false]
        refine ih (i + 1) ts (by omega) (by omega) h3 (fun j hj => ?_) (fun j hj => h5 j (by omega))
        by_cases e : j = i
        · subst e; rw [h5 j (Nat.le_refl _)]; unfold bl; rw [hb]; simp
        · exact h4 j (by omega)
      · rw [ite2_true, chk_pos (by omega), chk_pos (by omega), near_impl, bind_of, chk_pos (by omega)]
        refine ih (i + 1) _ (by omega) (by omega) (by simp; exact h3) (fun j hj => ?_) (fun j hj => by rw [set_ne (by omega)]; exact h5 j (by omega))
        by_cases e : i = j
        · subst e; rw [set_getD (by omega)]; unfold bl; rw [hb]; simp
        · rw [set_ne e]; exact h4 j (by omega)
    · rw [if_neg (by omega)]
      exact ⟨ts, rfl, h3, fun j hj => h4 j (by omega)⟩
theorem blend_eq {K n : Nat} (hK : 20 < K) (p q : Pose) (s : F32) (mask : List Bool) (hp : p.Turns.length = n) (hq : q.Turns.length = n) (hm : mask.length = n) (h1 : 1 ≤ n) (hn : n ≤ 12) :
    ∃ r, impl_BlendPoses K p q s mask = some (Pose.mk (if mask.getD 0 default = true then nearP p.Root q.Root s else p.Root) r, true) ∧ r.length = n ∧ ∀ j, j < n → r.getD j default = bl p q s mask j := by
  unfold impl_BlendPoses
  rw [pair_eq hp hq h1 hn, bind_of, Bool.not_true, ite2_false, hp, hm, bne_self_eq_false, bind_of, ite2_false, clone_eq _ (by omega), bind_of, chk_pos (by omega), nearp_impl, bind_of]
  cases hb : mask.getD ((0 : Int).toNat) default
  · have hb' : mask.getD 0 default = false := hb
    rw [ite2_false, hb']
    exact bl_loop2 p q s mask hp hq hm hn K 0 p.Turns (by omega) (by omega) hp (fun j hj => by omega) (fun j _ => rfl)
  · have hb' : mask.getD 0 default = true := hb
    rw [ite2_true, hb']
    exact bl_loop1 p q s mask _ hp hq hm hn K 0 p.Turns (by omega) (by omega) hp (fun j hj => by omega) (fun j _ => rfl)
theorem less_loop {K n : Nat} (p q : Pose) (v : Vector) (hp : p.Turns.length = n) (hq : q.Turns.length = n) (hn : n ≤ 12) : ∀ (k i : Nat) (ts : List Turn), i ≤ n → n - i < k → ts.length = n → (∀ j, j < i → ts.getD j default = mulF (invF (p.Turns.getD j default)) (q.Turns.getD j default)) →
    ∃ r, impl_DifferenceOf_l1 K p q v k (i : Int) ts = some (Pose.mk v r, true) ∧ r.length = n ∧ ∀ j, j < n → r.getD j default = mulF (invF (p.Turns.getD j default)) (q.Turns.getD j default) := by
  intro k
  induction k with
  | zero => intro i ts _ h; omega
  | succ k ih =>
    intro i ts h1 h2 h3 h4
    rw [impl_DifferenceOf_l1, ite2_dec]
    by_cases hi : i < n
    · unfold impl_InverseOf impl_MulTurns
      rw [if_pos (by omega), chk_pos (by omega), chk_pos (by omega), Int.toNat_natCast, wrap_nat1 (by omega), bind_of, bind_of, chk_pos (by omega)]
      refine ih (i + 1) _ (by omega) (by omega) (by simp; exact h3) (fun j hj => ?_)
      by_cases e : i = j
      · subst e; rw [set_getD (by omega)]; rfl
      · rw [set_ne e]; exact h4 j (by omega)
    · rw [if_neg (by omega)]
      exact ⟨ts, rfl, h3, fun j hj => h4 j (by omega)⟩
theorem less_eq {K n : Nat} (hK : 20 < K) (p q : Pose) (hp : p.Turns.length = n) (hq : q.Turns.length = n) (h1 : 1 ≤ n) (hn : n ≤ 12) :
    ∃ r, impl_DifferenceOf K p q = some (Pose.mk (Vector.mk (q.Root.X.sub p.Root.X) (q.Root.Y.sub p.Root.Y) (q.Root.Z.sub p.Root.Z)) r, true) ∧ r.length = n ∧ ∀ j, j < n → r.getD j default = mulF (invF (p.Turns.getD j default)) (q.Turns.getD j default) := by
  unfold impl_DifferenceOf impl_LessVectors
  rw [pair_eq hp hq h1 hn, bind_of, Bool.not_true, ite2_false, bind_of, chk_pos (by omega), Int.toNat_natCast, hq]
  exact less_loop p q _ hp hq hn K 0 _ (by omega) (by omega) (by simp) (fun j hj => by omega)
theorem add_loop {K n : Nat} (p q : Pose) (v : Vector) (hp : p.Turns.length = n) (hq : q.Turns.length = n) (hn : n ≤ 12) : ∀ (k i : Nat) (ts : List Turn), i ≤ n → n - i < k → ts.length = n → (∀ j, j < i → ts.getD j default = mulF (p.Turns.getD j default) (q.Turns.getD j default)) →
    ∃ r, impl_AddDifference_l1 K p q v k (i : Int) ts = some (Pose.mk v r, true) ∧ r.length = n ∧ ∀ j, j < n → r.getD j default = mulF (p.Turns.getD j default) (q.Turns.getD j default) := by
  intro k
  induction k with
  | zero => intro i ts _ h; omega
  | succ k ih =>
    intro i ts h1 h2 h3 h4
    rw [impl_AddDifference_l1, ite2_dec]
    by_cases hi : i < n
    · unfold impl_MulTurns
      rw [if_pos (by omega), chk_pos (by omega), chk_pos (by omega), Int.toNat_natCast, wrap_nat1 (by omega), bind_of, chk_pos (by omega)]
      refine ih (i + 1) _ (by omega) (by omega) (by simp; exact h3) (fun j hj => ?_)
      by_cases e : i = j
      · subst e; rw [set_getD (by omega)]; rfl
      · rw [set_ne e]; exact h4 j (by omega)
    · rw [if_neg (by omega)]
      exact ⟨ts, rfl, h3, fun j hj => h4 j (by omega)⟩
theorem add_eq {K n : Nat} (hK : 20 < K) (p q : Pose) (hp : p.Turns.length = n) (hq : q.Turns.length = n) (h1 : 1 ≤ n) (hn : n ≤ 12) :
    ∃ r, impl_AddDifference K p q = some (Pose.mk (Vector.mk (p.Root.X.add q.Root.X) (p.Root.Y.add q.Root.Y) (p.Root.Z.add q.Root.Z)) r, true) ∧ r.length = n ∧ ∀ j, j < n → r.getD j default = mulF (p.Turns.getD j default) (q.Turns.getD j default) := by
  unfold impl_AddDifference impl_AddVectors
  rw [pair_eq hp hq h1 hn, bind_of, Bool.not_true, ite2_false, bind_of, chk_pos (by omega), Int.toNat_natCast, hq]
  exact add_loop p q _ hp hq hn K 0 _ (by omega) (by omega) (by simp) (fun j hj => by omega)
theorem carry_loop {K n : Nat} (p : Pose) (v : Vector) (fr : List Int) (hf : fr.length = n) (hfv : ∀ j, j < n → fr.getD j default = (j : Int)) (hp : p.Turns.length = n) (hn : n ≤ 12) : ∀ (k i : Nat) (ts : List Turn), i ≤ n → n - i < k → ts.length = n → (∀ j, j < i → ts.getD j default = p.Turns.getD j default) →
    ∃ r, impl_CarryPose_l1 K p fr v k (i : Int) ts = some (Pose.mk v r, true) ∧ r.length = n ∧ ∀ j, j < n → r.getD j default = p.Turns.getD j default := by
  intro k
  induction k with
  | zero => intro i ts _ h; omega
  | succ k ih =>
    intro i ts h1 h2 h3 h4
    rw [impl_CarryPose_l1, ite2_dec]
    by_cases hi : i < n
    · rw [if_pos (by omega), chk_pos (by omega), Int.toNat_natCast, hfv i hi, wrap_nat1 (by omega), ite2_dec, if_neg (by omega), bind_of, decide_eq_false (show ¬ ((i : Int) ≥ (p.Turns.length : Int)) by omega), ite2_false, ite2_dec, if_pos (by omega), chk_pos (by omega), chk_pos (by omega), Int.toNat_natCast]
      refine ih (i + 1) _ (by omega) (by omega) (by simp; exact h3) (fun j hj => ?_)
      by_cases e : i = j
      · subst e; rw [set_getD (by omega)]
      · rw [set_ne e]; exact h4 j (by omega)
    · rw [if_neg (by omega)]
      exact ⟨ts, rfl, h3, fun j hj => h4 j (by omega)⟩
theorem rep_eq {K : Nat} (hK : 20 < K) (x : Turn) (c : Nat) (h1 : 1 ≤ c) (h6 : c ≤ 6) : slices_Repeat_impl_Turn_impl_Turn K [x] (c : Int) = some (List.replicate c x) := by
  obtain ⟨k, rfl⟩ : ∃ k, K = k + 20 := ⟨K - 20, by omega⟩
  have hc : c = 1 ∨ c = 2 ∨ c = 3 ∨ c = 4 ∨ c = 5 ∨ c = 6 := by omega
  rcases hc with rfl | rfl | rfl | rfl | rfl | rfl <;> (show _ = _; kernel_rfl)
theorem carry_eq {K n : Nat} (hK : 20 < K) (p : Pose) (fr : List Int) (s : F32) (hf : fr.length = n) (hfv : ∀ j, j < n → fr.getD j default = (j : Int)) (hp : p.Turns.length = n) (h1 : 1 ≤ n) (hn : n ≤ 6) :
    ∃ r, impl_CarryPose K p fr s = some (Pose.mk (Vector.mk (p.Root.X.mul s) (p.Root.Y.mul s) (p.Root.Z.mul s)) r, true) ∧ r.length = n ∧ ∀ j, j < n → r.getD j default = p.Turns.getD j default := by
  unfold impl_CarryPose impl_restOf impl_NoTurn impl_ScaleVector
  rw [isPose_eq hp h1 (by omega), bind_of, Bool.not_true, ite2_false, ite2_dec, if_neg (by omega), bind_of, decide_eq_false (by omega), ite2_false, bind_of, hf, rep_eq hK _ _ h1 hn, bind_of, bind_of, bind_of]
  exact carry_loop p _ fr hf hfv hp (by omega) K 0 _ (by omega) (by omega) (by simp) (fun j hj => by omega)

/-! The law. -/
theorem toBits_some (x : F32) (h : x.ne x = false) : ∃ n, x.toBits = some n := by
  unfold Fl.toBits
  have : nanB .f32 x.bits = false := by
    cases hn : nanB .f32 x.bits
    · rfl
    · exfalso
      have : x.ne x = true := by
        show (FloatKind.f32.format.order x.bits x.bits != some .eq) = true
        rw [order_nan x x (.inl hn)]; rfl
      rw [this] at h; cases h
  simp [this]
theorem same_refl (K : Nat) (x : F32) : spec_l01Same K x x = some true := by
  unfold spec_l01Same spec_l01Bits math_Float32bits
  cases h : x.ne x
  · obtain ⟨n, hn⟩ := toBits_some x h
    rw [ite2_false, hn, bind_of, bind_of, bind_of, beq_self_eq_true]
  · rw [ite2_true, bind_of, bind_of]; rfl
theorem sameT_refl (K : Nat) (t : Turn) : spec_SameTurn K t t = some true := by
  unfold spec_SameTurn
  simp [spec_l02Same, same_refl, ite2]
theorem sameV_refl (K : Nat) (t : Vector) : spec_SameVector K t t = some true := by
  unfold spec_SameVector
  simp [spec_l01VSame, same_refl, ite2]

theorem near_refl (K : Nat) (p q : Turn) (s : F32) : spec_NearTurn K p q s = some (nearT p q s) := by
  unfold spec_NearTurn
  rw [near_spec]; rfl
/-- What the parts of the law are. -/
structure Parts (n : Nat) (p q : Pose) (s : F32) (mask : List Bool) (a b e c : Pose × Bool) : Prop where
  al : a.1.Turns.length = n
  bl' : b.1.Turns.length = n
  el : e.1.Turns.length = n
  cl : c.1.Turns.length = n
  av : ∀ j, j < n → a.1.Turns.getD j default = bl p q (Fl.mk (k := .f32) 0 (by decide)) mask j
  bv : ∀ j, j < n → b.1.Turns.getD j default = bl p q s mask j
  br : mask.getD 0 default = false → b.1.Root = p.Root
  ev : ∀ j, j < n → ∃ u, Un u (e.1.Turns.getD j default) ∧ q.Turns.getD j default = uT u
  cv : ∀ j, j < n → c.1.Turns.getD j default = p.Turns.getD j default
theorem l2_eq {K n : Nat} {a1 : List Int} (v4 v90 : Int) {p q : Pose} {mask : List Bool} {a b e c : Pose × Bool} (h90 : laws_b10At K a1 7 17 = some v90) (hn : 1 + v4 = (n : Int)) (h1 : 1 ≤ n) (hn6 : n ≤ 6) (hp : ExP n p) (hq : ExP n q) (hm : mask.length = n)
    (h : Parts n p q ((Fl.ofInt .f32 v90).div (Fl.mk (k := .f32) 1098907648 (by decide))) mask a b e c) : ∀ (k i : Nat), i ≤ n → n - i < k → laws_FnBlended_l2 K a1 v4 p q mask a b e c k (i : Int) = some true := by
  have wn : IntKind.i64.wrap ((1 : Int) + v4) = (n : Int) := by rw [hn, wrap_in (by omega) (by omega)]
  have pl := hp.len; have ql := hq.len; have al := h.al; have bl2 := h.bl'; have el := h.el; have cl := h.cl
  intro k
  induction k with
  | zero => intro i _ h; omega
  | succ k ih =>
    intro i g1 g2
    rw [laws_FnBlended_l2, wn, ite2_dec]
    by_cases hi : i < n
    · obtain ⟨u, u1, u2⟩ := hp.turns i hi
      obtain ⟨w, w1, w2⟩ := hq.turns i hi
      obtain ⟨x, x1, x2⟩ := h.ev i hi
      have ta : laws_b10TEqual K (a.1.Turns.getD i default) (p.Turns.getD i default) = some true := by
        rw [h.av i hi]
        unfold bl
        split
        · rw [u2, w2, near0]; exact mend_eq u1
        · rw [u2]; exact teq_of (Un.eq (uT_un u) (uT_un u))
      have te : laws_b10TEqual K (e.1.Turns.getD i default) (q.Turns.getD i default) = some true := by
        rw [x2]; exact teq_of (Un.eq x1 (uT_un x))
      have hrest := ih (i + 1) (by omega) (by omega)
      rw [if_pos (by omega), chk_pos (by omega), chk_pos (by omega), Int.toNat_natCast, wrap_nat1 (by omega), ta, bind_of, Bool.not_true, ite2_false, chk_pos (by omega)]
      rw [chk_pos (show 0 ≤ (i : Int) ∧ (i : Int) < (e.1.Turns.length : Int) by omega), chk_pos (show 0 ≤ (i : Int) ∧ (i : Int) < (q.Turns.length : Int) by omega), te, bind_of, Bool.not_true, ite2_false, chk_pos (show 0 ≤ (i : Int) ∧ (i : Int) < (c.1.Turns.length : Int) by omega), h.cv i hi, sameT_refl, bind_of, Bool.not_true]
      have hbi := h.bv i hi
      cases hb : mask.getD i default
      · have e1 : b.1.Turns.getD i default = p.Turns.getD i default := by rw [hbi]; unfold bl; rw [hb]; simp
        rw [Bool.not_false, ite2_true, chk_pos (by omega), e1, sameT_refl, bind_of, Bool.not_true, ite2_false, bind_of, ite2_false, chk_pos (by omega), ite2_false, bind_of, ite2_false]
        exact hrest
      · have e1 : b.1.Turns.getD i default = nearT (p.Turns.getD i default) (q.Turns.getD i default) ((Fl.ofInt .f32 v90).div (Fl.mk (k := .f32) 1098907648 (by decide))) := by rw [hbi]; unfold bl; rw [hb]; simp
        rw [Bool.not_true, ite2_false, bind_of, ite2_false, chk_pos (by omega), ite2_true, chk_pos (by omega), chk_pos (by omega), h90, bind_of, near_refl, bind_of, e1, sameT_refl, bind_of, Bool.not_true, bind_of, ite2_false]
        exact hrest
    · rw [if_neg (by omega), chk_pos (by omega)]
      cases hb : mask.getD 0 default
      · have hb' : mask.getD ((0 : Int).toNat) default = false := hb
        rw [hb', ite2_false, h.br hb, sameV_refl, bind_of, bind_of]
      · have hb' : mask.getD ((0 : Int).toNat) default = true := hb
        rw [hb', ite2_true, bind_of]
theorem l1_eq {K n : Nat} (hK : 100 < K) {a1 : List Int} (ha1 : Byt a1) (v4 : Int) {p q : Pose} (hn : 1 + v4 = (n : Int)) (h1 : 1 ≤ n) (hn6 : n ≤ 6) (hp : ExP n p) (hq : ExP n q) : ∀ (k i : Nat) (mask : List Bool) (fr : List Int), i ≤ n → n - i < k → mask.length = i → fr.length = i → (∀ j, j < i → fr.getD j default = (j : Int)) →
    laws_FnBlended_l1 K a1 v4 p q k (i : Int) mask fr = some true := by
  have wn : IntKind.i64.wrap ((1 : Int) + v4) = (n : Int) := by rw [hn, wrap_in (by omega) (by omega)]
  intro k
  induction k with
  | zero => intro i _ _ _ h; omega
  | succ k ih =>
    intro i mask fr g1 g2 hm hf hfv
    rw [laws_FnBlended_l1, wn, ite2_dec]
    by_cases hi : i < n
    · obtain ⟨v, hv, _, _⟩ := b10At_rng (K := K) ha1 (i : Int) 2 (by omega) (by omega) (by omega)
      rw [if_pos (by omega), hv, bind_of, chk_pos (by simp; omega), chk_pos (by simp; omega), wrap_nat1 (by omega)]
      refine ih (i + 1) _ _ (by omega) (by omega) (by simp; omega) (by simp; omega) (fun j hj => ?_)
      by_cases e : j < i
      · rw [getD_left (by omega)]; exact hfv j e
      · have : j = i := by omega
        subst this
        rw [getD_end (by omega)]
    · have e : i = n := by omega
      subst e
      obtain ⟨v90, h90, _, _⟩ := b10At_rng (K := K) ha1 7 17 (by omega) (by omega) (by omega)
      obtain ⟨ra, a2, a3, a4⟩ := blend_eq (K := K) (by omega) p q (Fl.mk (k := .f32) 0 (by decide)) mask hp.len hq.len hm h1 (by omega)
      obtain ⟨rb, b2, b3, b4⟩ := blend_eq (K := K) (by omega) p q ((Fl.ofInt .f32 v90).div (Fl.mk (k := .f32) 1098907648 (by decide))) mask hp.len hq.len hm h1 (by omega)
      obtain ⟨rd, d2, d3, d4⟩ := less_eq (K := K) (by omega) p q hp.len hq.len h1 (by omega)
      obtain ⟨re, e2, e3, e4⟩ := add_eq (K := K) (by omega) p (Pose.mk (Vector.mk (q.Root.X.sub p.Root.X) (q.Root.Y.sub p.Root.Y) (q.Root.Z.sub p.Root.Z)) rd) hp.len d3 h1 (by omega)
      obtain ⟨rc, c2, c3, c4⟩ := carry_eq (K := K) (by omega) p fr (Fl.mk (k := .f32) 1065353216 (by decide)) hf hfv hp.len h1 hn6
      obtain ⟨x, y, hx, hy, er⟩ := hp.root
      obtain ⟨x2, y2, hx2, hy2, er2⟩ := hq.root
      have i1 := iv_root hx hy
      have i2 := iv_root hx2 hy2
      rw [← er] at i1
      rw [← er2] at i2
      have t1 : laws_b10VEqual K (if mask.getD 0 default = true then nearP p.Root q.Root (Fl.mk (k := .f32) 0 (by decide)) else p.Root) p.Root = some true := by
        split
        · exact mask_root hp hq
        · exact veq_of (Iv.eq ⟨i1.x.1, i1.y.1, i1.z.1⟩ i1)
      have t2 : laws_b10VEqual K (Vector.mk (p.Root.X.add (q.Root.X.sub p.Root.X)) (p.Root.Y.add (q.Root.Y.sub p.Root.Y)) (p.Root.Z.add (q.Root.Z.sub p.Root.Z))) q.Root = some true :=
        veq_of (Iv.eq (x := x2) (y := y2) ⟨there i1.x i2.x, there i1.y i2.y, there i1.z i2.z⟩ i2)
      have t3 : laws_b10VEqual K (Vector.mk (p.Root.X.mul (Fl.mk (k := .f32) 1065353216 (by decide))) (p.Root.Y.mul (Fl.mk (k := .f32) 1065353216 (by decide))) (p.Root.Z.mul (Fl.mk (k := .f32) 1065353216 (by decide)))) p.Root = some true :=
        veq_of (Iv.eq (x := x) (y := y) ⟨times1 i1.x, times1 i1.y, times1 i1.z⟩ i1)
      rw [if_neg (by omega), a2, bind_of, h90, bind_of, b2, bind_of, d2, bind_of, e2, bind_of, c2, bind_of]
      simp only [Bool.not_true, ite2_false, a3, b3, e3, c3, bne_self_eq_false, t1, t2, t3, bind_of]
      have := l2_eq (K := K) (n := i) (a1 := a1) v4 v90 (p := p) (q := q) (mask := mask) h90 hn h1 hn6 hp hq hm (a := (Pose.mk (if mask.getD 0 default = true then nearP p.Root q.Root (Fl.mk (k := .f32) 0 (by decide)) else p.Root) ra, true)) (b := (Pose.mk (if mask.getD 0 default = true then nearP p.Root q.Root ((Fl.ofInt .f32 v90).div (Fl.mk (k := .f32) 1098907648 (by decide))) else p.Root) rb, true))
        (e := (Pose.mk (Vector.mk (p.Root.X.add (q.Root.X.sub p.Root.X)) (p.Root.Y.add (q.Root.Y.sub p.Root.Y)) (p.Root.Z.add (q.Root.Z.sub p.Root.Z))) re, true)) (c := (Pose.mk (Vector.mk (p.Root.X.mul (Fl.mk (k := .f32) 1065353216 (by decide))) (p.Root.Y.mul (Fl.mk (k := .f32) 1065353216 (by decide))) (p.Root.Z.mul (Fl.mk (k := .f32) 1065353216 (by decide)))) rc, true))
        ⟨a3, b3, e3, c3, a4, b4, fun hb => by simp only [hb]; rfl, fun j hj => ?_, c4⟩ K 0 (by omega) (by omega)
      · exact this
      · obtain ⟨u, u1, u2⟩ := hp.turns j hj
        obtain ⟨w, w1, w2⟩ := hq.turns j hj
        refine ⟨w, ?_, w2⟩
        have hh := e4 j hj
        show Un w (re.getD j default)
        rw [hh]
        show Un w (mulF (p.Turns.getD j default) (rd.getD j default))
        rw [d4 j hj, u2, w2]
        obtain ⟨_, _, _, _, m5, m6, _⟩ := mulI_is (i := invI u) (j := w) (invI_is u1).2.2.2.2 w1
        have := Un.mul (i := u) (j := mulI (invI u) w) u1 m5 (uT_un u) (Un.mul (invI_is u1).2.2.2.2 w1 ((uT_un u).inv u1) (uT_un w))
        rw [(mulI_is u1 w1).2.2.2.2.2.1] at this
        exact this
theorem blended_true (a b : List Int) (ha : Byt a) (hb : Byt b) : ∃ K, laws_FnBlended K a b = some true := by
  refine ⟨1000, ?_⟩
  unfold laws_FnBlended laws_b10Long
  cases hlong : ite2 (decide ((a.length : Int) > 1048576)) (some true) (some (decide ((b.length : Int) > 1048576))) with
  | none => revert hlong; unfold ite2; split <;> intro h <;> cases h
  | some g =>
  rw [bind_of, bind_of]
  cases g with
  | true => rfl
  | false =>
  rw [ite2_false]
  obtain ⟨v4, e4, q1, q2⟩ := b10At_rng (K := 1000) ha 0 6 (by omega) (by omega) (by omega)
  obtain ⟨n, hn⟩ := Int.eq_ofNat_of_zero_le (show 0 ≤ 1 + v4 by omega)
  obtain ⟨p, e1, hp⟩ := exact_drawn (K := 1000) (n := n) (by omega) ha (by omega)
  obtain ⟨q, e2, hq⟩ := exact_drawn (K := 1000) (n := n) (by omega) hb (by omega)
  rw [e4, bind_of, wrap_in (by omega) (by omega), hn, e1, bind_of, e2, bind_of]
  have := l1_eq (K := 1000) (by omega) hb v4 hn (by omega) (by omega) hp hq 1000 0 [] [] (by omega) (by omega) rfl rfl (fun j hj => by omega)
  exact this
theorem law_FnBlended (a b : List Int) (ha : a.length ≤ maxLen ∧ ∀ x ∈ a, (Lit.int .u8 x).wf = true) (hb : b.length ≤ maxLen ∧ ∀ x ∈ b, (Lit.int .u8 x).wf = true) : ∃ K, laws_FnBlended K a b = some true := by
  have byt : ∀ {c : List Int}, (∀ x ∈ c, (Lit.int .u8 x).wf = true) → Byt c := fun h x hx => by
    have := h x hx
    simp only [Lit.wf, Bool.and_eq_true, decide_eq_true_eq] at this
    have e1 : IntKind.u8.min = 0 := by decide
    have e2 : IntKind.u8.max = 255 := by decide
    omega
  exact blended_true a b (byt ha.2) (byt hb.2)

end Go.Fw
