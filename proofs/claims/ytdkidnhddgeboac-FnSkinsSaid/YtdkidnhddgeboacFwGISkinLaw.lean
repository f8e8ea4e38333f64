/- The law of skins, in plain Lean. -/
import Derived.Test.YtdkidnhddgeboacFwGIWorldBase
import Derived.Test.YtdkidnhddgeboacFwFB
namespace Go.Fw
open Go

abbrev oneF : F32 := Fl.mk (k := .f32) 1065353216 (by decide)
theorem one_db : Db 0 1 1 oneF := by
  have e : Ieee.single.read oneF.bits = .number false 8388608 (-23) := by decide
  exact ⟨⟨false, 8388608, -23, e, 0, 23, by omega, by decide⟩, by decide⟩
theorem sqrt_impl (K : Nat) (x : F32) : impl_RootNumber K x = some (Fl.cv .f64 .f32 (Fl.cv .f32 .f64 x).sqrt) := by
  unfold impl_RootNumber math_Sqrt math_sqrt
  simp only [bind_of, chk_pos (narrow_root x)]
def rootF (x : F32) : F32 := Fl.cv .f64 .f32 (Fl.cv .f32 .f64 x).sqrt
def lessF (a b : Vector) : Vector := Vector.mk (a.X.sub b.X) (a.Y.sub b.Y) (a.Z.sub b.Z)
def plusF (a b : Vector) : Vector := Vector.mk (a.X.add b.X) (a.Y.add b.Y) (a.Z.add b.Z)
def timesF (a : Vector) (x : F32) : Vector := Vector.mk (a.X.mul x) (a.Y.mul x) (a.Z.mul x)
theorem less_impl (K : Nat) (a b : Vector) : impl_LessVectors K a b = some (lessF a b) := rfl
theorem less_spec (K : Nat) (a b : Vector) : spec_LessVectors K a b = some (lessF a b) := rfl
theorem plus_impl (K : Nat) (a b : Vector) : impl_AddVectors K a b = some (plusF a b) := rfl
theorem times_impl (K : Nat) (a : Vector) (x : F32) : impl_ScaleVector K a x = some (timesF a x) := rfl
theorem square_eq (K : Nat) (a : Vector) : laws_b10Square K a = some (sqrF a) := rfl
theorem mul_impl (K : Nat) (a b : Turn) : impl_MulTurns K a b = some (mulF a b) := rfl
theorem inv_impl (K : Nat) (a : Turn) : impl_InverseOf K a = some (invF a) := rfl
theorem Vb.times {B : Nat} {q : V3} {v : Vector} (h : Vb B q v) (hB : B < 16777216) : Vb B q (timesF v oneF) := by
  have o : ∀ {n : Int} {x : F32}, Db 0 B n x → Db 0 B n (x.mul oneF) := fun {n x} hx => by
    have := hx.mul one_db (by omega) (by decide)
    rw [Int.mul_one, Nat.mul_one] at this
    exact this
  exact ⟨o h.x, o h.y, o h.z⟩
theorem Vb.zero : Vb 0 (0, 0, 0) (Vector.mk (default : F32) (default : F32) (default : F32)) := by
  have z : Db 0 0 0 (default : F32) := ⟨(Dz.of_zero (x := (default : F32)) rfl 0).1, by decide⟩
  exact ⟨z, z, z⟩
theorem Vb.zplus {B : Nat} {q : V3} {v : Vector} (h : Vb B q v) (hB : B < 16777216) : Vb B q (plusF (Vector.mk (default : F32) (default : F32) (default : F32)) v) := by
  have := Vb.zero.add h (by omega)
  rw [Nat.zero_add, show addV (0, 0, 0) q = q by simp [addV]] at this
  exact this

/-! Mixing one turn. -/
def innF (a b : Turn) : F32 := (((a.W.mul b.W).add (a.X.mul b.X)).add (a.Y.mul b.Y)).add (a.Z.mul b.Z)
theorem inn_impl (K : Nat) (a b : Turn) : impl_InnerOfTurns K a b = some (innF a b) := rfl
theorem rt_all : ∀ i : Fin 24, rootF (innF (uT i.val) (uT i.val)) = oneF := by decide +kernel
theorem sq_all : ∀ i : Fin 24, HW i.val * HW i.val + HX i.val * HX i.val + HY i.val * HY i.val + HZ i.val * HZ i.val = 4 := by decide +kernel
theorem div_one {n : Int} (h : n.natAbs ≤ 2) : (hf n).div oneF = hf n := by
  have hn : n = 2 ∨ n = 1 ∨ n = 0 ∨ n = -1 ∨ n = -2 := by omega
  rcases hn with rfl | rfl | rfl | rfl | rfl <;> decide +kernel
theorem mend_un (K : Nat) {m : Nat} (hm : m < 24) : impl_MendTurn K (uT m) = some (uT m) := by
  have h1 : rootF (innF (uT m) (uT m)) = oneF := rt_all ⟨m, hm⟩
  have hl : impl_LengthOfTurn K (uT m) = some oneF := by
    unfold impl_LengthOfTurn
    rw [inn_impl, bind_of, sqrt_impl, bind_of]
    exact congrArg some h1
  have hi : impl_isLength K oneF = some true := by
    unfold impl_isLength impl_IsFinite
    rw [bind_of, show ((oneF.sub oneF).eq (Fl.mk (k := .f32) 0 (by decide))) = true by decide +kernel, ite2_true, show (oneF.ne (Fl.mk (k := .f32) 0 (by decide))) = true by decide +kernel]; rfl
  obtain ⟨b1, b2, b3, b4⟩ := H_le m
  unfold impl_MendTurn
  rw [hl, bind_of, hi, bind_of, Bool.not_true, ite2_false]
  show some (Turn.mk ((hf (HW m)).div oneF) ((hf (HX m)).div oneF) ((hf (HY m)).div oneF) ((hf (HZ m)).div oneF)) = _
  rw [div_one b1, div_one b2, div_one b3, div_one b4]; rfl
theorem hf_of {n : Int} {x : F32} (h : Db 1 2 n x) : (default : F32).add (x.mul oneF) = hf n := by
  have hn := h.2
  have h1 := h.1.mul one_db.1 (by omega) (by decide)
  rw [Int.mul_one] at h1
  have h2 := (Dz.of_zero (x := (default : F32)) rfl 1).add h1 (by omega) (by decide)
  rw [Int.zero_add] at h2
  exact h2.uniq (hf_dz hn)
theorem inn_un {m : Nat} {t : Turn} (hm : m < 24) (ht : Un m t) : Dy 2 4 (innF t t) := by
  have h := ((((ht.w.mul ht.w (by omega) (by decide)).add (ht.x.mul ht.x (by omega) (by decide)) (by omega) (by decide)).add (ht.y.mul ht.y (by omega) (by decide)) (by omega) (by decide)).add (ht.z.mul ht.z (by omega) (by decide)) (by omega) (by decide)).1
  rw [sq_all ⟨m, hm⟩] at h
  exact h
theorem mix_one {K m : Nat} (hK : 2 < K) (hm : m < 24) {t : Turn} (ht : Un m t) : impl_mixTurns K [t] [oneF] = some (uT m) := by
  have go : ∀ f, impl_mixTurns_l1 K [t] [oneF] (f + 2) (0 : Int) (default : F32) (default : F32) (default : F32) (default : F32) = some (uT m) := by
    intro f
    have hz : Dy 2 0 (Fl.mk (k := .f32) 0 (by decide)) := (Dz.of_zero rfl 2).1
    rw [impl_mixTurns_l1, ite2_dec, if_pos (by simp), chk_pos (by simp), chk_pos (by simp), show ([t].getD ((0 : Int).toNat) default) = t from rfl, show ([oneF].getD ((0 : Int).toNat) default) = oneF from rfl, inn_impl, bind_of, (inn_un hm ht).lt hz, decide_eq_false (by omega), ite2_false, chk_pos (by simp), hf_of ht.w, hf_of ht.x, hf_of ht.y, hf_of ht.z,
      show IntKind.i64.wrap ((0 : Int) + 1) = 1 by decide, impl_mixTurns_l1, ite2_dec, if_neg (by simp)]
    show (impl_MendTurn K (uT m)).bind _ = _
    rw [mend_un K hm]; rfl
  obtain ⟨f, hf⟩ : ∃ f, K = f + 2 := ⟨K - 2, by omega⟩
  have := go f
  rw [← hf] at this
  exact this

/-! Moves of bones. -/
structure Wq (n : Nat) (o : Nat → Nat) (q : Nat → V3) (v : List Turn × List Vector) : Prop where
  tl : v.1.length = n
  vl : v.2.length = n
  lt : ∀ j, j < n → o j < 24
  tu : ∀ j, j < n → Un (o j) (v.1.getD j default)
  vb : ∀ j, j < n → Vb 24 (q j) (v.2.getD j default)
theorem Wd.wq {n : Nat} {s : Skeleton} {p : Pose} {par u : Nat → Nat} {off : Nat → V3} {r : V3} {ts : List Turn} {vs : List Vector} (hw : Wh n s p par u off r) (h : Wd n p par u off r ts vs) (n6 : n ≤ 6) : Wq n (om par u) (plc par u off r) (ts, vs) :=
  ⟨h.tl, h.vl, fun j hj => om_lt hw.tree hw.u24 j hj, h.tu, fun j hj => (h.vb j hj).mono (by omega)⟩
/-- The turn of a bone's move, and how far it is carried. -/
def mvT (o1 o3 : Nat → Nat) (j : Nat) : Nat := mulI (o3 j) (invI (o1 j))
def mvQ (o1 o3 : Nat → Nat) (q1 q3 : Nat → V3) (j : Nat) : V3 := subV (q3 j) (rotI (mvT o1 o3 j) (q1 j))
structure Mq (n : Nat) (o1 o3 : Nat → Nat) (q1 q3 : Nat → V3) (v : List Turn × List Vector) : Prop where
  tl : v.1.length = n
  vl : v.2.length = n
  lt : ∀ j, j < n → mvT o1 o3 j < 24
  tu : ∀ j, j < n → Un (mvT o1 o3 j) (v.1.getD j default)
  vb : ∀ j, j < n → Vb 48 (mvQ o1 o3 q1 q3 j) (v.2.getD j default)
theorem mvT_lt {n : Nat} {o1 o3 : Nat → Nat} {q1 q3 : Nat → V3} {v1 v3 : List Turn × List Vector} (h1 : Wq n o1 q1 v1) (h3 : Wq n o3 q3 v3) (j : Nat) (hj : j < n) : mvT o1 o3 j < 24 := (mulI_is (h3.lt j hj) (invI_is (h1.lt j hj)).2.2.2.2).2.2.2.2.1
theorem moves_loop {K n : Nat} (hn : n ≤ 6) {o1 o3 : Nat → Nat} {q1 q3 : Nat → V3} {v1 v3 : List Turn × List Vector} (h1 : Wq n o1 q1 v1) (h3 : Wq n o3 q3 v3) : ∀ (k i : Nat) (ts : List Turn) (vs : List Vector), i ≤ n → n - i < k → ts.length = n → vs.length = n →
    (∀ j, i ≤ j → j < n → ts.getD j default = v3.1.getD j default ∧ vs.getD j default = v3.2.getD j default) → (∀ j, j < i → Un (mvT o1 o3 j) (ts.getD j default) ∧ Vb 48 (mvQ o1 o3 q1 q3 j) (vs.getD j default)) →
    ∃ ts' vs', impl_Skeleton_moves_l1 K v1 v3 k (i : Int) ts vs = some (ts', vs') ∧ Mq n o1 o3 q1 q3 (ts', vs') := by
  intro k
  induction k with
  | zero => intro i ts vs _ h; omega
  | succ k ih =>
    intro i ts vs g1 g2 g3 g4 g5 g6
    have e1 := h1.tl; have e2 := h1.vl; have e3 := h3.tl
    rw [impl_Skeleton_moves_l1, ite2_dec]
    by_cases hi : i < n
    · obtain ⟨f1, f2⟩ := g5 i (Nat.le_refl _) hi
      rw [if_pos (by omega), chk_pos (by omega), chk_pos (by omega), Int.toNat_natCast, inv_impl, bind_of, mul_impl, bind_of, chk_pos (by omega), chk_pos (by rw [List.length_set]; omega), chk_pos (by omega), rot_eq, bind_of, less_impl, bind_of, wrap_nat1 (by omega), set_getD (by omega), f1, f2]
      have hU : Un (mvT o1 o3 i) (mulF (v3.1.getD i default) (invF (v1.1.getD i default))) := (h3.tu i hi).mul (h3.lt i hi) (invI_is (h1.lt i hi)).2.2.2.2 ((h1.tu i hi).inv (h1.lt i hi))
      have hV := (h3.vb i hi).sub (hU.rot (mvT_lt h1 h3 i hi) (h1.vb i hi) (by decide)) (by decide)
      refine ih (i + 1) _ _ (by omega) (by omega) (by rw [List.length_set]; exact g3) (by rw [List.length_set]; exact g4) (fun j hj hj2 => ?_) (fun j hj => ?_)
      · rw [set_ne (by omega), set_ne (by omega)]; exact g5 j (by omega) hj2
      · by_cases e : i = j
        · subst e
          rw [set_getD (by omega), set_getD (by omega)]
          exact ⟨hU, hV⟩
        · rw [set_ne e, set_ne e]; exact g6 j (by omega)
    · rw [if_neg (by omega)]
      exact ⟨ts, vs, rfl, g3, g4, fun j hj => mvT_lt h1 h3 j hj, fun j hj => (g6 j (by omega)).1, fun j hj => (g6 j (by omega)).2⟩

/-! Points of a skin. -/
def Pt (n : Nat) (p : SkinPoint) : Prop := ∃ (v : Vector) (q : V3) (b : Nat), p = SkinPoint.mk v [(b : Int)] [oneF] ∧ Vb 8 q v ∧ b < n
theorem held_pt {K n : Nat} {p : SkinPoint} (h : Pt n p) : impl_SkinPoint_isHeld K p = some true := by
  obtain ⟨v, q, b, rfl, _, _⟩ := h
  rfl
theorem is4_pt {K n : Nat} {s : Skeleton} (hs : s.Bones.length = n) (hn : n ≤ 6) {pts : List SkinPoint} {i : Nat} (h : Pt n (pts.getD i default)) (hK : 2 < K) : impl_IsSkin_l4 K s pts (i : Int) K ((-1) : Int) (0 : Int) = some (.inl ()) := by
  obtain ⟨v, q, b, e, _, hb⟩ := h
  have go : ∀ f, impl_IsSkin_l4 K s pts (i : Int) (f + 2) ((-1) : Int) (0 : Int) = some (.inl ()) := by
    intro f
    rw [impl_IsSkin_l4, Int.toNat_natCast, e, ite2_dec, if_pos (by simp), chk_pos (by simp), show ([(b : Int)].getD ((0 : Int).toNat) default) = (b : Int) from rfl, ite2_dec, if_neg (by omega), bind_of, decide_eq_false (by omega), ite2_false, show IntKind.i64.wrap ((0 : Int) + 1) = 1 by decide, impl_IsSkin_l4, Int.toNat_natCast, e, ite2_dec, if_neg (by simp)]
  obtain ⟨f, hf⟩ : ∃ f, K = f + 2 := ⟨K - 2, by omega⟩
  have := go f
  rw [← hf] at this
  exact this
theorem sumC_l {α β γ : Type} (a : α) (f : α → Option γ) (g : β → Option γ) : sumC (.inl a) f g = f a := rfl
theorem isSkin_eq {K n : Nat} (hK : 30 < K) {s : Skeleton} (hs : Sk n s) (hn : n ≤ 6) {pts : List SkinPoint} (hl : pts.length = 4) (hp : ∀ j, j < 4 → Pt n (pts.getD j default)) : impl_IsSkin K s pts = some true := by
  have loop : ∀ (k i : Nat), i ≤ 4 → 4 - i < k → impl_IsSkin_l3 K s pts k (i : Int) = some true := by
    intro k
    induction k with
    | zero => intro i _ h; omega
    | succ k ih =>
      intro i g1 g2
      rw [impl_IsSkin_l3, ite2_dec]
      by_cases hi : i < 4
      · rw [if_pos (by omega), chk_pos (by omega), Int.toNat_natCast, held_pt (hp i hi), bind_of, Bool.not_true, ite2_false, is4_pt hs.len hn (hp i hi) (by omega), bind_of, sumC_l, wrap_nat1 (by omega)]
        exact ih (i + 1) (by omega) (by omega)
      · rw [if_neg (by omega)]
  unfold impl_IsSkin
  rw [hs.valid (by omega), bind_of, Bool.not_true, ite2_false, bind_of, decide_eq_false (by omega), ite2_false]
  exact loop K 0 (by omega) (by omega)
theorem canSkin_eq {K n : Nat} (hK : 30 < K) {s : Skeleton} {p q : Pose} (hs : Sk n s) (hn : n ≤ 6) (hp : p.Turns.length = n) (hq : q.Turns.length = n) {pts : List SkinPoint} (hl : pts.length = 4) (hpt : ∀ j, j < 4 → Pt n (pts.getD j default)) : impl_canSkin K s p q pts = some true := by
  unfold impl_canSkin
  rw [isPose_eq (by omega) hs hp, bind_of, ite2_true, isPose_eq (by omega) hs hq, bind_of, ite2_true, isSkin_eq hK hs hn hl hpt]; rfl

/-! Both ways to move a point. -/
theorem lin5 {K n : Nat} (hK : 2 < K) {o1 o3 : Nat → Nat} {q1 q3 : Nat → V3} {mv : List Turn × List Vector} (hm : Mq n o1 o3 q1 q3 mv) {pts : List SkinPoint} {i b : Nat} {v : Vector} {q : V3} (e : pts.getD i default = SkinPoint.mk v [(b : Int)] [oneF]) (hv : Vb 8 q v) (hb : b < n) :
    ∃ x y z, impl_SkinLinear_l5 K pts mv (i : Int) K (0 : Int) (default : F32) (default : F32) (default : F32) = some (x, y, z) ∧ Vb 56 (addV (rotI (mvT o1 o3 b) q) (mvQ o1 o3 q1 q3 b)) (Vector.mk x y z) := by
  have e1 := hm.tl; have e2 := hm.vl
  have hr := (((hm.tu b hb).rot (hm.lt b hb) hv (by decide)).add (hm.vb b hb) (by decide)).times (by decide)
  have hz := hr.zplus (by decide)
  obtain ⟨r, hre⟩ : ∃ r, r = plusF (Vector.mk (default : F32) (default : F32) (default : F32)) (timesF (plusF (rotF (mv.1.getD b default) v) (mv.2.getD b default)) oneF) := ⟨_, rfl⟩
  have go : ∀ f, impl_SkinLinear_l5 K pts mv (i : Int) (f + 2) (0 : Int) (default : F32) (default : F32) (default : F32) = some (r.X, r.Y, r.Z) := by
    intro f
    rw [hre, impl_SkinLinear_l5, Int.toNat_natCast, e, ite2_dec, if_pos (by simp), chk_pos (by simp), show ([(b : Int)].getD ((0 : Int).toNat) default) = (b : Int) from rfl, chk_pos (by omega), Int.toNat_natCast, rot_eq, bind_of, chk_pos (by omega), plus_impl, bind_of, chk_pos (by simp), show ([oneF].getD ((0 : Int).toNat) default) = oneF from rfl, times_impl, bind_of, plus_impl, bind_of, show IntKind.i64.wrap ((0 : Int) + 1) = 1 by decide, impl_SkinLinear_l5, Int.toNat_natCast, e, ite2_dec, if_neg (by simp)]
  obtain ⟨f, hf⟩ : ∃ f, K = f + 2 := ⟨K - 2, by omega⟩
  have := go f
  rw [← hf] at this
  exact ⟨_, _, _, this, by rw [hre]; exact hz⟩
theorem mix5 {K n : Nat} (hK : 2 < K) {o1 o3 : Nat → Nat} {q1 q3 : Nat → V3} {mv : List Turn × List Vector} (hm : Mq n o1 o3 q1 q3 mv) {pts : List SkinPoint} {i b : Nat} {v : Vector} (e : pts.getD i default = SkinPoint.mk v [(b : Int)] [oneF]) (hb : b < n) :
    ∃ x y z, impl_SkinMixed_l5 K pts mv (i : Int) K (0 : Int) (default : F32) (default : F32) (default : F32) [(default : Turn)] = some (x, y, z, [mv.1.getD b default]) ∧ Vb 48 (mvQ o1 o3 q1 q3 b) (Vector.mk x y z) := by
  have e1 := hm.tl; have e2 := hm.vl
  have hz := ((hm.vb b hb).times (by decide)).zplus (by decide)
  obtain ⟨r, hre⟩ : ∃ r, r = plusF (Vector.mk (default : F32) (default : F32) (default : F32)) (timesF (mv.2.getD b default) oneF) := ⟨_, rfl⟩
  have go : ∀ f, impl_SkinMixed_l5 K pts mv (i : Int) (f + 2) (0 : Int) (default : F32) (default : F32) (default : F32) [(default : Turn)] = some (r.X, r.Y, r.Z, [mv.1.getD b default]) := by
    intro f
    rw [hre, impl_SkinMixed_l5, Int.toNat_natCast, e, ite2_dec, if_pos (by simp), chk_pos (by simp), show ([(b : Int)].getD ((0 : Int).toNat) default) = (b : Int) from rfl, chk_pos (by omega), chk_pos (by simp), chk_pos (by omega), chk_pos (by simp), Int.toNat_natCast, show ([oneF].getD ((0 : Int).toNat) default) = oneF from rfl, times_impl, bind_of, plus_impl, bind_of, show IntKind.i64.wrap ((0 : Int) + 1) = 1 by decide, impl_SkinMixed_l5, Int.toNat_natCast, e, ite2_dec, if_neg (by simp)]
    rfl
  obtain ⟨f, hf⟩ : ∃ f, K = f + 2 := ⟨K - 2, by omega⟩
  have := go f
  rw [← hf] at this
  exact ⟨_, _, _, this, by rw [hre]; exact hz⟩
/-- The points that are moved. -/
def Mvd (n : Nat) (o1 o3 : Nat → Nat) (q1 q3 : Nat → V3) (pts : List SkinPoint) (i : Nat) (a : Vector) : Prop := ∃ (v : Vector) (q : V3) (b : Nat), pts.getD i default = SkinPoint.mk v [(b : Int)] [oneF] ∧ Vb 8 q v ∧ b < n ∧ Vb 56 (addV (rotI (mvT o1 o3 b) q) (mvQ o1 o3 q1 q3 b)) a
theorem lin4 {K n : Nat} (hK : 30 < K) {o1 o3 : Nat → Nat} {q1 q3 : Nat → V3} {mv : List Turn × List Vector} (hm : Mq n o1 o3 q1 q3 mv) {pts : List SkinPoint} (hl : pts.length = 4) (hp : ∀ j, j < 4 → Pt n (pts.getD j default)) : ∀ (k i : Nat) (xs : List Vector), i ≤ 4 → 4 - i < k → xs.length = i → (∀ j, j < i → Mvd n o1 o3 q1 q3 pts j (xs.getD j default)) →
    ∃ ys, impl_SkinLinear_l4 K pts mv k (i : Int) xs = some (ys, true) ∧ ys.length = 4 ∧ ∀ j, j < 4 → Mvd n o1 o3 q1 q3 pts j (ys.getD j default) := by
  intro k
  induction k with
  | zero => intro i xs _ h; omega
  | succ k ih =>
    intro i xs g1 g2 g3 g4
    rw [impl_SkinLinear_l4, ite2_dec]
    by_cases hi : i < 4
    · obtain ⟨v, q, b, e, hv, hb⟩ := hp i hi
      obtain ⟨x, y, z, f1, f2⟩ := lin5 (K := K) (by omega) hm e hv hb
      rw [if_pos (by omega), chk_pos (by omega), f1, bind_of, chk_pos (by simp; omega), wrap_nat1 (by omega)]
      refine ih (i + 1) _ (by omega) (by omega) (by simp; omega) fun j hj => ?_
      by_cases e2 : j < i
      · rw [getD_left (by omega)]; exact g4 j e2
      · have : j = i := by omega
        subst this
        rw [getD_end (by omega)]; exact ⟨v, q, b, e, hv, hb, f2⟩
    · rw [if_neg (by omega)]
      exact ⟨xs, rfl, by omega, fun j hj => g4 j (by omega)⟩
theorem mix4 {K n : Nat} (hK : 30 < K) {o1 o3 : Nat → Nat} {q1 q3 : Nat → V3} {mv : List Turn × List Vector} (hm : Mq n o1 o3 q1 q3 mv) {pts : List SkinPoint} (hl : pts.length = 4) (hp : ∀ j, j < 4 → Pt n (pts.getD j default)) : ∀ (k i : Nat) (xs : List Vector), i ≤ 4 → 4 - i < k → xs.length = i → (∀ j, j < i → Mvd n o1 o3 q1 q3 pts j (xs.getD j default)) →
    ∃ ys, impl_SkinMixed_l4 K pts mv k (i : Int) xs = some (ys, true) ∧ ys.length = 4 ∧ ∀ j, j < 4 → Mvd n o1 o3 q1 q3 pts j (ys.getD j default) := by
  intro k
  induction k with
  | zero => intro i xs _ h; omega
  | succ k ih =>
    intro i xs g1 g2 g3 g4
    rw [impl_SkinMixed_l4, ite2_dec]
    by_cases hi : i < 4
    · obtain ⟨v, q, b, e, hv, hb⟩ := hp i hi
      obtain ⟨x, y, z, f1, f2⟩ := mix5 (K := K) (by omega) hm e hb
      have f3 := ((uT_un (mvT o1 o3 b)).rot (hm.lt b hb) hv (by decide)).add f2 (by decide)
      rw [if_pos (by omega), chk_pos (by omega), Int.toNat_natCast, e]
      simp only [List.length_cons, List.length_nil]
      rw [chk_pos (by omega), show (List.replicate (((0 + 1 : Nat) : Int).toNat) (default : Turn)) = [default] from rfl, f1, bind_of, mix_one (by omega) (hm.lt b hb) (hm.tu b hb), bind_of, rot_eq, bind_of, plus_impl, bind_of, chk_pos (by omega), wrap_nat1 (by omega)]
      refine ih (i + 1) _ (by omega) (by omega) (by simp; omega) fun j hj => ?_
      by_cases e2 : j < i
      · rw [getD_left (by omega)]; exact g4 j e2
      · have : j = i := by omega
        subst this
        rw [getD_end (by omega)]; exact ⟨v, q, b, e, hv, hb, f3⟩
    · rw [if_neg (by omega)]
      exact ⟨xs, rfl, by omega, fun j hj => g4 j (by omega)⟩

/-! The bones that are used. -/
theorem mem_compact {zs : List Int} {x : Int} (h : x ∈ zs) : x ∈ Lib.compact zs := by
  obtain ⟨i, hi, rfl⟩ := List.getElem_of_mem h
  have get : ∀ j, (hj : j < zs.length) → zs.toArray[j]! = zs[j] := fun j hj => by rw [getElem!_pos _ j (by simpa using hj)]; simp
  have go : ∀ j, (hj : j < zs.length) → zs[j] ∈ Lib.compact zs := by
    intro j
    induction j with
    | zero =>
      intro hj
      refine List.mem_map.2 ⟨0, List.mem_filter.2 ⟨List.mem_range.2 hj, by simp [Lib.keeps]⟩, get 0 hj⟩
    | succ j ih =>
      intro hj
      by_cases e : zs.toArray[j + 1]! = zs.toArray[j]!
      · rw [get _ hj, get j (by omega)] at e
        rw [e]; exact ih (by omega)
      · refine List.mem_map.2 ⟨j + 1, List.mem_filter.2 ⟨List.mem_range.2 hj, ?_⟩, get _ hj⟩
        simp only [Lib.keeps, Nat.add_sub_cancel, decide_eq_true_eq]
        exact .inr e
  exact go i hi
theorem used_loop {K n : Nat} {pts : List SkinPoint} (hl : pts.length = 4) (hp : ∀ j, j < 4 → Pt n (pts.getD j default)) : ∀ (k i : Nat) (xs : List Int), i ≤ 4 → 4 - i < k → xs.length = i → (∀ j, j < i → ∀ b : Int, (pts.getD j default).Bones = [b] → b ∈ xs) →
    ∃ ys, impl_UsedBones_l1 K pts k (i : Int) xs = some (ys, true) ∧ ys.length ≤ 4 ∧ ∀ j, j < 4 → ∀ b : Int, (pts.getD j default).Bones = [b] → b ∈ ys := by
  intro k
  induction k with
  | zero => intro i xs _ h; omega
  | succ k ih =>
    intro i xs g1 g2 g3 g4
    rw [impl_UsedBones_l1, ite2_dec]
    by_cases hi : i < 4
    · obtain ⟨v, q, b, e, hv, hb⟩ := hp i hi
      rw [if_pos (by omega), chk_pos (by omega), Int.toNat_natCast, e]
      simp only [List.length_cons, List.length_nil]
      rw [chk_pos (by omega), wrap_nat1 (by omega)]
      refine ih (i + 1) _ (by omega) (by omega) (by simp; omega) fun j hj c hc => ?_
      by_cases e2 : j < i
      · exact List.mem_append_left _ (g4 j e2 c hc)
      · have : j = i := by omega
        subst this
        rw [e] at hc
        have : (b : Int) = c := by injection hc
        subst this
        simp
    · rw [if_neg (by omega)]
      have h1 : slices_Sort_int64_int64 K xs = some (xs.mergeSort fun x y => decide (x ≤ y)) := by
        show sortI xs = _
        unfold sortI
        rw [if_pos (by omega)]
      have hlen : (xs.mergeSort fun x y => decide (x ≤ y)).length = xs.length := List.length_mergeSort ..
      have h2 : slices_Compact_int64_int64 K (xs.mergeSort fun x y => decide (x ≤ y)) = some (Lib.compact (xs.mergeSort fun x y => decide (x ≤ y))) := by
        show compactI _ = _
        unfold compactI
        rw [if_pos (by omega)]
      rw [h1, bind_of, chk_pos hlen, h2, bind_of]
      have h3 := compact_len (xs.mergeSort fun x y => decide (x ≤ y))
      exact ⟨_, rfl, by omega, fun j hj b hb => mem_compact (List.mem_mergeSort.2 (g4 j (by omega) b hb))⟩
theorem used_eq {K n : Nat} (hK : 30 < K) {s : Skeleton} (hs : Sk n s) (hn : n ≤ 6) {pts : List SkinPoint} (hl : pts.length = 4) (hp : ∀ j, j < 4 → Pt n (pts.getD j default)) : ∃ ys, impl_UsedBones K s pts = some (ys, true) ∧ ys.length ≤ 4 ∧ ∀ j, j < 4 → ∀ b : Int, (pts.getD j default).Bones = [b] → b ∈ ys := by
  obtain ⟨ys, h1, h2⟩ := used_loop (K := K) hl hp K 0 [] (by omega) (by omega) rfl (fun j hj => by omega)
  refine ⟨ys, ?_, h2⟩
  unfold impl_UsedBones
  rw [isSkin_eq hK hs hn hl hp, bind_of, Bool.not_true, ite2_false]
  exact h1

/-! The law. -/
theorem b10At_rng {K : Nat} {c : List Int} (hc : Byt c) (k n : Int) (hk : 0 ≤ k) (hk2 : k < 1000000) (hn : 1 ≤ n) : ∃ r, laws_b10At K c k n = some r ∧ 0 ≤ r ∧ r < n := by
  unfold laws_b10At
  rw [ite2_dec]
  by_cases h1 : n ≤ 1
  · rw [if_pos h1]; exact ⟨0, rfl, by omega, by omega⟩
  · rw [if_neg h1, ite2_dec]
    by_cases h : k < (c.length : Int)
    · have hb := hc _ (getD_mem (xs := c) (i := k.toNat) (by omega))
      rw [if_pos h, chk_pos (by omega), chk_pos (by omega), wrap_in (by omega) (by omega)]
      exact ⟨_, rfl, tmod_in hb.1 (by omega)⟩
    · rw [if_neg h, chk_pos (by omega), wrap_in (n := k * 37) (by omega) (by omega), wrap_in (by omega) (by omega)]
      exact ⟨_, rfl, tmod_in (by omega) (by omega)⟩
theorem in_loop {K : Nat} (pts : List SkinPoint) (us : List Int × Bool) (x : Nat) {v : Vector} {b : Int} (e : pts.getD x default = SkinPoint.mk v [b] [oneF]) (hu : us.1.length ≤ 1000) : ∀ (k i : Nat) (acc : Bool), i ≤ us.1.length → us.1.length - i < k → (acc = true ∨ ∃ j, i ≤ j ∧ j < us.1.length ∧ us.1.getD j default = b) → laws_FnSkins_l5 K pts us (x : Int) k acc (i : Int) = some true := by
  intro k
  induction k with
  | zero => intro i acc _ h; omega
  | succ k ih =>
    intro i acc g1 g2 g3
    rw [laws_FnSkins_l5, ite2_dec, show ((x : Int).toNat) = x from rfl, e]
    by_cases hi : i < us.1.length
    · rw [if_pos (by omega)]
      cases acc with
      | true =>
        rw [ite2_true, bind_of, wrap_nat1 (by omega)]
        exact ih (i + 1) true (by omega) (by omega) (.inl rfl)
      | false =>
        rw [ite2_false, chk_pos (by omega), bind_of, Int.toNat_natCast, wrap_nat1 (by omega), show ([b].getD ((0 : Int).toNat) default) = b from rfl]
        refine ih (i + 1) _ (by omega) (by omega) ?_
        rcases g3 with h | ⟨j, h1, h2, h3⟩
        · cases h
        · by_cases ej : j = i
          · subst ej; exact .inl (by rw [h3]; exact beq_self_eq_true _)
          · exact .inr ⟨j, by omega, h2, h3⟩
    · rw [if_neg (by omega)]
      rcases g3 with h | ⟨j, h1, h2, h3⟩
      · rw [h]
      · omega
theorem sub_rot {k : Nat} (q3 q1 q : V3) : subV (addV (rotI k q) (subV q3 (rotI k q1))) q3 = rotI k (subV q q1) := by
  simp only [subV, addV, rotI, Int.mul_sub]
  refine Prod.ext ?_ (Prod.ext ?_ ?_) <;> simp only <;> omega
theorem l4_eq {K n : Nat} (hK : 1000 < K) (hn : n ≤ 6) {o1 o3 : Nat → Nat} {q1 q3 : Nat → V3} {pts : List SkinPoint} (hl : pts.length = 4) (a b : List Vector × Bool) (la : a.1.length = 4) (lb : b.1.length = 4) (ha : ∀ j, j < 4 → Mvd n o1 o3 q1 q3 pts j (a.1.getD j default)) (hb : ∀ j, j < 4 → Mvd n o1 o3 q1 q3 pts j (b.1.getD j default))
    (w1 w3 : List Turn × List Vector × Bool) (h1 : Wq n o1 q1 (w1.1, w1.2.1)) (h3 : Wq n o3 q3 (w3.1, w3.2.1)) (hm : ∀ j, j < n → mvT o1 o3 j < 24) (us : List Int × Bool) (hu : us.1.length ≤ 900) (hus : ∀ j, j < 4 → ∀ b : Int, (pts.getD j default).Bones = [b] → b ∈ us.1) : ∀ (k i : Nat), i ≤ 4 → 4 - i < k → laws_FnSkins_l4 K pts a b w1 w3 us k (i : Int) = some true := by
  intro k
  induction k with
  | zero => intro i _ h; omega
  | succ k ih =>
    intro i g1 g2
    rw [laws_FnSkins_l4, ite2_dec]
    by_cases hi : i < 4
    · obtain ⟨v, q, c, e, hv, hc, m1⟩ := ha i hi
      obtain ⟨v', q', c', e', hv', hc', m2⟩ := hb i hi
      rw [e] at e'
      injection e' with ev ec _
      have ec : (c : Int) = (c' : Int) := by injection ec
      have ec : c = c' := by omega
      subst ev; subst ec
      have m3 := h1.vl; have m4 := h3.vl
      simp only at m3 m4
      have s1 := ((m1.sub (h3.vb c hc) (by decide)).sq (by decide))
      have s2 := ((hv.sub (h1.vb c hc) (by decide)).sq (by decide))
      rw [show mvQ o1 o3 q1 q3 c = subV (q3 c) (rotI (mvT o1 o3 c) (q1 c)) from rfl, sub_rot, rot_sq (hm c hc)] at s1
      have hvv : laws_b10VEqual K (a.1.getD i default) (b.1.getD i default) = some true := by
        have m2' : Vb 56 (addV (rotI (mvT o1 o3 c) q) (mvQ o1 o3 q1 q3 c)) (b.1.getD i default) := by
          have hq : q' = q := by
            refine Prod.ext ?_ (Prod.ext ?_ ?_)
            · have := hv.x.1.eq hv'.x.1; have r := hv.x.1.eq hv.x.1; rw [r, decide_eq_true rfl] at this; exact (of_decide_eq_true this.symm).symm
            · have := hv.y.1.eq hv'.y.1; have r := hv.y.1.eq hv.y.1; rw [r, decide_eq_true rfl] at this; exact (of_decide_eq_true this.symm).symm
            · have := hv.z.1.eq hv'.z.1; have r := hv.z.1.eq hv.z.1; rw [r, decide_eq_true rfl] at this; exact (of_decide_eq_true this.symm).symm
          rw [hq] at m2; exact m2
        exact veq_of (m1.eq m2')
      rw [if_pos (by omega), chk_pos (by omega), Int.toNat_natCast, e, chk_pos (by simp), chk_pos (by omega), chk_pos (by omega), hvv, bind_of, Bool.not_true, ite2_false, show ([(c : Int)].getD ((0 : Int).toNat) default) = (c : Int) from rfl, chk_pos (by omega), Int.toNat_natCast, less_spec, bind_of, square_eq, bind_of, chk_pos (by omega), less_spec, bind_of, square_eq, bind_of, bind_of]
      rw [ne_not, show (sqrF (lessF (a.1.getD i default) (w3.2.1.getD c default))).eq (sqrF (lessF v (w1.2.1.getD c default))) = true from (s1.eq s2).trans (decide_eq_true rfl), Bool.not_true, ite2_false]
      have hmem := hus i hi c (by rw [e])
      obtain ⟨j, hj, hje⟩ := List.getElem_of_mem hmem
      have hin := in_loop (K := K) pts us i e (by omega) K 0 false (by omega) (by omega) (.inr ⟨j, by omega, hj, by rw [getD_of_lt hj]; exact hje⟩)
      rw [show ((0 : Nat) : Int) = 0 from rfl] at hin
      rw [hin, bind_of, Bool.not_true, ite2_false, wrap_nat1 (by omega)]
      exact ih (i + 1) (by omega) (by omega)
    · rw [if_neg (by omega)]
theorem l1_eq {K n : Nat} (hK : 1000 < K) {a0 a1 : List Int} (h0 : Byt a0) (h1 : Byt a1) {s : Skeleton} {p p2 : Pose} {par par2 u u2 : Nat → Nat} {off off2 : Nat → V3} {r r2 : V3} (h : Wh n s p par u off r) (h2 : Wh n s p2 par2 u2 off2 r2) (n6 : n ≤ 6) : ∀ (k i : Nat) (pts : List SkinPoint), i ≤ 4 → 4 - i < k → pts.length = i → (∀ j, j < i → Pt n (pts.getD j default)) →
    laws_FnSkins_l1 K a0 a1 s p p2 k (i : Int) pts = some true := by
  intro k
  induction k with
  | zero => intro i _ _ h; omega
  | succ k ih =>
    intro i pts g1 g2 lp hv
    have n1 := h.n1
    rw [laws_FnSkins_l1, ite2_dec]
    by_cases hi : i < 4
    · have w1 : IntKind.i64.wrap ((3 : Int) * (i : Int)) = 3 * (i : Int) := wrap_in (by omega) (by omega)
      have w2 : IntKind.i64.wrap (3 * (i : Int) + 1) = 3 * (i : Int) + 1 := wrap_in (by omega) (by omega)
      have w3 : IntKind.i64.wrap (3 * (i : Int) + 2) = 3 * (i : Int) + 2 := wrap_in (by omega) (by omega)
      obtain ⟨x, ex, x0, x1⟩ := b10At_rng (K := K) h1 (3 * (i : Int)) 17 (by omega) (by omega) (by omega)
      obtain ⟨y, ey, y0, y1⟩ := b10At_rng (K := K) h1 (3 * (i : Int) + 1) 17 (by omega) (by omega) (by omega)
      obtain ⟨z, ez, z0, z1⟩ := b10At_rng (K := K) h1 (3 * (i : Int) + 2) 17 (by omega) (by omega) (by omega)
      obtain ⟨b, eb, b0, b1⟩ := b10At_rng (K := K) h0 (i : Int) (n : Int) (by omega) (by omega) (by omega)
      obtain ⟨c, rfl⟩ : ∃ c : Nat, b = (c : Int) := ⟨b.toNat, by omega⟩
      rw [if_pos (by omega), w1, w2, w3, ex, bind_of, ey, bind_of, ez, bind_of, h.len, eb, bind_of, wrap_in (n := x - 8) (by omega) (by omega), wrap_in (n := y - 8) (by omega) (by omega), wrap_in (n := z - 8) (by omega) (by omega), chk_pos (by simp; omega), wrap_nat1 (by omega)]
      refine ih (i + 1) _ (by omega) (by omega) (by simp; omega) (fun j hj => ?_)
      by_cases e : j < i
      · rw [getD_left (by omega)]; exact hv j e
      · have : j = i := by omega
        subst this
        rw [getD_end (by omega)]
        exact ⟨_, (x - 8, y - 8, z - 8), c, rfl, ⟨(⟨Dy.ofInt (by omega), by omega⟩ : Db 0 8 (x - 8) (Fl.ofInt .f32 (x - 8))), (⟨Dy.ofInt (by omega), by omega⟩ : Db 0 8 (y - 8) (Fl.ofInt .f32 (y - 8))), (⟨Dy.ofInt (by omega), by omega⟩ : Db 0 8 (z - 8) (Fl.ofInt .f32 (z - 8)))⟩, by omega⟩
    · have e : i = 4 := by omega
      subst e
      obtain ⟨ts, vs, e1, e2, w⟩ := world_eq (K := K) (by omega) h
      obtain ⟨ts2, vs2, e3, e4, w2⟩ := world_eq (K := K) (by omega) h2
      have W1 := w.wq h n6
      have W3 := w2.wq h2 n6
      obtain ⟨mt, mq, e5, M⟩ := moves_loop (K := K) n6 W1 W3 K 0 ts2 vs2 (by omega) (by omega) w2.tl w2.vl (fun j _ _ => ⟨rfl, rfl⟩) (fun j hj => by omega)
      have e6 : impl_Skeleton_moves K s p p2 = some (mt, mq) := by
        unfold impl_Skeleton_moves
        rw [e2, bind_of, e4, bind_of]
        exact e5
      have e7 : impl_MovesOf K s p p2 = some (mt, mq, true) := by
        unfold impl_MovesOf
        rw [isPose_eq (by omega) h.sk h.tlen, bind_of, Bool.not_true, ite2_false, isPose_eq (by omega) h.sk h2.tlen, bind_of, bind_of, Bool.not_true, ite2_false, e6]; rfl
      have c1 := canSkin_eq (K := K) (by omega) h.sk n6 h.tlen h2.tlen lp hv
      obtain ⟨xa, a1', a2, a3⟩ := lin4 (K := K) (by omega) M lp hv K 0 [] (by omega) (by omega) rfl (fun j hj => by omega)
      obtain ⟨xb, b1, b2, b3⟩ := mix4 (K := K) (by omega) M lp hv K 0 [] (by omega) (by omega) rfl (fun j hj => by omega)
      have l1 : impl_SkinLinear K s p p2 pts = some (xa, true) := by
        unfold impl_SkinLinear
        rw [c1, bind_of, Bool.not_true, ite2_false, e6, bind_of]; exact a1'
      have l2 : impl_SkinMixed K s p p2 pts = some (xb, true) := by
        unfold impl_SkinMixed
        rw [c1, bind_of, Bool.not_true, ite2_false, e6, bind_of]; exact b1
      obtain ⟨us, u1, u2, u3⟩ := used_eq (K := K) (by omega) h.sk n6 lp hv
      have hs := isSkin_eq (K := K) (by omega) h.sk n6 lp hv
      have m1 := M.tl; have m2 := M.vl; have m3 := w.vl; have m4 := w2.vl
      simp only at m1 m2
      rw [if_neg (by omega), l1, bind_of, l2, bind_of, e1, bind_of, e3, bind_of, e7, bind_of, u1, bind_of]
      simp only [Bool.not_true, ite2_false, hs, bind_of, a2, b2, m1, m2, m3, m4, h.len, bne_self_eq_false]
      rw [show ((((4 : Nat) : Int)) != 4) = false from rfl, ite2_false, ite2_false, bind_of, ite2_false]
      exact l4_eq (K := K) hK n6 lp (xa, true) (xb, true) a2 b2 a3 b3 (ts, vs, true) (ts2, vs2, true) W1 W3 M.lt (us, true) (by simp only; omega) u3 K 0 (by omega) (by omega)
theorem skins_true (a b : List Int) (ha : Byt a) (hb : Byt b) : ∃ K, laws_FnSkins K a b = some true := by
  refine ⟨2000, ?_⟩
  unfold laws_FnSkins laws_b10Long
  rw [ite2_dec]
  by_cases l0 : (a.length : Int) > 1048576
  · rw [if_pos l0]; rfl
  · rw [if_neg l0, bind_of, bind_of]
    by_cases l1 : (b.length : Int) > 1048576
    · rw [decide_eq_true l1]; rfl
    · rw [decide_eq_false l1, ite2_false]
      obtain ⟨s, n, e1, hs, n6, ho⟩ := skeleton_drawn (K := 2000) (by omega) ha
      obtain ⟨p, e2, hp⟩ := exact_drawn (K := 2000) (n := n) (by omega) ha (by omega)
      obtain ⟨p2, e3, hp2⟩ := exact_drawn (K := 2000) (n := n) (by omega) hb (by omega)
      obtain ⟨par, u, off, r, h⟩ := drawn_wh hs ho hp
      obtain ⟨par2, u2, off2, r2, h2⟩ := drawn_wh hs ho hp2
      rw [e1, bind_of, hs.len, e2, bind_of, e3, bind_of]
      exact l1_eq (K := 2000) (by omega) ha hb h h2 n6 2000 0 [] (by omega) (by omega) rfl (fun j hj => by omega)
theorem law_FnSkins (a b : List Int) (ha : a.length ≤ maxLen ∧ ∀ x ∈ a, (Lit.int .u8 x).wf = true) (hb : b.length ≤ maxLen ∧ ∀ x ∈ b, (Lit.int .u8 x).wf = true) : ∃ K, laws_FnSkins K a b = some true := by
  have byt : ∀ {c : List Int}, (∀ x ∈ c, (Lit.int .u8 x).wf = true) → Byt c := fun h x hx => by
    have := h x hx
    simp only [Lit.wf, Bool.and_eq_true, decide_eq_true_eq] at this
    have e1 : IntKind.u8.min = 0 := by decide
    have e2 : IntKind.u8.max = 255 := by decide
    omega
  exact skins_true a b (byt ha.2) (byt hb.2)

end Go.Fw
