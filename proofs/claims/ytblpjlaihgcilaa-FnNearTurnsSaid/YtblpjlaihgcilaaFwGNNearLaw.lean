/- FnNearTurns, in plain Lean. -/
import Derived.Test.YtblpjlaihgcilaaFwGNTurnNum
import Derived.Test.YtblpjlaihgcilaaFwFT6
namespace Go.Fw
open Go

theorem one32 : Num (Fl.mk (k := .f32) 1065353216 (by decide)) ∧ val (Fl.mk (k := .f32) 1065353216 (by decide)) = 1 := const_val (s := false) (m := 8388608) (p := -23) (by decide) (by decide +kernel)
theorem near_impl (K : Nat) {a b : Turn} {s : F32} (ha : U4 (tq a)) (hb : U4 (tq b)) (hs : Num s) (s0 : 0 ≤ val s) (s1 : val s ≤ 1) : impl_NearTurn K a b s = some (mt (nearQ (tq a) (tq b) s)) := by
  obtain ⟨-, n1, n2, -, -⟩ := near_facts ha hb hs s0 s1
  unfold impl_NearTurn
  rw [inn_impl, bind_of]
  unfold nearQ
  cases h : (innQ (tq a) (tq b)).lt' f0
  · have h' : (innQ (tq a) (tq b)).lt' (Fl.mk (k := .f32) 0 (by decide)) = false := h
    have e : sideQ (tq a) (tq b) = tq b := by unfold sideQ; rw [h]; rfl
    rw [e] at n1 n2 ⊢
    rw [h', ite2_false]
    have := mend_impl K (a := mt (stepQ (tq a) (tq b) s)) n1 n2
    show (impl_MendTurn K (mt (stepQ (tq a) (tq b) s))).bind _ = _
    rw [this]; rfl
  · have h' : (innQ (tq a) (tq b)).lt' (Fl.mk (k := .f32) 0 (by decide)) = true := h
    have e : sideQ (tq a) (tq b) = oppQ (tq b) := by unfold sideQ; rw [h]; rfl
    rw [e] at n1 n2 ⊢
    rw [h', ite2_true]
    have := mend_impl K (a := mt (stepQ (tq a) (oppQ (tq b)) s)) n1 n2
    show (impl_MendTurn K (mt (stepQ (tq a) (oppQ (tq b)) s))).bind _ = _
    rw [this]; rfl
theorem near_mt (K : Nat) {p q : Q4} {s : F32} (hp : U4 p) (hq : U4 q) (hs : Num s) (s0 : 0 ≤ val s) (s1 : val s ≤ 1) : impl_NearTurn K (mt p) (mt q) s = some (mt (nearQ p q s)) := near_impl K (a := mt p) (b := mt q) hp hq hs s0 s1
/-- A part of a turn, times 1, added to nought. -/
def keepF (x : F32) : F32 := (default : F32).add (x.mul (Fl.mk (k := .f32) 1065353216 (by decide)))
theorem keep_near {x : F32} (hx : Num x) (h : (val x).abs ≤ 10001 / 10000) : Num (keepF x) ∧ (val (keepF x) - val x).abs ≤ 3 / 10000000 := by
  obtain ⟨o1, o2⟩ := one32
  obtain ⟨z1, z2⟩ := z32
  have e1 : val x * val (Fl.mk (k := .f32) 1065353216 (by decide)) = val x := by rw [o2, Rat.mul_one]
  have h1 := mul32 hx o1 (by rw [e1]; exact Rat.le_trans h (by decide +kernel))
  rw [e1] at h1
  obtain ⟨m1, m2, -, -⟩ := h1
  have b1 : o32 (val x) ≤ 13 / 100000000 := by unfold o32; grind
  obtain ⟨c1, c2⟩ := abs_bounds (Rat.le_trans m2 b1)
  obtain ⟨d1, d2⟩ := abs_bounds h
  have b2 : (val (x.mul (Fl.mk (k := .f32) 1065353216 (by decide)))).abs ≤ 10002 / 10000 := abs_le (by grind) (by grind)
  have e2 : val (default : F32) + val (x.mul (Fl.mk (k := .f32) 1065353216 (by decide))) = val (x.mul (Fl.mk (k := .f32) 1065353216 (by decide))) := by
    have : val (default : F32) = 0 := z2
    rw [this, Rat.zero_add]
  have h2 := add32 (x := (default : F32)) z1 m1 (by rw [e2]; exact Rat.le_trans b2 (by decide +kernel))
  rw [e2] at h2
  obtain ⟨a1, a2, -, -⟩ := h2
  refine ⟨a1, ?_⟩
  have b3 : o32 (val (x.mul (Fl.mk (k := .f32) 1065353216 (by decide)))) ≤ 13 / 100000000 := by unfold o32; grind
  obtain ⟨f1, f2⟩ := abs_bounds (Rat.le_trans a2 b3)
  exact abs_le (by unfold keepF; grind) (by unfold keepF; grind)
def keepQ (q : Q4) : Q4 := ⟨keepF q.w, keepF q.x, keepF q.y, keepF q.z⟩
theorem keep_mend {q : Q4} (h : U4 q) : Num (lenQ (keepQ q)) ∧ val (lenQ (keepQ q)) ≠ 0 ∧ U4 (divQ (keepQ q) (lenQ (keepQ q))) ∧ ∃ k, C4 (divQ (keepQ q) (lenQ (keepQ q))) (scaleR (vq q) k) (1 / 100000) := by
  obtain ⟨b1, b2, b3, b4⟩ := h.bound
  obtain ⟨⟨n1, n2, n3, n4⟩, hn⟩ := h
  obtain ⟨w1, w2⟩ := keep_near n1 b1
  obtain ⟨x1, x2⟩ := keep_near n2 b2
  obtain ⟨y1, y2⟩ := keep_near n3 b3
  obtain ⟨z1, z2⟩ := keep_near n4 b4
  have hq : N4 (keepQ q) := ⟨w1, x1, y1, z1⟩
  have sq : ∀ {v x : Rat}, (v - x).abs ≤ 3 / 10000000 → x.abs ≤ 10001 / 10000 → v.abs ≤ 500 ∧ x * x ≤ v * v + 1 / 100000 := by
    intro v x h1 h2
    obtain ⟨a1, a2⟩ := abs_bounds h1
    obtain ⟨a3, a4⟩ := abs_bounds h2
    refine ⟨abs_le (by grind) (by grind), ?_⟩
    have e : x * x - v * v = (x - v) * (x + v) := by grind
    have h3 : (x + v).abs ≤ 3 := abs_le (by grind) (by grind)
    have h4 : (x - v).abs ≤ 3 / 10000000 := by rw [Rat.abs_sub_comm]; exact h1
    have h5 : ((x - v) * (x + v)).abs ≤ 9 / 10000000 := by
      rw [mul_abs]
      exact Rat.le_trans (mul_le_mul' h4 h3 Rat.abs_nonneg (by decide +kernel)) (by decide +kernel)
    have := (abs_bounds h5).1
    grind
  obtain ⟨w3, w4⟩ := sq w2 b1
  obtain ⟨x3, x4⟩ := sq x2 b2
  obtain ⟨y3, y4⟩ := sq y2 b3
  obtain ⟨z3, z4⟩ := sq z2 b4
  have hb : B4 (vq (keepQ q)) 500 := ⟨w3, x3, y3, z3⟩
  have hin : 1 / 100 ≤ innR (vq (keepQ q)) (vq (keepQ q)) := by
    obtain ⟨-, c1⟩ := abs_bounds hn
    show 1 / 100 ≤ val (keepF q.w) * val (keepF q.w) + val (keepF q.x) * val (keepF q.x) + val (keepF q.y) * val (keepF q.y) + val (keepF q.z) * val (keepF q.z)
    have c1' : -(1 / 100000) ≤ (val q.w * val q.w + val q.x * val q.x + val q.y * val q.y + val q.z * val q.z) - 1 := c1
    change (val q.w) * (val q.w) ≤ _ at w4
    change (val q.x) * (val q.x) ≤ _ at x4
    change (val q.y) * (val q.y) ≤ _ at y4
    change (val q.z) * (val q.z) ≤ _ at z4
    grind
  obtain ⟨k, k0, k1, k2, k3, k4⟩ := mend_near hq hb hin
  obtain ⟨-, m1, m2, m3, m4⟩ := lenQ_near hq hb
  refine ⟨m1, fun h => by rw [h, Rat.mul_zero] at k1; exact absurd k1 (by decide), U4.of_near k3 k4 (by rw [scale_norm]; exact Rat.le_trans k2 (by decide +kernel)), k, ?_⟩
  have kb : k ≤ 2 := by
    -- the length is at least 1/2
    have hi : 98 / 100 ≤ innR (vq (keepQ q)) (vq (keepQ q)) := by
      obtain ⟨-, c1⟩ := abs_bounds hn
      show 98 / 100 ≤ val (keepF q.w) * val (keepF q.w) + val (keepF q.x) * val (keepF q.x) + val (keepF q.y) * val (keepF q.y) + val (keepF q.z) * val (keepF q.z)
      have c1' : -(1 / 100000) ≤ (val q.w * val q.w + val q.x * val q.x + val q.y * val q.y + val q.z * val q.z) - 1 := c1
      change (val q.w) * (val q.w) ≤ _ at w4
      change (val q.x) * (val q.x) ≤ _ at x4
      change (val q.y) * (val q.y) ≤ _ at y4
      change (val q.z) * (val q.z) ≤ _ at z4
      grind
    obtain ⟨d1, d2⟩ := abs_bounds k2
    refine Rat.not_lt.1 fun hk => ?_
    have h4 := mul_le_mul' (Rat.le_of_lt hk) (Rat.le_of_lt hk) (by decide +kernel) (by grind)
    have h5 := mul_le_mul' h4 hi (by decide +kernel) (Rat.le_trans (show (0 : Rat) ≤ 98 / 100 by decide +kernel) hi)
    have h6 : k * k * innR (vq (keepQ q)) (vq (keepQ q)) ≤ 2 := by grind
    have h7 : (2 * 2 * (98 / 100) : Rat) ≤ 2 := Rat.le_trans h5 h6
    exact absurd h7 (by decide +kernel)
  obtain ⟨kn, q1, q2, q3, q4⟩ := k3
  have cm : ∀ {v x y : Rat}, (v - x * k).abs ≤ 1 / 2000000 → (x - y).abs ≤ 3 / 10000000 → (v - y * k).abs ≤ 1 / 100000 := by
    intro v x y r1 r2
    have e1 : ((x - y) * k).abs ≤ 6 / 10000000 := by
      rw [mul_abs]
      exact Rat.le_trans (mul_le_mul' r2 (show k.abs ≤ 2 from abs_le kb (by grind)) Rat.abs_nonneg (by decide +kernel)) (by decide +kernel)
    obtain ⟨s1, s2⟩ := abs_bounds r1
    obtain ⟨s3, s4⟩ := abs_bounds e1
    exact abs_le (by grind) (by grind)
  exact ⟨kn, cm q1 w2, cm q2 x2, cm q3 y2, cm q4 z2⟩
theorem mix_impl {K : Nat} {a : Turn} (h : U4 (tq a)) : impl_MixTurns (K + 2) [a] [Fl.mk (k := .f32) 1065353216 (by decide)] = some (mt (divQ (keepQ (tq a)) (lenQ (keepQ (tq a)))), true) := by
  obtain ⟨n1, n2, -, -⟩ := keep_mend h
  have hi : (innQ (tq a) (tq a)).lt' (Fl.mk (k := .f32) 0 (by decide)) = false := by
    obtain ⟨i1, i2⟩ := inn_near h.1 h.1 (h.bound.mono (by decide +kernel)) (h.bound.mono (by decide +kernel))
    rw [← Bool.not_eq_true, lt_val i1 z32.1, z32.2]
    obtain ⟨c1, c2⟩ := abs_bounds i2
    obtain ⟨c3, c4⟩ := abs_bounds h.2
    refine Rat.not_lt.2 ?_
    grind
  have hm := mend_impl (K + 2) (a := mt (keepQ (tq a))) n1 n2
  have hl : impl_mixTurns (K + 2) [a] [Fl.mk (k := .f32) 1065353216 (by decide)] = some (mt (divQ (keepQ (tq a)) (lenQ (keepQ (tq a))))) := by
    unfold impl_mixTurns impl_mixTurns_l1
    rw [show decide ((0 : Int) < (([a] : List Turn).length : Int)) = true from rfl, ite2_true, chk_pos (by exact ⟨by decide, show (0 : Int) < 1 by decide⟩), chk_pos (by exact ⟨by decide, show (0 : Int) < 1 by decide⟩)]
    rw [show impl_InnerOfTurns (K + 2) ([a].getD ((0 : Int).toNat) default) ([a].getD (0 : Int).toNat default) = some (innQ (tq a) (tq a)) from inn_impl _ a a, bind_of, hi, ite2_false, chk_pos (by exact ⟨by decide, show (0 : Int) < 1 by decide⟩)]
    unfold impl_mixTurns_l1
    rw [show decide (IntKind.i64.wrap ((0 : Int) + 1) < (([a] : List Turn).length : Int)) = false from rfl, ite2_false]
    show (impl_MendTurn (K + 2) (mt (keepQ (tq a)))).bind _ = _
    rw [hm]; rfl
  unfold impl_MixTurns
  rw [hl]; rfl
theorem gt_small {x : F32} (hx : Num x) (h : val x ≤ 1 / 2000) : (Fl.cv .f32 .f64 x).gt (Fl.mk (k := .f64) 4562254508917369340 (by decide)) = false := by
  obtain ⟨a1, a2⟩ := widen_val hx
  have c : Num (Fl.mk (k := .f64) 4562254508917369340 (by decide)) ∧ val (Fl.mk (k := .f64) 4562254508917369340 (by decide)) = 4611686018427388 * p2 (-62) := const_val (s := false) (m := 4611686018427388) (p := -62) (by decide) (by decide +kernel)
  rw [← Bool.not_eq_true, gt_val a1 c.1, a2, c.2]
  refine Rat.not_lt.2 (Rat.le_trans h (by decide +kernel))
theorem lt_small {x : F32} (hx : Num x) (h : val x ≤ 1 / 2000) : (Fl.cv .f32 .f64 x).lt' (Fl.mk (k := .f64) 4576918229304087675 (by decide)) = true := by
  obtain ⟨a1, a2⟩ := widen_val hx
  have c : Num (Fl.mk (k := .f64) 4576918229304087675 (by decide)) ∧ val (Fl.mk (k := .f64) 4576918229304087675 (by decide)) = 5764607523034235 * p2 (-59) := const_val (s := false) (m := 5764607523034235) (p := -59) (by decide) (by decide +kernel)
  rw [lt_val a1 c.1, a2, c.2]
  have h2 : (1 / 2000 : Rat) < 5764607523034235 * p2 (-59) := by decide +kernel
  grind
theorem gt_more {x y : F32} (hx : Num x) (hy : Num y) (y0 : 0 ≤ val y) (y1 : val y ≤ 10) (h : val x ≤ val y + 9 / 10000) : (Fl.cv .f32 .f64 x).gt ((Fl.cv .f32 .f64 y).add (Fl.mk (k := .f64) 4562254508917369340 (by decide))) = false := by
  obtain ⟨a1, a2⟩ := widen_val hx
  obtain ⟨b1, b2⟩ := widen_val hy
  have c : Num (Fl.mk (k := .f64) 4562254508917369340 (by decide)) ∧ val (Fl.mk (k := .f64) 4562254508917369340 (by decide)) = 4611686018427388 * p2 (-62) := const_val (s := false) (m := 4611686018427388) (p := -62) (by decide) (by decide +kernel)
  have cl : 99 / 100000 ≤ val (Fl.mk (k := .f64) 4562254508917369340 (by decide)) := by rw [c.2]; decide +kernel
  have cu : val (Fl.mk (k := .f64) 4562254508917369340 (by decide)) ≤ 1 / 100 := by rw [c.2]; decide +kernel
  have hb : (val (Fl.cv .f32 .f64 y) + val (Fl.mk (k := .f64) 4562254508917369340 (by decide))).abs ≤ 11 := by rw [b2]; exact abs_le (by grind) (by grind)
  obtain ⟨s1, s2, -, -⟩ := add64 b1 c.1 (Rat.le_trans hb (by decide +kernel))
  have ho : o64 (val (Fl.cv .f32 .f64 y) + val (Fl.mk (k := .f64) 4562254508917369340 (by decide))) ≤ 1 / 1000000 := by unfold o64; grind
  obtain ⟨d1, d2⟩ := abs_bounds (Rat.le_trans s2 ho)
  rw [← Bool.not_eq_true, gt_val a1 s1, a2]
  refine Rat.not_lt.2 ?_
  rw [b2] at d1
  grind
theorem chain3 {a b c d : Q4} (ha : U4 a) (hc : U4 c) (hd : U4 d) (h1 : Mul4 a b (1 / 400000)) (h2 : Mul4 b c (1 / 400000)) (h3 : Mul4 c d (1 / 400000)) : Mul4 a d (1 / 100000) := by
  obtain ⟨k, hk⟩ := h1.trans h2
  have h4 : Mul4 a c (6 / 1000000) := mult_of ha hc (by decide +kernel) (hk.mono (by decide +kernel))
  obtain ⟨l, hl⟩ := h4.trans h3
  exact mult_of ha hd (by decide +kernel) (hl.mono (by decide +kernel))
theorem r8turn (K : Nat) {c : List Int} (hc : Byt c) : ∃ t, spec_R8Turn K c = some t ∧ U4 (tq t) := by
  obtain ⟨r, a', s', h, hp, -, -⟩ := turn_u (K := K) hc 0 0 (by decide) (by decide)
  unfold spec_R8Turn
  rw [h]
  exact ⟨r, rfl, hp⟩
theorem r8At_in (K : Nat) {c : List Int} (hc : Byt c) : ∃ n : Nat, n < 17 ∧ laws_r8At K c 40 17 = some (n : Int) := by
  unfold laws_r8At
  rw [show decide ((17 : Int) ≤ 1) = false from rfl, ite2_false, bind_of]
  by_cases h : (40 : Int) ≥ (c.length : Int)
  · rw [decide_eq_true h, ite2_true]
    exact ⟨0, by decide, rfl⟩
  · rw [decide_eq_false h, ite2_false, chk_pos ⟨by decide, by omega⟩, chk_pos (by decide)]
    have hx : 0 ≤ c.getD (40 : Int).toNat default ∧ c.getD (40 : Int).toNat default < 256 := by
      rw [List.getD_eq_getElem?_getD, List.getElem?_eq_getElem (show (40 : Int).toNat < c.length by omega)]
      exact hc _ (List.getElem_mem _)
    generalize c.getD (40 : Int).toNat default = x at hx
    have hw : IntKind.i64.wrap x = x := by unfold IntKind.wrap; simp [IntKind.signed, IntKind.bits]; omega
    rw [hw]
    obtain ⟨t1, t2⟩ := tmod_in (n := 17) hx.1 (by decide)
    exact ⟨(x.tmod 17).toNat, by omega, by congr 1; omega⟩
def shF (n : Int) : F32 := (Fl.ofInt .f32 n).div (Fl.mk (k := .f32) 1098907648 (by decide))
theorem shF_ok : ∀ r : Fin 17, (numD (Ieee.single.read (shF (r.val : Int)).bits) && decide (0 ≤ val (shF (r.val : Int))) && decide (val (shF (r.val : Int)) ≤ 1)) = true := by decide +kernel
theorem Byt.drop {c : List Int} (h : Byt c) (n : Nat) : Byt (c.drop n) := fun x hx => h x (List.mem_of_mem_drop hx)
theorem apart_mt {K : Nat} (hK : 16 < K) (a : Turn) {q : Q4} (h : Fair (apartQ (tq a) q)) : impl_ApartTurns K a (mt q) = some (angQ (apartQ (tq a) q)) := apart_impl hK a (mt q) h
theorem near_true (a b : List Int) (ha : Byt a) (hb : Byt b) : ∃ K, laws_FnNearTurns K a b = some true := by
  refine ⟨98 + 2, ?_⟩
  have hK : 16 < 98 + 2 := by decide
  unfold laws_FnNearTurns laws_r8Long
  rw [ite2_dec]
  by_cases la : (a.length : Int) > 48
  · rw [if_pos la, bind_of, bind_of, ite2_true]
  rw [if_neg la, bind_of]
  by_cases lb : (b.length : Int) > 48
  · rw [decide_eq_true lb, bind_of, ite2_true]
  rw [decide_eq_false lb, bind_of, ite2_false]
  obtain ⟨A, eA, uA⟩ := r8turn (98 + 2) ha
  obtain ⟨B, eB, uB⟩ := r8turn (98 + 2) hb
  obtain ⟨C, eC, uC⟩ := r8turn (98 + 2) (ha.drop (a.length / 2))
  obtain ⟨D, eD, uD⟩ := r8turn (98 + 2) (hb.drop (b.length / 2))
  obtain ⟨n, n17, en⟩ := r8At_in (98 + 2) hb
  have hsh := shF_ok ⟨n, n17⟩
  simp only [Bool.and_eq_true, decide_eq_true_eq] at hsh
  obtain ⟨⟨sh1, sh2⟩, sh3⟩ := hsh
  have sh1 := num_of_fin sh1
  rw [eA, bind_of, eB, bind_of, chk_pos (by omega), eC, bind_of, chk_pos (by omega), eD, bind_of, en, bind_of]
  obtain ⟨z1, z2⟩ := z32
  obtain ⟨o1, o2⟩ := one32
  have i0 : (0 : Rat) ≤ val (Fl.mk (k := .f32) 0 (by decide)) := by rw [z2]; exact Rat.le_refl
  have i1 : val (Fl.mk (k := .f32) 0 (by decide)) ≤ 1 := by rw [z2]; decide
  have j0 : (0 : Rat) ≤ val (Fl.mk (k := .f32) 1065353216 (by decide)) := by rw [o2]; decide
  have j1 : val (Fl.mk (k := .f32) 1065353216 (by decide)) ≤ 1 := by rw [o2]; exact Rat.le_refl
  obtain ⟨uX, mX⟩ := near_zero uA uB z1 z2
  obtain ⟨uY, mY⟩ := near_one uA uB o1 o2
  obtain ⟨-, -, -, uZ, c, k, c1, k0, k1, k2, k3⟩ := near_facts uA uB sh1 sh2 sh3
  obtain ⟨-, -, uW, kW, mW⟩ := keep_mend uA
  rw [near_impl _ uA uB z1 i0 i1, bind_of, near_impl _ uA uB o1 j0 j1, bind_of, show (Fl.ofInt .f32 (n : Int)).div (Fl.mk (k := .f32) 1098907648 (by decide)) = shF (n : Int) from rfl, near_impl _ uA uB sh1 sh2 sh3, bind_of, mix_impl uA, bind_of]
  dsimp only
  obtain ⟨fX, nX, -, vX⟩ := mX.small uA uX (by decide +kernel) (by decide +kernel)
  obtain ⟨fY, nY, -, vY⟩ := mY.small uB uY (by decide +kernel) (by decide +kernel)
  obtain ⟨fW, nW, -, vW⟩ := apart_small uA uW mW (by decide +kernel) (by decide +kernel)
  obtain ⟨fZ, fB, vZ⟩ := apart_mono uA uB uZ c1 sh2 sh3 k0 k1 k2 k3
  have hB := angQ_near fB
  have hZ := angQ_near fZ
  rw [Bool.not_true, ite2_false, apart_mt hK A fX, bind_of, gt_small nX vX, ite2_false]
  rw [apart_mt hK B fY, bind_of, gt_small nY vY, ite2_false]
  rw [apart_mt hK A fW, bind_of, gt_small nW vW, ite2_false]
  obtain ⟨hB1, hB2, hB3, -, hB5, hB6, hB7⟩ := hB
  rw [apart_mt hK A fZ, bind_of, apart_impl hK A B fB, bind_of, gt_more hZ.2.2.2.2.1 hB5 hB6 (by obtain ⟨t1, t2⟩ := abs_bounds hB7; grind) vZ, bind_of, ite2_false]
  have bind_one : ∀ x : Option Turn, (x.bind fun v => some v) = x := fun x => by cases x <;> rfl
  have q1 : ∀ (K : Nat) {a b c d : Turn}, U4 (tq a) → U4 (tq b) → U4 (tq c) → U4 (tq d) → ∃ q, impl_CurveTurn K a b c d (Fl.mk (k := .f32) 0 (by decide)) = some (mt q) ∧ U4 q ∧ Mul4 (tq a) q (1 / 100000) := by
    intro K a b c d ua ub uc ud
    obtain ⟨u1, m1⟩ := near_zero ua ub z1 z2
    obtain ⟨u2, m2⟩ := near_zero ub uc z1 z2
    obtain ⟨u3, m3⟩ := near_zero uc ud z1 z2
    obtain ⟨u4, m4⟩ := near_zero u1 u2 z1 z2
    obtain ⟨u5, m5⟩ := near_zero u2 u3 z1 z2
    obtain ⟨u6, m6⟩ := near_zero u4 u5 z1 z2
    refine ⟨_, ?_, u6, chain3 ua u4 u6 m1 m4 m6⟩
    unfold impl_CurveTurn
    rw [near_impl K ua ub z1 i0 i1, bind_of, near_impl K ub uc z1 i0 i1, bind_of, near_impl K uc ud z1 i0 i1, bind_of, near_mt K u1 u2 z1 i0 i1, bind_of, near_mt K u2 u3 z1 i0 i1, bind_of, near_mt K u4 u5 z1 i0 i1, bind_of]
  have q2 : ∀ (K : Nat) {a b c d : Turn}, U4 (tq a) → U4 (tq b) → U4 (tq c) → U4 (tq d) → ∃ q, impl_CurveTurn K a b c d (Fl.mk (k := .f32) 1065353216 (by decide)) = some (mt q) ∧ U4 q ∧ Mul4 (tq d) q (1 / 100000) := by
    intro K a b c d ua ub uc ud
    obtain ⟨u1, m1⟩ := near_one ua ub o1 o2
    obtain ⟨u2, m2⟩ := near_one ub uc o1 o2
    obtain ⟨u3, m3⟩ := near_one uc ud o1 o2
    obtain ⟨u4, m4⟩ := near_one u1 u2 o1 o2
    obtain ⟨u5, m5⟩ := near_one u2 u3 o1 o2
    obtain ⟨u6, m6⟩ := near_one u4 u5 o1 o2
    refine ⟨_, ?_, u6, chain3 ud u5 u6 m3 m5 m6⟩
    unfold impl_CurveTurn
    rw [near_impl K ua ub o1 j0 j1, bind_of, near_impl K ub uc o1 j0 j1, bind_of, near_impl K uc ud o1 j0 j1, bind_of, near_mt K u1 u2 o1 j0 j1, bind_of, near_mt K u2 u3 o1 j0 j1, bind_of, near_mt K u4 u5 o1 j0 j1, bind_of]
  obtain ⟨p, ep, up, mp⟩ := q1 (98 + 2) uA uB uC uD
  obtain ⟨q, eq, uq, mq⟩ := q2 (98 + 2) uA uB uC uD
  obtain ⟨fP, nP, -, vP⟩ := mp.small uA up (by decide +kernel) (by decide +kernel)
  obtain ⟨fQ, nQ, -, vQ⟩ := mq.small uD uq (by decide +kernel) (by decide +kernel)
  have em : impl_MixTurns (98 + 2) ([] : List Turn) ([] : List F32) = some ((Turn.mk (default : F32) (default : F32) (default : F32) (default : F32)), false) := rfl
  rw [ep, bind_of, eq, bind_of, em, bind_of]
  dsimp only
  rw [Bool.not_false, ite2_true, apart_mt hK A fP, bind_of, lt_small nP vP, ite2_true, apart_mt hK D fQ, bind_of, lt_small nQ vQ, bind_of]
theorem law_FnNearTurns (a b : List Int) (ha : a.length ≤ maxLen ∧ ∀ x ∈ a, (Lit.int .u8 x).wf = true) (hb : b.length ≤ maxLen ∧ ∀ x ∈ b, (Lit.int .u8 x).wf = true) : ∃ K, laws_FnNearTurns K a b = some true := by
  have byt : ∀ {c : List Int}, (∀ x ∈ c, (Lit.int .u8 x).wf = true) → Byt c := fun h x hx => by
    have := h x hx
    simp only [Lit.wf, Bool.and_eq_true, decide_eq_true_eq] at this
    have e1 : IntKind.u8.min = 0 := by decide
    have e2 : IntKind.u8.max = 255 := by decide
    omega
  exact near_true a b (byt ha.2) (byt hb.2)
end Go.Fw
