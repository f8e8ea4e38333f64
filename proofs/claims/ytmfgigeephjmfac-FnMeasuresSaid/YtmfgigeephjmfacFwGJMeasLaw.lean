/- The law of measures of skins, in plain Lean. -/
import Derived.Test.YtmfgigeephjmfacFwGJWorldBase
import Derived.Test.YtmfgigeephjmfacFwFB
namespace Go.Fw
open Go

/-! Lengths. -/
theorem sqrt_impl (K : Nat) (x : F32) : impl_RootNumber K x = some (Fl.cv .f64 .f32 (Fl.cv .f32 .f64 x).sqrt) := by
  unfold impl_RootNumber math_Sqrt math_sqrt
  simp only [bind_of, chk_pos (narrow_root x)]
def rootF (x : F32) : F32 := Fl.cv .f64 .f32 (Fl.cv .f32 .f64 x).sqrt
def lessF (a b : Vector) : Vector := Vector.mk (a.X.sub b.X) (a.Y.sub b.Y) (a.Z.sub b.Z)
/-- A distance. -/
def dst (a b : Vector) : F32 := rootF (sqrF (lessF a b))
theorem less_impl (K : Nat) (a b : Vector) : impl_LessVectors K a b = some (lessF a b) := rfl
theorem less_spec (K : Nat) (a b : Vector) : spec_LessVectors K a b = some (lessF a b) := rfl
theorem long_impl (K : Nat) (v : Vector) : impl_LongOf K v = some (rootF (sqrF v)) := by
  unfold impl_LongOf impl_InnerOf
  rw [bind_of, sqrt_impl]; rfl
theorem long_spec (K : Nat) (v : Vector) : spec_LongOf K v = some (rootF (sqrF v)) := by
  unfold spec_LongOf spec_l01Long spec_l01Inner spec_l01Sqrt math_Sqrt math_sqrt spec_l01Narrow
  simp only [bind_of, chk_pos (narrow_root _)]; rfl
theorem sq_dz {k : Nat} {n : Int} {x : F32} {B : Nat} (h : Db k B n x) (hB : B * B < 16777216) (hk : k + k ≤ 149) : Dz (k + k) (n * n) (x.mul x) := by
  have hb := h.mul h hB hk
  refine ⟨hb.1, ?_⟩
  obtain ⟨r, r1, r2⟩ := Val.product h.1 h.1
  have hz : NZ r := by
    obtain ⟨s, m, i, e, _⟩ := h.1
    rw [e] at r1
    have r1' := Option.some.inj r1
    intro j hj
    rw [hj] at r1'
    injection r1' with g1 _ _
    cases s <;> cases g1
  have hl := hb.2
  refine opt_nz (r := Ieee.single.write r) ?_ (r2.write (by omega) hk) (write_nz r2 hz (by omega) hk)
  show Ieee.single.mul x.bits x.bits = _
  unfold Ieee.Format.mul
  rw [r1]; rfl
theorem sqr_dz {B : Nat} {q : V3} {v : Vector} (h : Vb B q v) (hB : B ≤ 1000) : Dz 0 (sqV q) (sqrF v) := by
  have h2 : B * B ≤ 1000 * 1000 := Nat.mul_le_mul hB hB
  have hx := sq_dz h.x (by omega) (by decide)
  have hy := h.y.mul h.y (by omega) (by decide)
  have hz := h.z.mul h.z (by omega) (by decide)
  have bx := (h.x.mul h.x (by omega) (by decide)).2
  have by_ := hy.2
  have bz := hz.2
  exact (hx.add hy.1 (by omega) (by decide)).add hz.1 (by omega) (by decide)
theorem sqV_nonneg (q : V3) : 0 ≤ sqV q := by
  unfold sqV
  have h : ∀ a : Int, 0 ≤ a * a := fun a => by
    rcases Int.le_total 0 a with h | h
    · exact Int.mul_nonneg h h
    · exact Int.mul_nonneg_of_nonpos_of_nonpos h h
  have h1 := h q.1; have h2 := h q.2.1; have h3 := h q.2.2
  omega
theorem sqV_le {B : Nat} {q : V3} {v : Vector} (h : Vb B q v) : sqV q ≤ 3 * (B * B : Nat) := by
  have h2 : ∀ a : Int, a.natAbs ≤ B → a * a ≤ ((B * B : Nat) : Int) := fun a ha => by
    have := Nat.mul_le_mul ha ha
    rw [← Int.natAbs_mul] at this
    omega
  have := h2 _ h.x.2; have := h2 _ h.y.2; have := h2 _ h.z.2
  unfold sqV
  omega
def rootOK (a : Nat) : Bool := (List.range 500).all fun n => !isN (rootF (Fl.ofInt .f32 ((a * 500 + n : Nat) : Int)))
theorem ra0 : rootOK 0 = true := by decide +kernel
theorem ra1 : rootOK 1 = true := by decide +kernel
theorem ra2 : rootOK 2 = true := by decide +kernel
theorem ra3 : rootOK 3 = true := by decide +kernel
theorem ra4 : rootOK 4 = true := by decide +kernel
theorem ra5 : rootOK 5 = true := by decide +kernel
theorem ra6 : rootOK 6 = true := by decide +kernel
theorem ra7 : rootOK 7 = true := by decide +kernel
theorem root_all (n : Nat) (h : n < 4000) : isN (rootF (Fl.ofInt .f32 (n : Int))) = false := by
  have key : ∀ a, rootOK a = true → n / 500 = a → isN (rootF (Fl.ofInt .f32 (n : Int))) = false := fun a ha e => by
    have := List.all_eq_true.1 ha (n % 500) (List.mem_range.2 (Nat.mod_lt _ (by decide)))
    rw [show a * 500 + n % 500 = n by omega, Bool.not_eq_true'] at this
    exact this
  rcases (show n / 500 = 0 ∨ n / 500 = 1 ∨ n / 500 = 2 ∨ n / 500 = 3 ∨ n / 500 = 4 ∨ n / 500 = 5 ∨ n / 500 = 6 ∨ n / 500 = 7 by omega) with e | e | e | e | e | e | e | e
  · exact key 0 ra0 e
  · exact key 1 ra1 e
  · exact key 2 ra2 e
  · exact key 3 ra3 e
  · exact key 4 ra4 e
  · exact key 5 ra5 e
  · exact key 6 ra6 e
  · exact key 7 ra7 e
theorem root_num {B : Nat} {q : V3} {v : Vector} (h : Vb B q v) (hB : B ≤ 36) : isN (rootF (sqrF v)) = false := by
  have h1 := sqr_dz h (by omega)
  have h2 := sqV_nonneg q
  have h3 := sqV_le h
  have h4 : B * B ≤ 36 * 36 := Nat.mul_le_mul hB hB
  obtain ⟨n, hn⟩ := Int.eq_ofNat_of_zero_le h2
  have e : sqrF v = Fl.ofInt .f32 (n : Int) := by
    rw [hn] at h1
    exact h1.uniq (Dz.ofInt (by omega))
  rw [e]
  exact root_all n (by omega)
theorem dst_num {B C : Nat} {p q : V3} {a b : Vector} (ha : Vb B p a) (hb : Vb C q b) (h : B + C ≤ 36) : isN (dst a b) = false := root_num (ha.sub hb (by omega)) (by omega)
theorem dst_sym {B C : Nat} {p q : V3} {a b : Vector} (ha : Vb B p a) (hb : Vb C q b) (h : B + C ≤ 36) : dst a b = dst b a := by
  have h1 := sqr_dz (ha.sub hb (by omega)) (by omega)
  have h2 := sqr_dz (hb.sub ha (by omega)) (by omega)
  have e : sqV (subV p q) = sqV (subV q p) := by
    have neg : ∀ x y : Int, (x - y) * (x - y) = (y - x) * (y - x) := fun x y => by rw [← Int.neg_sub y x, Int.neg_mul_neg]
    show (p.1 - q.1) * (p.1 - q.1) + (p.2.1 - q.2.1) * (p.2.1 - q.2.1) + (p.2.2 - q.2.2) * (p.2.2 - q.2.2) = (q.1 - p.1) * (q.1 - p.1) + (q.2.1 - p.2.1) * (q.2.1 - p.2.1) + (q.2.2 - p.2.2) * (q.2.2 - p.2.2)
    rw [neg p.1, neg p.2.1, neg p.2.2]
  rw [e] at h1
  show rootF (sqrF (lessF a b)) = rootF (sqrF (lessF b a))
  exact congrArg rootF (h1.uniq h2)

/-! The farthest, the nearest. -/
theorem gt_num {a b : F32} (ha : isN a = false) (hb : isN b = false) : a.gt b = decide (key b < key a) := by
  cases h : a.gt b
  · rw [decide_eq_false]
    intro hk
    have := gt_key.2 ⟨ha, hb, hk⟩
    rw [h] at this; cases this
  · rw [decide_eq_true (gt_key.1 h).2.2]
theorem lt_num {a b : F32} (ha : isN a = false) (hb : isN b = false) : a.lt' b = decide (key a < key b) := by
  cases h : a.lt' b
  · rw [decide_eq_false]
    intro hk
    have := lt_key.2 ⟨ha, hb, hk⟩
    rw [h] at this; cases this
  · rw [decide_eq_true (lt_key.1 h).2.2]
theorem eq_num {a b : F32} (ha : isN a = false) (hb : isN b = false) : a.eq b = decide (key a = key b) := by
  cases h : a.eq b
  · rw [decide_eq_false]
    intro hk
    have := eq_key.2 ⟨ha, hb, hk⟩
    rw [h] at this; cases this
  · rw [decide_eq_true (eq_key.1 h).2.2]
theorem ne_num {a b : F32} (ha : isN a = false) (hb : isN b = false) : a.ne b = !decide (key a = key b) := by rw [ne_not, eq_num ha hb]
/-- The first of the greatest. -/
structure Far (n : Nat) (f : Nat → F32) (at_ : Nat) (m : F32) : Prop where
  lt : at_ < n
  is : m = f at_
  le : ∀ j, j < n → key (f j) ≤ key m
  fst : ∀ j, j < at_ → key (f j) < key m
theorem far_loop {K n : Nat} (a b : List Vector) (ha : a.length = n) (hb : b.length = n) (hn : n ≤ 24) (f : Nat → F32) (hf : ∀ j, f j = dst (b.getD j default) (a.getD j default)) (hnum : ∀ j, j < n → isN (f j) = false) : ∀ (k i c : Nat) (m : F32), i ≤ n → n - i < k → c < n → m = f c → (∀ j, j < i → key (f j) ≤ key m) → (∀ j, j < c → key (f j) < key m) → (i = 0 → c = 0) →
    ∃ (c' : Nat) (m' : F32), impl_FarthestMove_l1 K a b k m (i : Int) (c : Int) = some (((c' : Nat) : Int), m', true) ∧ Far n f c' m' := by
  intro k
  induction k with
  | zero => intro i _ _ _ h; omega
  | succ k ih =>
    intro i c m h1 h2 hc hm h3 h4 h5
    rw [impl_FarthestMove_l1, ite2_dec]
    by_cases hi : i < n
    · have nm : isN m = false := by rw [hm]; exact hnum c hc
      have ni := hnum i hi
      rw [if_pos (by omega), chk_pos (by omega), chk_pos (by omega), Int.toNat_natCast, less_impl, bind_of, long_impl, bind_of, wrap_nat1 (by omega)]
      rw [show rootF (sqrF (lessF (b.getD i default) (a.getD i default))) = f i from (hf i).symm, gt_num ni nm, ne_num nm nm, decide_eq_true rfl, Bool.not_true, ite2_false, ite2_dec]
      by_cases hg : key m < key (f i)
      · rw [if_pos hg, bind_of, ite2_true]
        refine ih (i + 1) i (f i) (by omega) (by omega) hi rfl (fun j hj => ?_) (fun j hj => ?_) (fun h => by omega)
        · by_cases e : j = i
          · subst e; exact Int.le_refl _
          · have := h3 j (by omega); omega
        · have := h3 j hj; omega
      · rw [if_neg hg, bind_of, ite2_false]
        refine ih (i + 1) c m (by omega) (by omega) hc hm (fun j hj => ?_) h4 (fun h => by omega)
        by_cases e : j = i
        · subst e; omega
        · exact h3 j (by omega)
    · rw [if_neg (by omega)]
      exact ⟨c, m, rfl, hc, hm, fun j hj => h3 j (by omega), h4⟩
theorem far_eq {K n : Nat} (hK : 30 < K) (a b : List Vector) (ha : a.length = n) (hb : b.length = n) (h1 : 1 ≤ n) (hn : n ≤ 24) (hnum : ∀ j, j < n → isN (dst (b.getD j default) (a.getD j default)) = false) : ∃ (c : Nat) (m : F32), impl_FarthestMove K a b = some (((c : Nat) : Int), m, true) ∧ Far n (fun j => dst (b.getD j default) (a.getD j default)) c m := by
  unfold impl_FarthestMove
  rw [ha, hb, ite2_dec, if_neg (by omega), ite2_dec, if_neg (by omega), bne_self_eq_false, bind_of, ite2_false, chk_pos (by omega), chk_pos (by omega), show ((0 : Int).toNat) = 0 from rfl, less_impl, bind_of, long_impl, bind_of]
  exact far_loop a b ha hb hn _ (fun _ => rfl) hnum K 0 0 _ (by omega) (by omega) (by omega) rfl (fun j hj => by omega) (fun j hj => by omega) (fun _ => rfl)
/-- The first of the smallest. -/
structure Near (n : Nat) (f : Nat → F32) (b : Nat) : Prop where
  lt : b < n
  le : ∀ j, j < n → key (f b) ≤ key (f j)
  fst : ∀ j, j < b → key (f b) < key (f j)
theorem near_loop {K n : Nat} (a : List Vector) (w : List Turn × List Vector) (x : Nat) (hw : w.2.length = n) (hn : n ≤ 12) (f : Nat → F32) (hf : ∀ j, f j = dst (a.getD x default) (w.2.getD j default)) (hnum : ∀ j, j < n → isN (f j) = false) : ∀ (k i c : Nat) (m : F32), i ≤ n → n - i < k → c < n → m = f c → (∀ j, j < i → key m ≤ key (f j)) → (∀ j, j < c → key m < key (f j)) →
    ∃ c', impl_AssignSkin_l5 K a w (x : Int) k m (i : Int) (c : Int) = some ((c' : Nat) : Int) ∧ Near n f c' := by
  intro k
  induction k with
  | zero => intro i _ _ _ h; omega
  | succ k ih =>
    intro i c m h1 h2 hc hm h3 h4
    rw [impl_AssignSkin_l5, ite2_dec]
    by_cases hi : i < n
    · have nm : isN m = false := by rw [hm]; exact hnum c hc
      have ni := hnum i hi
      rw [if_pos (by omega), chk_pos (by omega), Int.toNat_natCast, Int.toNat_natCast, less_impl, bind_of, long_impl, bind_of, wrap_nat1 (by omega)]
      rw [show rootF (sqrF (lessF (a.getD x default) (w.2.getD i default))) = f i from (hf i).symm, lt_num ni nm, ne_num nm nm, decide_eq_true rfl, Bool.not_true, ite2_false, ite2_dec]
      by_cases hg : key (f i) < key m
      · rw [if_pos hg, bind_of, ite2_true]
        refine ih (i + 1) i (f i) (by omega) (by omega) hi rfl (fun j hj => ?_) (fun j hj => ?_)
        · by_cases e : j = i
          · subst e; exact Int.le_refl _
          · have := h3 j (by omega); omega
        · have := h3 j hj; omega
      · rw [if_neg hg, bind_of, ite2_false]
        refine ih (i + 1) c m (by omega) (by omega) hc hm (fun j hj => ?_) h4
        by_cases e : j = i
        · subst e; omega
        · exact h3 j (by omega)
    · rw [if_neg (by omega)]
      subst hm
      exact ⟨c, rfl, hc, fun j hj => h3 j (by omega), h4⟩
theorem assign_loop {K n m : Nat} (hK : 30 < K) (a : List Vector) (w : List Turn × List Vector) (ha : a.length = m) (hm : m ≤ 24) (hw : w.2.length = n) (h1 : 1 ≤ n) (hn : n ≤ 12) (hnum : ∀ x, x < m → ∀ j, j < n → isN (dst (a.getD x default) (w.2.getD j default)) = false) : ∀ (k i : Nat) (ps : List SkinPoint), i ≤ m → m - i < k → ps.length = i → (∀ x, x < i → ∃ b : Nat, ps.getD x default = SkinPoint.mk (a.getD x default) [(b : Int)] [Fl.mk (k := .f32) 1065353216 (by decide)] ∧ Near n (fun j => dst (a.getD x default) (w.2.getD j default)) b) →
    ∃ qs, impl_AssignSkin_l4 K a w k (i : Int) ps = some (qs, true) ∧ qs.length = m ∧ ∀ x, x < m → ∃ b : Nat, qs.getD x default = SkinPoint.mk (a.getD x default) [(b : Int)] [Fl.mk (k := .f32) 1065353216 (by decide)] ∧ Near n (fun j => dst (a.getD x default) (w.2.getD j default)) b := by
  intro k
  induction k with
  | zero => intro i _ _ h; omega
  | succ k ih =>
    intro i ps g1 g2 g3 g4
    rw [impl_AssignSkin_l4, ite2_dec]
    by_cases hi : i < m
    · obtain ⟨b, b1, b2⟩ := near_loop (K := K) a w i hw hn (fun j => dst (a.getD i default) (w.2.getD j default)) (fun _ => rfl) (hnum i hi) K 0 0 _ (by omega) (by omega) (by omega) rfl (fun j hj => by omega) (fun j hj => by omega)
      rw [if_pos (by omega), chk_pos (by omega), chk_pos (by omega), Int.toNat_natCast, show ((0 : Int).toNat) = 0 from rfl, less_impl, bind_of, long_impl, bind_of]
      rw [show ((0 : Nat) : Int) = 0 from rfl] at b1
      rw [show rootF (sqrF (lessF (a.getD i default) (w.2.getD 0 default))) = dst (a.getD i default) (w.2.getD 0 default) from rfl, b1, bind_of, chk_pos (by simp; omega), wrap_nat1 (by omega)]
      refine ih (i + 1) _ (by omega) (by omega) (by simp; omega) (fun x hx => ?_)
      by_cases e : x < i
      · rw [getD_left (by omega)]; exact g4 x e
      · have : x = i := by omega
        subst this
        exact ⟨b, getD_end (by omega), b2⟩
    · rw [if_neg (by omega)]
      have : i = m := by omega
      subst this
      exact ⟨ps, rfl, g3, g4⟩

/-! Weights. -/
/-- The weights that come of two integers. -/
def evW (a b : Int) : F32 × F32 :=
  let s := ((Fl.mk (k := .f32) 0 (by decide)).add (Fl.ofInt .f32 a)).add (Fl.ofInt .f32 b)
  if ((s.sub s).eq (Fl.mk (k := .f32) 0 (by decide)) && s.ne (Fl.mk (k := .f32) 0 (by decide))) = true then ((Fl.ofInt .f32 a).div s, (Fl.ofInt .f32 b).div s) else (Fl.mk (k := .f32) 1065353216 (by decide), default)
def gapF (a b : F64) : F64 := if a.lt' b = true then b.sub a else a.sub b
def evOK (a b : Nat) : Bool := !(gapF ((Fl.cv .f32 .f64 (evW (a : Int) (b : Int)).1).add (Fl.cv .f32 .f64 (evW (a : Int) (b : Int)).2)) (Fl.mk (k := .f64) 4607182418800017408 (by decide))).gt (Fl.mk (k := .f64) 4532020583610935537 (by decide))
theorem ev_all : ∀ a : Fin 9, ∀ b : Fin 9, evOK a.val b.val = true := by decide +kernel
theorem gap_eq (K : Nat) (a b : F64) : laws_b10Gap K a b = some (gapF a b) := by
  unfold laws_b10Gap gapF
  cases a.lt' b <;> rfl
theorem sum2 {K : Nat} (hK : 10 < K) (x y : F32) : impl_sum K [x, y] = some (((Fl.mk (k := .f32) 0 (by decide)).add x).add y) := by
  obtain ⟨k, rfl⟩ : ∃ k, K = k + 10 := ⟨K - 10, by omega⟩
  have h : impl_sum (k + 10) [x, y] = some (((Fl.mk (k := .f32) 0 (by decide)).add x).add y) := by kernel_rfl
  exact h
theorem even_l5 {K : Nat} (hK : 10 < K) (ps : List SkinPoint) (i : Nat) (s x y : F32) (h : (ps.getD i default).Weights = [x, y]) : impl_EvenWeights_l5 K ps (i : Int) s K 0 [default, default] = some [x.div s, y.div s] := by
  obtain ⟨k, rfl⟩ : ∃ k, K = k + 10 := ⟨K - 10, by omega⟩
  have w1 : IntKind.i64.wrap ((0 : Int) + 1) = 1 := by decide
  have w2 : IntKind.i64.wrap ((1 : Int) + 1) = 2 := by decide
  rw [impl_EvenWeights_l5, Int.toNat_natCast, h, w1, ite2_dec, if_pos (by simp), chk_pos (by simp), chk_pos (by simp)]
  rw [impl_EvenWeights_l5, Int.toNat_natCast, h, w2, ite2_dec, if_pos (by simp), chk_pos (by simp), chk_pos (by simp)]
  rw [impl_EvenWeights_l5, Int.toNat_natCast, h, ite2_dec, if_neg (by simp)]
  rfl
theorem even_loop {K m : Nat} (hK : 30 < K) (ps : List SkinPoint) (hm : ps.length = m) (hm24 : m ≤ 24) (wa wb : Nat → Int) (hp : ∀ j, j < m → (ps.getD j default).Weights = [Fl.ofInt .f32 (wa j), Fl.ofInt .f32 (wb j)] ∧ (ps.getD j default).Bones.length ≤ 4) : ∀ (k i : Nat) (qs : List SkinPoint), i ≤ m → m - i < k → qs.length = i → (∀ j, j < i → (qs.getD j default).Weights = [(evW (wa j) (wb j)).1, (evW (wa j) (wb j)).2]) →
    ∃ r, impl_EvenWeights_l4 K ps k (i : Int) qs = some (r, true) ∧ r.length = m ∧ ∀ j, j < m → (r.getD j default).Weights = [(evW (wa j) (wb j)).1, (evW (wa j) (wb j)).2] := by
  intro k
  induction k with
  | zero => intro i _ _ h; omega
  | succ k ih =>
    intro i qs g1 g2 g3 g4
    rw [impl_EvenWeights_l4, ite2_dec]
    by_cases hi : i < m
    · obtain ⟨hw, hb⟩ := hp i hi
      unfold slices_Clone_int64_int64 impl_isLength impl_IsFinite
      rw [if_pos (by omega), chk_pos (by omega), Int.toNat_natCast, hw, sum2 (by omega), bind_of, chk_pos (by simp), bind_of]
      have e2 : ([Fl.ofInt .f32 (wa i), Fl.ofInt .f32 (wb i)] : List F32).length = 2 := rfl
      rw [e2, show (((2 : Nat) : Int).toNat) = 2 from rfl, show (List.replicate 2 (default : F32)) = [default, default] from rfl, even_l5 (by omega) ps i _ _ _ hw, wrap_nat1 (by omega)]
      generalize hs : ((Fl.mk (k := .f32) 0 (by decide)).add (Fl.ofInt .f32 (wa i))).add (Fl.ofInt .f32 (wb i)) = s
      have key : ∀ p : SkinPoint, p.Weights = [(evW (wa i) (wb i)).1, (evW (wa i) (wb i)).2] → ∃ r, impl_EvenWeights_l4 K ps k ((i + 1 : Nat) : Int) (qs ++ [p]) = some (r, true) ∧ r.length = m ∧ ∀ j, j < m → (r.getD j default).Weights = [(evW (wa j) (wb j)).1, (evW (wa j) (wb j)).2] := by
        intro p hpw
        refine ih (i + 1) _ (by omega) (by omega) (by simp; omega) (fun j hj => ?_)
        by_cases e : j < i
        · rw [getD_left (by omega)]; exact g4 j e
        · have : j = i := by omega
          subst this
          rw [getD_end (by omega)]; exact hpw
      have hev : evW (wa i) (wb i) = if ((s.sub s).eq (Fl.mk (k := .f32) 0 (by decide)) && s.ne (Fl.mk (k := .f32) 0 (by decide))) = true then ((Fl.ofInt .f32 (wa i)).div s, (Fl.ofInt .f32 (wb i)).div s) else (Fl.mk (k := .f32) 1065353216 (by decide), default) := by
        subst hs; rfl
      cases c1 : (s.sub s).eq (Fl.mk (k := .f32) 0 (by decide)) <;> cases c2 : s.ne (Fl.mk (k := .f32) 0 (by decide)) <;> rw [c1, c2] at hev <;>
        simp only [ite2_true, ite2_false, bind_of, chk_pos (show 0 ≤ (0 : Int) ∧ (0 : Int) < (([default, default] : List F32).length : Int) by simp)]
      · rw [chk_pos (by first | omega | (simp only [List.length_nil]; omega) | (simp only [List.length_cons]; omega) | (simp only [List.length_cons, List.length_nil]; omega)), bind_of, chk_pos (by first | omega | (simp only [List.length_nil]; omega) | (simp only [List.length_cons]; omega) | (simp only [List.length_cons, List.length_nil]; omega))]
        exact key _ (by rw [hev]; rfl)
      · rw [chk_pos (by first | omega | (simp only [List.length_nil]; omega) | (simp only [List.length_cons]; omega) | (simp only [List.length_cons, List.length_nil]; omega)), bind_of, chk_pos (by first | omega | (simp only [List.length_nil]; omega) | (simp only [List.length_cons]; omega) | (simp only [List.length_cons, List.length_nil]; omega))]
        exact key _ (by rw [hev]; rfl)
      · rw [chk_pos (by first | omega | (simp only [List.length_nil]; omega) | (simp only [List.length_cons]; omega) | (simp only [List.length_cons, List.length_nil]; omega)), bind_of, chk_pos (by first | omega | (simp only [List.length_nil]; omega) | (simp only [List.length_cons]; omega) | (simp only [List.length_cons, List.length_nil]; omega))]
        exact key _ (by rw [hev]; rfl)
      · rw [chk_pos (by first | omega | (simp only [List.length_nil]; omega) | (simp only [List.length_cons]; omega) | (simp only [List.length_cons, List.length_nil]; omega)), bind_of, chk_pos (by first | omega | (simp only [List.length_nil]; omega) | (simp only [List.length_cons]; omega) | (simp only [List.length_cons, List.length_nil]; omega))]
        exact key _ (by rw [hev]; rfl)
    · rw [if_neg (by omega)]
      have : i = m := by omega
      subst this
      exact ⟨qs, rfl, g3, g4⟩
theorem even_eq {K m : Nat} (hK : 30 < K) (ps : List SkinPoint) (hm : ps.length = m) (hm24 : m ≤ 24) (wa wb : Nat → Int) (hp : ∀ j, j < m → (ps.getD j default).Weights = [Fl.ofInt .f32 (wa j), Fl.ofInt .f32 (wb j)] ∧ (ps.getD j default).Bones = [0, 1]) :
    ∃ r, impl_EvenWeights K ps = some (r, true) ∧ r.length = m ∧ ∀ j, j < m → (r.getD j default).Weights = [(evW (wa j) (wb j)).1, (evW (wa j) (wb j)).2] := by
  have idx : ∀ (k i : Nat), i ≤ m → m - i < k → slices_IndexFunc_impl_SkinPoint_impl_SkinPoint_l1 K ps k (i : Int) = some (-1) := by
    intro k
    induction k with
    | zero => intro i _ h; omega
    | succ k ih =>
      intro i h1 h2
      rw [slices_IndexFunc_impl_SkinPoint_impl_SkinPoint_l1, ite2_dec]
      by_cases hi : i < m
      · obtain ⟨w, b⟩ := hp i hi
        have hh : impl_EvenWeights_1 K (ps.getD i default) = some false := by
          unfold impl_EvenWeights_1 impl_SkinPoint_isHeld
          rw [w, b]; rfl
        rw [if_pos (by omega), chk_pos (by omega), Int.toNat_natCast, hh, bind_of, ite2_false, wrap_nat1 (by omega)]
        exact ih (i + 1) (by omega) (by omega)
      · rw [if_neg (by omega)]
  have i0 := idx K 0 (by omega) (by omega)
  rw [show ((0 : Nat) : Int) = 0 from rfl] at i0
  unfold impl_EvenWeights slices_ContainsFunc_impl_SkinPoint_impl_SkinPoint slices_IndexFunc_impl_SkinPoint_impl_SkinPoint
  rw [ite2_dec, if_neg (by omega), i0, bind_of, bind_of, bind_of, decide_eq_false (by omega), ite2_false]
  exact even_loop hK ps hm hm24 wa wb (fun j hj => ⟨(hp j hj).1, by rw [(hp j hj).2]; decide⟩) K 0 [] (by omega) (by omega) rfl (fun j hj => by omega)
theorem edges_eq {K : Nat} (hK : 30 < K) (a : List Vector) (h2 : 2 ≤ a.length) (h24 : a.length ≤ 24) : impl_EdgesOf K a [[(0 : Int), (1 : Int)], [(1 : Int), (0 : Int)]] = some ([dst (a.getD 1 default) (a.getD 0 default), dst (a.getD 0 default) (a.getD 1 default)], true) := by
  have cf : ∀ x y : Int, 0 ≤ x → x < 2 → 0 ≤ y → y < 2 → slices_ContainsFunc_int64_int64 K [x, y] a = some false := by
    intro x y x0 x1 y0 y1
    obtain ⟨k, rfl⟩ : ∃ k, K = k + 30 := ⟨K - 30, by omega⟩
    have w1 : IntKind.i64.wrap ((0 : Int) + 1) = 1 := by decide
    have w2 : IntKind.i64.wrap ((1 : Int) + 1) = 2 := by decide
    have e1 : ∀ z : Int, 0 ≤ z → z < 2 → impl_EdgesOf_1 (k + 30) z a = some false := fun z z0 z1 => by
      unfold impl_EdgesOf_1
      rw [ite2_dec, if_neg (by omega), bind_of, decide_eq_false (by omega)]
    unfold slices_ContainsFunc_int64_int64 slices_IndexFunc_int64_int64
    rw [slices_IndexFunc_int64_int64_l1, w1, ite2_dec, if_pos (by simp), chk_pos (by simp), show ([x, y].getD (0 : Int).toNat default) = x from rfl, e1 x x0 x1, bind_of, ite2_false]
    rw [slices_IndexFunc_int64_int64_l1, w2, ite2_dec, if_pos (by simp), chk_pos (by simp), show ([x, y].getD (1 : Int).toNat default) = y from rfl, e1 y y0 y1, bind_of, ite2_false]
    rw [slices_IndexFunc_int64_int64_l1, ite2_dec, if_neg (by simp)]; rfl
  obtain ⟨k, hk⟩ : ∃ k, K = k + 30 := ⟨K - 30, by omega⟩
  have w1 : IntKind.i64.wrap ((0 : Int) + 1) = 1 := by decide
  have w2 : IntKind.i64.wrap ((1 : Int) + 1) = 2 := by decide
  have go : ∀ q, impl_EdgesOf_l1 K a [[(0 : Int), (1 : Int)], [(1 : Int), (0 : Int)]] (q + 3) 0 [default, default] = some ([dst (a.getD 1 default) (a.getD 0 default), dst (a.getD 0 default) (a.getD 1 default)], true) := by
    intro q
    rw [impl_EdgesOf_l1, w1, ite2_dec, if_pos (by simp), chk_pos (by simp)]
    rw [show ([[(0 : Int), (1 : Int)], [(1 : Int), (0 : Int)]].getD (0 : Int).toNat default) = [0, 1] from rfl, show ((([(0 : Int), (1 : Int)].length : Nat) : Int) != 2) = false from rfl, ite2_false, cf 0 1 (by omega) (by omega) (by omega) (by omega), bind_of, bind_of, ite2_false, chk_pos (by simp), show ([(0 : Int), (1 : Int)].getD ((1 : Int).toNat) default) = 1 from rfl, show ([(0 : Int), (1 : Int)].getD ((0 : Int).toNat) default) = 0 from rfl, chk_pos (by omega), chk_pos (by simp), chk_pos (by omega), less_impl, bind_of, long_impl, bind_of, chk_pos (by simp)]
    rw [impl_EdgesOf_l1, w2, ite2_dec, if_pos (by simp), chk_pos (by simp)]
    rw [show ([[(0 : Int), (1 : Int)], [(1 : Int), (0 : Int)]].getD (1 : Int).toNat default) = [1, 0] from rfl, show ((([(1 : Int), (0 : Int)].length : Nat) : Int) != 2) = false from rfl, ite2_false, cf 1 0 (by omega) (by omega) (by omega) (by omega), bind_of, bind_of, ite2_false, chk_pos (by simp), show ([(1 : Int), (0 : Int)].getD ((1 : Int).toNat) default) = 0 from rfl, show ([(1 : Int), (0 : Int)].getD ((0 : Int).toNat) default) = 1 from rfl, chk_pos (by omega), chk_pos (by simp), chk_pos (by omega), less_impl, bind_of, long_impl, bind_of, chk_pos (by simp)]
    rw [impl_EdgesOf_l1, ite2_dec, if_neg (by simp)]
    rfl
  unfold impl_EdgesOf
  rw [ite2_dec, if_neg (by omega), bind_of, show decide ((([[(0 : Int), (1 : Int)], [(1 : Int), (0 : Int)]].length : Nat) : Int) > 64) = false from rfl, ite2_false, chk_pos (by simp)]
  have := go (k + 27)
  rw [show k + 27 + 3 = K by omega] at this
  exact this
theorem toBits_some (x : F32) (h : isN x = false) : ∃ n, x.toBits = some n := by
  unfold Fl.toBits
  have : nanB .f32 x.bits = false := h
  simp [this]
theorem same_refl (K : Nat) {x : F32} (h : isN x = false) : spec_SameNumber K x x = some true := by
  unfold spec_SameNumber spec_l01Same spec_l01Bits math_Float32bits
  rw [ne_num h h, decide_eq_true rfl, Bool.not_true, ite2_false]
  obtain ⟨n, hn⟩ := toBits_some x h
  rw [hn, bind_of, bind_of, bind_of, beq_self_eq_true]; rfl
theorem middle_eq {K : Nat} (hK : 30 < K) {B : Nat} {q : V3} {v : Vector} (hv : Vb B q v) (hB : B ≤ 100) : ∃ m, impl_MiddleOf K [v] = some (m, true) ∧ laws_b10VEqual K m v = some true := by
  obtain ⟨k, rfl⟩ : ∃ k, K = k + 30 := ⟨K - 30, by omega⟩
  have w1 : IntKind.i64.wrap ((0 : Int) + 1) = 1 := by decide
  have d0 : Db 0 0 0 (default : F32) := ⟨(Dz.of_zero (x := (default : F32)) rfl 0).1, by decide⟩
  have e1 : (Fl.mk (k := .f32) 1065353216 (by decide)).div (Fl.ofInt .f32 1) = Fl.mk (k := .f32) 1065353216 (by decide) := by decide +kernel
  have one : Db 0 1 1 (Fl.mk (k := .f32) 1065353216 (by decide)) := ⟨(hf_dz (n := 2) (by decide)).1.down, by decide⟩
  unfold impl_MiddleOf
  rw [ite2_dec, if_neg (by simp), bind_of, show decide ((([v].length : Nat) : Int) > 24) = false from rfl, ite2_false, impl_MiddleOf_l1, w1, ite2_dec, if_pos (by simp), chk_pos (by simp)]
  unfold impl_AddVectors
  rw [bind_of, impl_MiddleOf_l1, ite2_dec, if_neg (by simp), show ((([v].length : Nat)) : Int) = 1 from rfl, e1]
  unfold impl_ScaleVector
  rw [bind_of]
  refine ⟨_, rfl, veq_of ⟨?_, ?_, ?_⟩⟩
  · have := ((d0.add hv.x (by omega) (by decide)).mul one (by omega) (by decide)).1
    rw [show (0 + q.1) * 1 = q.1 by omega] at this
    exact (this.eq hv.x.1).trans (decide_eq_true rfl)
  · have := ((d0.add hv.y (by omega) (by decide)).mul one (by omega) (by decide)).1
    rw [show (0 + q.2.1) * 1 = q.2.1 by omega] at this
    exact (this.eq hv.y.1).trans (decide_eq_true rfl)
  · have := ((d0.add hv.z (by omega) (by decide)).mul one (by omega) (by decide)).1
    rw [show (0 + q.2.2) * 1 = q.2.2 by omega] at this
    exact (this.eq hv.z.1).trans (decide_eq_true rfl)

/-! The law. -/
theorem b10At_rng {K : Nat} {c : List Int} (hc : Byt c) (k n : Int) (hk : 0 ≤ k) (hk2 : k < 1000000) (hn : 1 ≤ n) : ∃ r, laws_b10At K c k n = some r ∧ 0 ≤ r ∧ r < n := by
  unfold laws_b10At
  rw [ite2_dec]
  by_cases h1 : n ≤ 1
  · rw [if_pos h1]; exact ⟨0, rfl, by omega, by omega⟩
  · rw [if_neg h1, ite2_dec]
    by_cases h : k < (c.length : Int)
    · have hb := hc _ (getD_mem (xs := c) (i := k.toNat) (by omega))
      rw [if_pos h, chk_pos (by omega), chk_pos (by omega), wrap_in (by omega) (by omega)]
      exact ⟨_, rfl, tmod_in hb.1 (by omega)⟩
    · rw [if_neg h, chk_pos (by omega), wrap_in (n := k * 37) (by omega) (by omega), wrap_in (by omega) (by omega)]
      exact ⟨_, rfl, tmod_in (by omega) (by omega)⟩
theorem vec9 {K : Nat} {c : List Int} (hc : Byt c) : ∃ v q, spec_B10Vector K c 9 = some v ∧ Vb 9 q v := by
  have w : IntKind.i64.wrap (IntKind.i64.wrap ((2 : Int) * 9) + 1) = 19 := by decide
  obtain ⟨r1, a1, s1, e1, p1, q1, q2⟩ := pick_dr (K := K) hc 0 0 19 (by omega) (by omega)
  obtain ⟨r2, a2, s2, e2, p2, q3, q4⟩ := pick_dr (K := K) hc a1 s1 19 q1 (by omega)
  obtain ⟨r3, a3, s3, e3, p3, q5, q6⟩ := pick_dr (K := K) hc a2 s2 19 q3 (by omega)
  refine ⟨Vector.mk (Fl.ofInt .f32 (r1 - 9)) (Fl.ofInt .f32 (r2 - 9)) (Fl.ofInt .f32 (r3 - 9)), (r1 - 9, r2 - 9, r3 - 9), ?_, ?_⟩
  · unfold spec_B10Vector
    rw [w, e1, bind_of, e2, bind_of, e3, bind_of, wrap_in (by omega) (by omega), wrap_in (by omega) (by omega), wrap_in (by omega) (by omega)]
  · exact ⟨(⟨Dy.ofInt (by omega), by omega⟩ : Db 0 9 (r1 - 9) (Fl.ofInt .f32 (r1 - 9))), (⟨Dy.ofInt (by omega), by omega⟩ : Db 0 9 (r2 - 9) (Fl.ofInt .f32 (r2 - 9))), (⟨Dy.ofInt (by omega), by omega⟩ : Db 0 9 (r3 - 9) (Fl.ofInt .f32 (r3 - 9)))⟩
theorem l5_eq {K n : Nat} {s : Skeleton} (hs : s.Bones.length = n) (hn : n ≤ 12) (a : List Vector) (sk : List SkinPoint × Bool) (w : List Turn × List Vector × Bool) (hw : w.2.1.length = n) (x b : Nat) (hx : x < a.length) (hb : (sk.1.getD x default).Bones = [(b : Int)]) (hnear : Near n (fun j => dst (a.getD x default) (w.2.1.getD j default)) b) (hnum : ∀ j, j < n → isN (dst (a.getD x default) (w.2.1.getD j default)) = false) : ∀ (k i : Nat), i ≤ n → n - i < k →
    laws_FnMeasures_l5 K s a sk w (x : Int) (dst (a.getD x default) (w.2.1.getD b default)) k (i : Int) = some (.inl ()) := by
  intro k
  induction k with
  | zero => intro i _ h; omega
  | succ k ih =>
    intro i h1 h2
    rw [laws_FnMeasures_l5, ite2_dec]
    by_cases hi : i < n
    · have n1 := hnum i hi
      have n2 := hnum b hnear.lt
      have l1 := hnear.le i hi
      rw [if_pos (by omega), chk_pos (by omega), chk_pos (by omega), Int.toNat_natCast, Int.toNat_natCast, less_spec, bind_of, long_spec, bind_of, hb, show ([(b : Int)].getD ((0 : Int).toNat) default) = (b : Int) from rfl, wrap_nat1 (by omega)]
      rw [show rootF (sqrF (lessF (a.getD x default) (w.2.1.getD i default))) = dst (a.getD x default) (w.2.1.getD i default) from rfl, lt_num n1 n2, decide_eq_false (by omega), ite2_false, ite2_dec]
      have hrest := ih (i + 1) (by omega) (by omega)
      by_cases hib : i < b
      · have l2 := hnear.fst i hib
        rw [if_pos (by omega), eq_num n1 n2, decide_eq_false (by omega), bind_of, ite2_false]
        exact hrest
      · rw [if_neg (by omega), bind_of, ite2_false]
        exact hrest
    · rw [if_neg (by omega)]
theorem sumC_l {α β γ : Type} (a : α) (f : α → Option γ) (g : β → Option γ) : sumC (.inl a) f g = f a := rfl
theorem l4_eq {K n : Nat} (hK : 30 < K) {s : Skeleton} (hs : s.Bones.length = n) (hn : n ≤ 12) (a o : List Vector) (ha : a.length = 3) (ho : o.length = 3) (ev sk : List SkinPoint × Bool) (wa wb : Nat → Int) (hwa : ∀ j, j < 3 → (0 ≤ wa j ∧ wa j < 9) ∧ (0 ≤ wb j ∧ wb j < 9)) (he1 : ev.1.length = 3) (he : ∀ j, j < 3 → (ev.1.getD j default).Weights = [(evW (wa j) (wb j)).1, (evW (wa j) (wb j)).2]) (hs1 : sk.1.length = 3)
    (w : List Turn × List Vector × Bool) (hw : w.2.1.length = n) (hsk : ∀ x, x < 3 → ∃ b : Nat, sk.1.getD x default = SkinPoint.mk (a.getD x default) [(b : Int)] [Fl.mk (k := .f32) 1065353216 (by decide)] ∧ Near n (fun j => dst (a.getD x default) (w.2.1.getD j default)) b) (hnum : ∀ x, x < 3 → ∀ j, j < n → isN (dst (a.getD x default) (w.2.1.getD j default)) = false)
    (c : Nat) (m : F32) (hfar : Far 3 (fun j => dst (o.getD j default) (a.getD j default)) c m) (hnf : ∀ j, j < 3 → isN (dst (o.getD j default) (a.getD j default)) = false) : ∀ (k i : Nat), i ≤ 3 → 3 - i < k → laws_FnMeasures_l4 K s a o ev sk ((c : Int), m, true) w k (i : Int) = some true := by
  intro k
  induction k with
  | zero => intro i _ h; omega
  | succ k ih =>
    intro i h1 h2
    rw [laws_FnMeasures_l4, ite2_dec]
    by_cases hi : i < 3
    · obtain ⟨b, b1, b2⟩ := hsk i hi
      have hrest := ih (i + 1) (by omega) (by omega)
      have hsb : (sk.1.getD i default).Bones = [(b : Int)] := by rw [b1]
      have hsw : (sk.1.getD i default).Weights = [Fl.mk (k := .f32) 1065353216 (by decide)] := by rw [b1]
      have hok : evOK (wa i).toNat (wb i).toNat = true := ev_all ⟨(wa i).toNat, by have := hwa i hi; omega⟩ ⟨(wb i).toNat, by have := hwa i hi; omega⟩
      unfold evOK at hok
      rw [show (((wa i).toNat : Nat) : Int) = wa i by have := hwa i hi; omega, show (((wb i).toNat : Nat) : Int) = wb i by have := hwa i hi; omega, Bool.not_eq_true'] at hok
      have p5 := l5_eq (K := K) hs hn a sk w hw i b (by omega) hsb b2 (hnum i hi) K 0 (by omega) (by omega)
      rw [show ((0 : Nat) : Int) = 0 from rfl] at p5
      rw [if_pos (by omega), chk_pos (by omega), Int.toNat_natCast, he i hi, wrap_nat1 (by omega)]
      rw [show ((([(evW (wa i) (wb i)).1, (evW (wa i) (wb i)).2].length : Nat) : Int) != 2) = false from rfl, ite2_false, chk_pos (by simp), chk_pos (by simp), gap_eq, bind_of]
      rw [show ([(evW (wa i) (wb i)).1, (evW (wa i) (wb i)).2].getD ((0 : Int).toNat) default) = (evW (wa i) (wb i)).1 from rfl, show ([(evW (wa i) (wb i)).1, (evW (wa i) (wb i)).2].getD ((1 : Int).toNat) default) = (evW (wa i) (wb i)).2 from rfl, hok, ite2_false]
      rw [chk_pos (show 0 ≤ (i : Int) ∧ (i : Int) < (sk.1.length : Int) by omega), hsb, hsw, show ((([(b : Int)].length : Nat) : Int) != 1) = false from rfl, ite2_false, show ((([Fl.mk (k := .f32) 1065353216 (by decide)].length : Nat) : Int) != 1) = false from rfl, ite2_false, chk_pos (by simp)]
      rw [show ([Fl.mk (k := .f32) 1065353216 (by decide)].getD ((0 : Int).toNat) default).ne (Fl.mk (k := .f32) 1065353216 (by decide)) = false by decide +kernel, bind_of, ite2_false]
      rw [chk_pos (by omega), chk_pos (by omega), less_spec, bind_of, long_spec, bind_of]
      rw [show rootF (sqrF (lessF (o.getD i default) (a.getD i default))) = dst (o.getD i default) (a.getD i default) from rfl]
      have nm : isN m = false := by rw [hfar.is]; exact hnf c hfar.lt
      have ni := hnf i hi
      have fl := hfar.le i hi
      have hmid : ite2 ((dst (o.getD i default) (a.getD i default)).gt m) (some true) (ite2 ((i : Int) == (c : Int)) (ite2 ((dst (o.getD i default) (a.getD i default)).ne m) (some true) (ite2 (decide ((i : Int) < (c : Int))) (some ((dst (o.getD i default) (a.getD i default)).eq m)) (some false))) (ite2 (decide ((i : Int) < (c : Int))) (some ((dst (o.getD i default) (a.getD i default)).eq m)) (some false))) = some false := by
        rw [gt_num ni nm, decide_eq_false (by omega), ite2_false]
        have hlt : ite2 (decide ((i : Int) < (c : Int))) (some ((dst (o.getD i default) (a.getD i default)).eq m)) (some false) = some false := by
          rw [ite2_dec]
          by_cases g : i < c
          · have := hfar.fst i g
            rw [if_pos (by omega), eq_num ni nm, decide_eq_false (by omega)]
          · rw [if_neg (by omega)]
        rw [hlt]
        by_cases g : i = c
        · subst g
          rw [show ((i : Int) == (i : Int)) = true by rw [beq_self_eq_true], ite2_true, ne_num ni nm, decide_eq_true (by rw [hfar.is]), Bool.not_true, ite2_false]
        · rw [show ((i : Int) == (c : Int)) = false by rw [beq_eq_false_iff_ne]; omega, ite2_false]
      refine (congrArg (fun z => Option.bind z _) hmid).trans ?_
      show (some false).bind _ = _
      rw [bind_of, ite2_false, chk_pos (show 0 ≤ (i : Int) ∧ (i : Int) < (sk.1.length : Int) by omega), chk_pos (by simp), show ([(b : Int)].getD ((0 : Int).toNat) default) = (b : Int) from rfl]
      have hbl := b2.lt
      rw [ite2_dec, if_neg (by omega), bind_of, decide_eq_false (by omega), ite2_false, chk_pos (by omega), Int.toNat_natCast, less_spec, bind_of, long_spec, bind_of]
      rw [show rootF (sqrF (lessF (a.getD i default) (w.2.1.getD b default))) = dst (a.getD i default) (w.2.1.getD b default) from rfl, p5, bind_of, sumC_l]
      exact hrest
    · rw [if_neg (by omega)]
theorem l1_eq {K n : Nat} (hK : 100 < K) {a0 a1 : List Int} (h0 : Byt a0) (h1 : Byt a1) (l0 : a0.length ≤ 1048576) (l1 : a1.length ≤ 1048576) {s : Skeleton} {p : Pose} {par u : Nat → Nat} {off : Nat → V3} {r : V3} (h : Wh n s p par u off r) (n6 : n ≤ 6) : ∀ (k i : Nat) (xs ys : List Vector) (ps : List SkinPoint) (wa wb : Nat → Int), i ≤ 3 → 3 - i < k → xs.length = i → ys.length = i → ps.length = i → (∀ j, j < i → (∃ q, Vb 9 q (xs.getD j default)) ∧ (∃ q, Vb 9 q (ys.getD j default)) ∧ (ps.getD j default).Weights = [Fl.ofInt .f32 (wa j), Fl.ofInt .f32 (wb j)] ∧ (ps.getD j default).Bones = [0, 1] ∧ (0 ≤ wa j ∧ wa j < 9) ∧ (0 ≤ wb j ∧ wb j < 9)) →
    laws_FnMeasures_l1 K a0 a1 s p k (i : Int) xs ys ps = some true := by
  intro k
  induction k with
  | zero => intro i _ _ _ _ _ _ h; omega
  | succ k ih =>
    intro i xs ys ps wa wb g1 g2 lx ly lp hv
    rw [laws_FnMeasures_l1, ite2_dec]
    by_cases hi : i < 3
    · have bt : ∀ (x : Int) (c : List Int), 0 ≤ x → x < 256 → Byt c → Byt (x :: c) := fun x c x0 x1 hc y hy => by
        rcases List.mem_cons.1 hy with rfl | hy
        · omega
        · exact hc y hy
      have hb8 : 0 ≤ IntKind.u8.wrap (i : Int) ∧ IntKind.u8.wrap (i : Int) < 256 := by rw [IntKind.wrap_u8]; omega
      obtain ⟨v, q, e1, hq⟩ := vec9 (K := K) (bt (IntKind.u8.wrap (i : Int)) a1 hb8.1 hb8.2 h1)
      obtain ⟨v2, q2, e2, hq2⟩ := vec9 (K := K) (bt (IntKind.u8.wrap (i : Int)) (3 :: a0) hb8.1 hb8.2 (bt 3 a0 (by omega) (by omega) h0))
      obtain ⟨x, ex, x0, x1⟩ := b10At_rng (K := K) h1 (i : Int) 9 (by omega) (by omega) (by omega)
      obtain ⟨y, ey, y0, y1⟩ := b10At_rng (K := K) h1 ((i : Int) + 3) 9 (by omega) (by omega) (by omega)
      rw [if_pos (by omega), chk_pos (by simp; omega)]
      rw [show ([IntKind.u8.wrap (i : Int)] ++ a1) = IntKind.u8.wrap (i : Int) :: a1 from rfl, e1, bind_of, chk_pos (by simp; omega), chk_pos (by simp; omega)]
      rw [show ([IntKind.u8.wrap (i : Int), (3 : Int)] ++ a0) = IntKind.u8.wrap (i : Int) :: 3 :: a0 from rfl, e2, bind_of, chk_pos (by simp; omega), ex, bind_of, wrap_in (n := (i : Int) + 3) (by omega) (by omega), ey, bind_of, chk_pos (by simp; omega), chk_pos (by simp; omega), wrap_nat1 (by omega)]
      refine ih (i + 1) _ _ _ (fun j => if j < i then wa j else x) (fun j => if j < i then wb j else y) (by omega) (by omega) (by simp; omega) (by simp; omega) (by simp; omega) (fun j hj => ?_)
      by_cases e : j < i
      · rw [getD_left (by omega), getD_left (by omega), getD_left (by omega), if_pos e, if_pos e]; exact hv j e
      · have : j = i := by omega
        subst this
        rw [getD_end (by omega), getD_end (by omega), getD_end (by omega), if_neg (by omega), if_neg (by omega)]
        exact ⟨⟨q, hq⟩, ⟨q2, hq2⟩, rfl, rfl, ⟨x0, x1⟩, ⟨y0, y1⟩⟩
    · have e : i = 3 := by omega
      subst e
      obtain ⟨ts, vs, w1, w0, w⟩ := world_eq (K := K) (by omega) h
      have n1 := h.n1
      obtain ⟨ev, ev1, ev2, ev3⟩ := even_eq (K := K) (by omega) ps lp (by omega) wa wb (fun j hj => ⟨(hv j hj).2.2.1, (hv j hj).2.2.2.1⟩)
      have hnum : ∀ x, x < 3 → ∀ j, j < n → isN (dst (xs.getD x default) (vs.getD j default)) = false := fun x hx j hj => by
        obtain ⟨q, hq⟩ := (hv x hx).1
        exact dst_num hq (w.vb j hj) (by omega)
      have hnf : ∀ j, j < 3 → isN (dst (ys.getD j default) (xs.getD j default)) = false := fun j hj => by
        obtain ⟨q, hq⟩ := (hv j hj).1
        obtain ⟨q2, hq2⟩ := (hv j hj).2.1
        exact dst_num hq2 hq (by omega)
      obtain ⟨sk, sk1, sk2, sk3⟩ := assign_loop (K := K) (n := n) (m := 3) (by omega) xs (ts, vs) lx (by omega) w.vl n1 (by omega) hnum K 0 [] (by omega) (by omega) rfl (fun x hx => by omega)
      have ska : impl_AssignSkin K s p xs = some (sk, true) := by
        unfold impl_AssignSkin
        rw [isPose_eq (by omega) h.sk h.tlen, bind_of, Bool.not_true, ite2_false, lx, bind_of, decide_eq_false (by omega), ite2_false, w0, bind_of]
        exact sk1
      obtain ⟨c, m, f1, f2⟩ := far_eq (K := K) (n := 3) (by omega) xs ys lx ly (by omega) (by omega) hnf
      obtain ⟨q0, hq0⟩ := (hv 0 (by omega)).1
      obtain ⟨q1, hq1⟩ := (hv 1 (by omega)).1
      obtain ⟨md, md1, md2⟩ := middle_eq (K := K) (by omega) hq0 (by omega)
      have hx1 : (xs.drop (0 : Int).toNat).take ((1 : Int).toNat - (0 : Int).toNat) = [xs.getD 0 default] := by
        match xs, lx with
        | [a, b, d], _ => rfl
      have hc3 := f2.lt
      rw [if_neg (by omega), ev1, bind_of, ska, bind_of, edges_eq (by omega) xs (by omega) (by omega), bind_of, f1, bind_of, chk_pos (by omega), hx1, md1, bind_of, w1, bind_of]
      have hsame : spec_SameNumber K (dst (xs.getD 1 default) (xs.getD 0 default)) (dst (xs.getD 0 default) (xs.getD 1 default)) = some true := by
        rw [dst_sym hq1 hq0 (by omega)]; exact same_refl K (dst_num hq0 hq1 (by omega))
      have hj : (ite2 (!true) (some true) (ite2 (!true) (some true) (ite2 (!true) (some true) (ite2 (!true) (some true) (ite2 (!true) (some true) (ite2 (!true) (some true) (ite2 ((ev.length : Int) != (3 : Int)) (some true) (ite2 ((sk.length : Int) != (3 : Int)) (some true) (ite2 ((([dst (xs.getD 1 default) (xs.getD 0 default), dst (xs.getD 0 default) (xs.getD 1 default)].length : Nat) : Int) != (2 : Int)) (some true) (chk (0 ≤ (0 : Int) ∧ (0 : Int) < (([dst (xs.getD 1 default) (xs.getD 0 default), dst (xs.getD 0 default) (xs.getD 1 default)].length : Nat) : Int)) (chk (0 ≤ (1 : Int) ∧ (1 : Int) < (([dst (xs.getD 1 default) (xs.getD 0 default), dst (xs.getD 0 default) (xs.getD 1 default)].length : Nat) : Int)) ((spec_SameNumber K ([dst (xs.getD 1 default) (xs.getD 0 default), dst (xs.getD 0 default) (xs.getD 1 default)].getD ((0 : Int).toNat) default) ([dst (xs.getD 1 default) (xs.getD 0 default), dst (xs.getD 0 default) (xs.getD 1 default)].getD ((1 : Int).toNat) default)).bind fun v55 => ite2 (!v55) (some true) (ite2 (decide ((c : Int) < (0 : Int))) (some true) (ite2 (decide ((c : Int) > (2 : Int))) (some true) (chk (0 ≤ (0 : Int) ∧ (0 : Int) < (xs.length : Int)) ((laws_b10VEqual K md (xs.getD ((0 : Int).toNat) default)).bind fun v61 => ite2 (!v61) (some true) (some ((vs.length : Int) != (s.Bones.length : Int))))))))))))))))))) = some false := by
        rw [ev2, sk2, chk_pos (by simp), chk_pos (by simp), show ([dst (xs.getD 1 default) (xs.getD 0 default), dst (xs.getD 0 default) (xs.getD 1 default)].getD ((0 : Int).toNat) default) = dst (xs.getD 1 default) (xs.getD 0 default) from rfl, show ([dst (xs.getD 1 default) (xs.getD 0 default), dst (xs.getD 0 default) (xs.getD 1 default)].getD ((1 : Int).toNat) default) = dst (xs.getD 0 default) (xs.getD 1 default) from rfl, hsame, bind_of, decide_eq_false (show ¬ ((c : Int) < 0) by omega), decide_eq_false (show ¬ ((c : Int) > 2) by omega), chk_pos (by omega), show ((0 : Int).toNat) = 0 from rfl, md2, w.vl, h.len, bne_self_eq_false]; rfl
      refine (congrArg (fun z => Option.bind z _) hj).trans ?_
      show (some false).bind _ = _
      rw [bind_of, ite2_false]
      have := l4_eq (K := K) (n := n) (by omega) h.len (by omega) xs ys lx ly (ev, true) (sk, true) wa wb (fun j hj => ⟨(hv j hj).2.2.2.2.1, (hv j hj).2.2.2.2.2⟩) ev2 ev3 sk2 (ts, vs, true) w.vl sk3 hnum c m f2 hnf K 0 (by omega) (by omega)
      exact this
theorem meas_true (a b : List Int) (ha : Byt a) (hb : Byt b) : ∃ K, laws_FnMeasures K a b = some true := by
  refine ⟨1000, ?_⟩
  unfold laws_FnMeasures laws_b10Long
  rw [ite2_dec]
  by_cases l0 : (a.length : Int) > 1048576
  · rw [if_pos l0]; rfl
  · rw [if_neg l0, bind_of, bind_of]
    by_cases l1 : (b.length : Int) > 1048576
    · rw [decide_eq_true l1]; rfl
    · rw [decide_eq_false l1, ite2_false]
      obtain ⟨s, n, e1, hs, n6, ho⟩ := skeleton_drawn (K := 1000) (by omega) ha
      obtain ⟨p, e2, hp⟩ := exact_drawn (K := 1000) (n := n) (by omega) ha (by omega)
      obtain ⟨par, u, off, r, h⟩ := drawn_wh hs ho hp
      rw [e1, bind_of, hs.len, e2, bind_of]
      have := l1_eq (K := 1000) (n := n) (by omega) ha hb (by omega) (by omega) h n6 1000 0 [] [] [] (fun _ => 0) (fun _ => 0) (by omega) (by omega) rfl rfl rfl (fun j hj => by omega)
      exact this
theorem law_FnMeasures (a b : List Int) (ha : a.length ≤ maxLen ∧ ∀ x ∈ a, (Lit.int .u8 x).wf = true) (hb : b.length ≤ maxLen ∧ ∀ x ∈ b, (Lit.int .u8 x).wf = true) : ∃ K, laws_FnMeasures K a b = some true := by
  have byt : ∀ {c : List Int}, (∀ x ∈ c, (Lit.int .u8 x).wf = true) → Byt c := fun h x hx => by
    have := h x hx
    simp only [Lit.wf, Bool.and_eq_true, decide_eq_true_eq] at this
    have e1 : IntKind.u8.min = 0 := by decide
    have e2 : IntKind.u8.max = 255 := by decide
    omega
  exact meas_true a b (byt ha.2) (byt hb.2)

end Go.Fw
