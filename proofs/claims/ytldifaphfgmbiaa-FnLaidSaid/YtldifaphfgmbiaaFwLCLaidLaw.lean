/- The law of strings laid on a floor, in plain Lean. -/
import Derived.Test.YtldifaphfgmbiaaFwLCSrcLaw
import Derived.Test.YtldifaphfgmbiaaFwLCSameLaw
import Derived.Test.YtldifaphfgmbiaaFwFD
namespace Go.Fw
open Go

/-! A string that is drawn. -/
structure Str (n : Nat) (x : String) : Prop where
  pts : x.Points.length = n
  bef : x.Before.length = n
  fix : x.Fixed.length = n
  len : x.Lengths.length + 1 = n
theorem len_dr {K : Nat} {c : List Int} (hc : Byt c) (at_ sd : Int) : Dr at_ 12 (spec_l04DrawLength K (l00Src.mk c at_ sd)) (fun _ => True) := by
  unfold spec_l04DrawLength
  refine Dr.bind (c1 := 2) (c2 := 10) (one_dr hc at_ sd 12) (by decide) fun r a1 s1 _ => .ite (fun _ => ?_) fun _ => ?_
  · exact Dr.weak (c := 10 + 0) (P := fun _ => True) (Dr.bind (float_dr hc a1 s1) (by decide) fun r2 a2 s2 _ => .of trivial (by decide) rfl) (by decide) (fun _ h => h)
  · exact Dr.weak (c := 2 + 0) (P := fun _ => True) (Dr.bind (pick_dr hc a1 s1 24) (by decide) fun r2 a2 s2 _ => .of trivial (by decide) rfl) (by decide) (fun _ h => h)
theorem share_dr {K : Nat} {c : List Int} (hc : Byt c) (at_ sd : Int) : Dr at_ 12 (spec_l02DrawShare K (l00Src.mk c at_ sd)) (fun _ => True) := by
  unfold spec_l02DrawShare
  refine Dr.bind (c1 := 2) (c2 := 10) (one_dr hc at_ sd 10) (by decide) fun r a1 s1 _ => .ite (fun _ => ?_) fun _ => ?_
  · exact Dr.weak (c := 10 + 0) (P := fun _ => True) (Dr.bind (float_dr hc a1 s1) (by decide) fun r2 a2 s2 _ => .of trivial (by decide) rfl) (by decide) (fun _ h => h)
  · exact Dr.weak (c := 2 + 0) (P := fun _ => True) (Dr.bind (pick_dr hc a1 s1 17) (by decide) fun r2 a2 s2 _ => .of trivial (by decide) rfl) (by decide) (fun _ h => h)
theorem string_loop {K n : Nat} {c : List Int} (hc : Byt c) (at0 sd0 : Int) (v1 v3 : Int × Int × Int) (hv : IntKind.i64.wrap ((2 : Int) + v3.1) = (n : Int)) (h2 : 2 ≤ n) (hn : n ≤ 5) : ∀ (k i : Nat) (a s : Int) (pts bef : List Vector) (fix : List Bool) (len : List F32),
    i ≤ n → n - i < k → pts.length = i → bef.length = i → fix.length = i → len.length = i - 1 →
    Dr a (52 * ((n - i : Nat) : Int) + 40) (spec_l08DrawOk_l1 K (l00Src.mk c at0 sd0) v1 v3 k (i : Int) a s pts bef fix len) (fun x => Str n x ∧ x.Passes = v1.1) := by
  intro k
  induction k with
  | zero => intro i a s pts bef fix len _ h; omega
  | succ k ih =>
    intro i a s pts bef fix len h1 h3 l1 l2 l3 l4
    rw [spec_l08DrawOk_l1, hv]
    refine .ite (fun h => ?_) fun h => ?_
    · have hi : i < n := by have := of_decide_eq_true h; omega
      have e : (52 * ((n - i : Nat) : Int) + 40) = 18 + (2 + (18 + (2 + (12 + (52 * ((n - (i + 1) : Nat) : Int) + 40))))) := by omega
      have w : IntKind.i64.wrap ((i : Int) + 1) = ((i + 1 : Nat) : Int) := by rw [wrap_in (by omega) (by omega)]; omega
      rw [e, w]
      refine Dr.bind (vector_dr hc a s) (by omega) fun p a1 s1 _ => .chk (by simp; omega) (Dr.bind (one_dr hc a1 s1 2) (by omega) fun q a2 s2 _ => .ite (fun _ => ?_) fun _ => ?_)
      · refine Dr.bind (vector_dr hc a2 s2) (by omega) fun b a3 s3 _ => .chk (by simp; omega) (Dr.bind (one_dr hc a3 s3 3) (by omega) fun f a4 s4 _ => .chk (by simp; omega) (.ite (fun g => ?_) fun g => ?_))
        · have := of_decide_eq_true g
          refine Dr.bind (len_dr hc a4 s4) (by omega) fun l a5 s5 _ => .chk (by simp; omega) ?_
          exact ih (i + 1) a5 s5 (pts ++ [p]) (bef ++ [b]) (fix ++ [f]) (len ++ [l]) (by omega) (by omega) (by simp; omega) (by simp; omega) (by simp; omega) (by simp; omega)
        · have := of_decide_eq_false g
          exact Dr.weak (ih (i + 1) a4 s4 (pts ++ [p]) (bef ++ [b]) (fix ++ [f]) len (by omega) (by omega) (by simp; omega) (by simp; omega) (by simp; omega) (by omega)) (by omega) fun _ h => h
      · refine Dr.weak (c := 2 + (12 + (52 * ((n - (i + 1) : Nat) : Int) + 40))) (P := fun x => Str n x ∧ x.Passes = v1.1) (.chk (by simp; omega) (Dr.bind (one_dr hc a2 s2 3) (by omega) fun f a4 s4 _ => .chk (by simp; omega) (.ite (fun g => ?_) fun g => ?_))) (by omega) fun _ h => h
        · have := of_decide_eq_true g
          refine Dr.bind (len_dr hc a4 s4) (by omega) fun l a5 s5 _ => .chk (by simp; omega) ?_
          exact ih (i + 1) a5 s5 (pts ++ [p]) (bef ++ [p]) (fix ++ [f]) (len ++ [l]) (by omega) (by omega) (by simp; omega) (by simp; omega) (by simp; omega) (by simp; omega)
        · have := of_decide_eq_false g
          exact Dr.weak (ih (i + 1) a4 s4 (pts ++ [p]) (bef ++ [p]) (fix ++ [f]) len (by omega) (by omega) (by simp; omega) (by simp; omega) (by simp; omega) (by omega)) (by omega) fun _ h => h
    · have hi : i = n := by have := of_decide_eq_false h; omega
      subst hi
      refine Dr.weak (c := 2 + (18 + (12 + 0))) (P := fun x => Str i x ∧ x.Passes = v1.1) (Dr.bind (one_dr hc a s 2) (by decide) fun q a2 s2 _ => .ite (fun _ => ?_) fun _ => ?_) (by omega) fun _ h => h
      · exact Dr.bind (vector_dr hc a2 s2) (by decide) fun f a3 s3 _ => Dr.bind (share_dr hc a3 s3) (by decide) fun d a4 s4 _ => .of ⟨⟨l1, l2, l3, by show len.length + 1 = i; omega⟩, rfl⟩ (by decide) rfl
      · exact Dr.weak (c := 12 + 0) (P := fun x => Str i x ∧ x.Passes = v1.1) (Dr.bind (share_dr hc a2 s2) (by decide) fun d a4 s4 _ => .of ⟨⟨l1, l2, l3, by show len.length + 1 = i; omega⟩, rfl⟩ (by decide) rfl) (by decide) fun _ h => h
theorem string_drawn {K : Nat} (hK : 100 < K) {c : List Int} (hc : Byt c) : ∃ x n, spec_R8String K c = some x ∧ 2 ≤ n ∧ n ≤ 5 ∧ Str n x ∧ 0 ≤ x.Passes ∧ x.Passes ≤ 3 := by
  have keyd : Dr 0 (2 + (2 + 300)) (spec_l08DrawOk K (l00Src.mk c 0 0)) (fun x => ∃ n, 2 ≤ n ∧ n ≤ 5 ∧ Str n x ∧ 0 ≤ x.Passes ∧ x.Passes ≤ 3) := by
    unfold spec_l08DrawOk
    refine Dr.bind (pick_dr hc 0 0 4) (by decide) fun r a1 s1 hr => Dr.bind (pick_dr hc a1 s1 4) (by decide) fun m a2 s2 hm => ?_
    obtain ⟨q, hq⟩ : ∃ q : Nat, 2 + m = (q : Int) := ⟨(2 + m).toNat, by omega⟩
    have w : IntKind.i64.wrap (2 + m) = (q : Int) := by rw [hq, wrap_in (by omega) (by omega)]
    exact Dr.weak (string_loop hc 0 0 (r, a1, s1) (m, a2, s2) w (by omega) (by omega) K 0 a2 s2 [] [] [] [] (by omega) (by omega) rfl rfl rfl rfl) (by omega) fun x hx => ⟨q, by omega, by omega, hx.1, by rw [hx.2]; show 0 ≤ r; omega, by rw [hx.2]; show r ≤ 3; omega⟩
  obtain ⟨x, a', s', h1, ⟨n, h2⟩, _, _⟩ := keyd (Int.le_refl _) (by decide)
  refine ⟨x, n, ?_, h2⟩
  unfold spec_R8String
  rw [h1]; rfl

/-! What the program gives. -/
theorem ite2_and (x y : Bool) : ite2 x (some y) (some false) = some (x && y) := by cases x <;> rfl
theorem Are_eq {K : Nat} {a : List Vector} (h2 : 2 ≤ a.length) (h5 : a.length ≤ 5) : impl_arePoints K a = some true := by
  unfold impl_arePoints
  rw [ite2_dec, if_pos (by omega), decide_eq_true (by omega : (a.length : Int) ≤ 16)]; rfl
theorem Valid_eq {K n : Nat} {x : String} (h : Str n x) (h2 : 2 ≤ n) (h5 : n ≤ 5) (hp : 0 ≤ x.Passes) (hp2 : x.Passes ≤ 3) : impl_ValidString K x = some true := by
  have e1 := h.pts; have e2 := h.bef; have e3 := h.fix; have e4 := h.len
  unfold impl_ValidString
  rw [Are_eq (by omega) (by omega), bind_of, ite2_true, wrap_in (by omega) (by omega)]
  rw [show ((x.Before.length : Int) == (x.Points.length : Int)) = true by rw [beq_iff_eq]; omega, show ((x.Fixed.length : Int) == (x.Points.length : Int)) = true by rw [beq_iff_eq]; omega, show ((x.Lengths.length : Int) == (x.Points.length : Int) - 1) = true by rw [beq_iff_eq]; omega]
  rw [ite2_true, ite2_true, ite2_true, ite2_dec, if_pos (by omega), decide_eq_true (by omega : x.Passes ≤ 16)]; rfl
def liftV (f : F32) (v : Vector) : Vector := if v.Y.lt' f then Vector.mk v.X f v.Z else v
theorem lift_loop {K : Nat} (f : F32) (a : List Vector) (hl : a.length ≤ 5) : ∀ (k i : Nat) (p : List Vector), i ≤ a.length → a.length - i < k → p.length = a.length → (∀ j, j < i → p.getD j default = liftV f (a.getD j default)) → (∀ j, i ≤ j → p.getD j default = a.getD j default) →
    ∃ r, impl_LiftPoints_l1 K f a k (i : Int) p = some (r, true) ∧ r.length = a.length ∧ ∀ j, j < a.length → r.getD j default = liftV f (a.getD j default) := by
  intro k
  induction k with
  | zero => intro i p _ h; omega
  | succ k ih =>
    intro i p h1 h2 h3 v1 v2
    rw [impl_LiftPoints_l1, ite2_dec]
    by_cases hi : i < a.length
    · rw [if_pos (by omega), chk_pos (by omega), wrap_nat1 (by omega), Int.toNat_natCast, v2 i (Nat.le_refl _)]
      cases hy : (a.getD i default).Y.lt' f
      · rw [ite2_false]
        refine ih (i + 1) p (by omega) (by omega) h3 (fun j hj => ?_) (fun j hj => v2 j (by omega))
        by_cases e : j = i
        · rw [e, v2 i (Nat.le_refl _)]; unfold liftV; rw [hy]; simp
        · exact v1 j (by omega)
      · rw [ite2_true, bind_of]
        refine ih (i + 1) _ (by omega) (by omega) (by rw [List.length_set]; exact h3) (fun j hj => ?_) (fun j hj => ?_)
        · by_cases e : j = i
          · rw [e, set_getD (by omega)]; unfold liftV; rw [hy]; simp
          · rw [List.getD_eq_getElem?_getD, List.getElem?_set_ne (by omega), ← List.getD_eq_getElem?_getD]; exact v1 j (by omega)
        · rw [List.getD_eq_getElem?_getD, List.getElem?_set_ne (by omega), ← List.getD_eq_getElem?_getD]; exact v2 j (by omega)
    · rw [if_neg (by omega)]
      exact ⟨p, rfl, h3, fun j hj => v1 j (by omega)⟩
theorem lay_eq {K n : Nat} (hK : 100 < K) {x : String} (f : F32) (h : Str n x) (h2 : 2 ≤ n) (h5 : n ≤ 5) (hp : 0 ≤ x.Passes) (hp2 : x.Passes ≤ 3) :
    ∃ s, impl_LayString K x f = some (s, true) ∧ s.Points.length = n ∧ ∀ j, j < n → s.Points.getD j default = liftV f (x.Points.getD j default) := by
  have e1 := h.pts; have e2 := h.bef; have e3 := h.fix; have e4 := h.len
  have c : impl_String_copied K x = some x := by
    unfold impl_String_copied slices_Clone_impl_Vector_impl_Vector slices_Clone_bool_bool slices_Clone_float32_float32
    rw [chk_pos (by simp; omega), chk_pos (by simp; omega), chk_pos (by simp; omega), chk_pos (by simp; omega)]
    rfl
  obtain ⟨r, r1, r2, r3⟩ := lift_loop (K := K) f x.Points (by omega) K 0 x.Points (by omega) (by omega) rfl (fun j hj => by omega) (fun j _ => rfl)
  unfold impl_LayString impl_LiftPoints slices_Clone_impl_Vector_impl_Vector
  rw [Valid_eq h h2 h5 hp hp2, bind_of, Bool.not_true, ite2_false, c, bind_of, ite2_dec, if_neg (by omega), chk_pos (by simp; omega), bind_of, List.nil_append]
  rw [show ((0 : Nat) : Int) = 0 from rfl] at r1
  rw [r1, bind_of]
  exact ⟨_, rfl, by show r.length = n; omega, fun j hj => r3 j (by omega)⟩
theorem sqrt_impl (K : Nat) (x : F32) : impl_RootNumber K x = some (Fl.cv .f64 .f32 (Fl.cv .f32 .f64 x).sqrt) := by
  unfold impl_RootNumber math_Sqrt math_sqrt
  simp only [bind_of, chk_pos (narrow_root x)]
theorem dist_loop {K : Nat} (a : List Vector) (h1 : 1 ≤ a.length) (hl : a.length ≤ 5) : ∀ (k i : Nat) (p : List F32), i + 1 ≤ a.length → a.length - i < k + 1 → p.length + 1 = a.length →
    ∃ r, impl_distances_l1 K a k (i : Int) p = some r ∧ r.length + 1 = a.length := by
  intro k
  induction k with
  | zero => intro i p _ h; omega
  | succ k ih =>
    intro i p h2 h3 h4
    have w : IntKind.i64.wrap ((i : Int) + 1) = ((i + 1 : Nat) : Int) := wrap_nat1 (by omega)
    have w2 : IntKind.i64.wrap ((a.length : Int) - 1) = ((a.length - 1 : Nat) : Int) := by rw [wrap_in (by omega) (by omega)]; omega
    rw [impl_distances_l1, ite2_dec, w, w2, List.length_replicate, Int.toNat_natCast]
    by_cases hi : i + 1 < a.length
    · unfold impl_LessVectors impl_LongOf impl_InnerOf
      rw [if_pos (by omega), chk_pos (by omega), chk_pos (by omega)]
      simp only [bind_of, sqrt_impl]
      rw [chk_pos (by omega)]
      exact ih (i + 1) _ (by omega) (by omega) (by rw [List.length_set]; exact h4)
    · rw [if_neg (by omega)]
      exact ⟨p, rfl, h4⟩
theorem dist_eq {K : Nat} (hK : 100 < K) (a : List Vector) (h1 : 1 ≤ a.length) (hl : a.length ≤ 5) : ∃ r, impl_distances K a = some r ∧ r.length + 1 = a.length := by
  have w2 : IntKind.i64.wrap ((a.length : Int) - 1) = ((a.length - 1 : Nat) : Int) := by rw [wrap_in (by omega) (by omega)]; omega
  unfold impl_distances
  rw [w2, chk_pos (by omega)]
  exact dist_loop (K := K) a h1 hl K 0 _ (by omega) (by omega) (by simp; omega)

/-! Differences and the greatest of them. -/
theorem size_impl (K : Nat) (x : F32) : impl_size K x = some x.abs32 := by
  unfold impl_size math_Abs
  rw [bind_of, chk_pos (by rw [narrow_abs]; rfl), cv_abs]
theorem neg_nan {x : F32} (h : isN x = true) : isN x.neg = true := by
  have hx := bits_lt x
  have hw := neg_word hx
  have hm : Op.negFloat .f32 x.bits % 2147483648 = x.bits % 2147483648 := by rw [hw]; split <;> omega
  have hl : Op.negFloat .f32 x.bits < 4294967296 := by rw [hw]; split <;> omega
  have e2 : x.neg.bits = canonF .f32 (Op.negFloat .f32 x.bits) := rfl
  unfold isN at h ⊢
  rw [e2, nanB_canonF, ← nan_mod hl, hm, nan_mod hx]; exact h
/-- The difference at a place. -/
def dif (ds ls : List F32) (j : Nat) : F32 := (ds.getD j default).sub (ls.getD j default)
/-- M is the greatest of the first i differences. -/
structure Top (ds ls : List F32) (i : Nat) (M : F32) : Prop where
  num : isN M = false
  pos : 0 ≤ key M
  all : ∀ j, j < i → isN (dif ds ls j) = false → key (dif ds ls j) ≤ key M ∧ -key (dif ds ls j) ≤ key M
  one : key M = 0 ∨ ∃ j, j < i ∧ isN (dif ds ls j) = false ∧ (key M = key (dif ds ls j) ∨ key M = -key (dif ds ls j))
theorem top_loop {K n : Nat} (x : String) (ds : List F32) (hd : ds.length = n) (hl : x.Lengths.length = n) (hn : n ≤ 5) : ∀ (k i : Nat) (M : F32), i ≤ n → n - i < k → Top ds x.Lengths i M →
    ∃ r, impl_StretchOf_l1 K x ds k M (i : Int) = some (r, true) ∧ Top ds x.Lengths n r := by
  intro k
  induction k with
  | zero => intro i M _ h; omega
  | succ k ih =>
    intro i M h1 h2 t
    rw [impl_StretchOf_l1, ite2_dec]
    by_cases hi : i < n
    · rw [if_pos (by omega), chk_pos (by omega), chk_pos (by omega), Int.toNat_natCast, size_impl, bind_of, wrap_nat1 (by omega)]
      unfold impl_greater
      have hdif : (ds.getD i default).sub (x.Lengths.getD i default) = dif ds x.Lengths i := rfl
      rw [hdif]
      cases hg : (dif ds x.Lengths i).abs32.gt M
      · rw [ite2_false, bind_of]
        refine ih (i + 1) M (by omega) (by omega) ⟨t.num, t.pos, fun j hj hx => ?_, ?_⟩
        · by_cases e : j = i
          · subst e
            have ⟨a1, a2⟩ := key_abs hx
            have hng : ¬ (key M < key (dif ds x.Lengths j).abs32) := fun hh => by
              have := gt_key.2 ⟨a1, t.num, hh⟩
              rw [hg] at this; cases this
            rw [a2] at hng
            split at hng <;> omega
          · exact t.all j (by omega) hx
        · rcases t.one with h | ⟨j, j1, j2⟩
          · exact .inl h
          · exact .inr ⟨j, by omega, j2⟩
      · rw [ite2_true, bind_of]
        obtain ⟨g1, _, g3⟩ := gt_key.1 hg
        have hx : isN (dif ds x.Lengths i) = false := by
          cases hh : isN (dif ds x.Lengths i)
          · rfl
          · rw [abs_nan hh] at g1; cases g1
        have ⟨a1, a2⟩ := key_abs hx
        have hp := t.pos
        refine ih (i + 1) _ (by omega) (by omega) ⟨g1, by omega, fun j hj hx2 => ?_, .inr ⟨i, by omega, hx, ?_⟩⟩
        · by_cases e : j = i
          · subst e; rw [a2]; split <;> omega
          · have := t.all j (by omega) hx2; omega
        · rw [a2]; split <;> omega
    · rw [if_neg (by omega)]
      have e : i = n := by omega
      exact ⟨M, rfl, e ▸ t⟩
theorem found_loop {K n : Nat} (x : String) (d : List F32 × Bool) (M : F32 × Bool) (hd : d.1.length = n) (hl : x.Lengths.length = n) (hn : n ≤ 5) (t : Top d.1 x.Lengths n M.1) : ∀ (k i : Nat) (b : Bool), i ≤ n → n - i < k → (b = true ∨ ∃ j, i ≤ j ∧ j < n ∧ isN (dif d.1 x.Lengths j) = false ∧ (key M.1 = key (dif d.1 x.Lengths j) ∨ key M.1 = -key (dif d.1 x.Lengths j))) →
    laws_FnLaid_l2 K x d M k b (i : Int) = some true := by
  intro k
  induction k with
  | zero => intro i b _ h; omega
  | succ k ih =>
    intro i b h1 h2 v
    rw [laws_FnLaid_l2, ite2_dec]
    by_cases hi : i < n
    · rw [if_pos (by omega), chk_pos (by omega), chk_pos (by omega), Int.toNat_natCast, wrap_nat1 (by omega)]
      have hdif : (d.1.getD i default).sub (x.Lengths.getD i default) = dif d.1 x.Lengths i := rfl
      rw [hdif]
      have g1 : (dif d.1 x.Lengths i).gt M.1 = false := by
        cases hg : (dif d.1 x.Lengths i).gt M.1
        · rfl
        · obtain ⟨a1, a2, a3⟩ := gt_key.1 hg
          have := t.all i hi a1; omega
      have g2 : (dif d.1 x.Lengths i).neg.gt M.1 = false := by
        cases hg : (dif d.1 x.Lengths i).neg.gt M.1
        · rfl
        · obtain ⟨a1, a2, a3⟩ := gt_key.1 hg
          cases hx : isN (dif d.1 x.Lengths i)
          · have := t.all i hi hx
            rw [(key_neg hx).2] at a3; omega
          · rw [neg_nan hx] at a1; cases a1
      rw [g1, g2, ite2_false, bind_of, ite2_false]
      have step : ∀ b2 : Bool, (b2 = true ∨ ∃ j, i + 1 ≤ j ∧ j < n ∧ isN (dif d.1 x.Lengths j) = false ∧ (key M.1 = key (dif d.1 x.Lengths j) ∨ key M.1 = -key (dif d.1 x.Lengths j))) → laws_FnLaid_l2 K x d M k b2 ((i + 1 : Nat) : Int) = some true := fun b2 hb2 => ih (i + 1) b2 (by omega) (by omega) hb2
      cases b
      · rw [ite2_false]
        rcases v with v | ⟨j, j1, j2, j3, j4⟩
        · cases v
        · by_cases e : j = i
          · subst e
            rcases j4 with j4 | j4
            · rw [eq_key.2 ⟨j3, t.num, j4.symm⟩, ite2_true, bind_of]
              exact step true (.inl rfl)
            · have ⟨n1, n2⟩ := key_neg j3
              cases hq : (dif d.1 x.Lengths j).eq M.1
              · rw [ite2_false, eq_key.2 ⟨n1, t.num, by rw [n2]; exact j4.symm⟩, bind_of]
                exact step true (.inl rfl)
              · rw [ite2_true, bind_of]; exact step true (.inl rfl)
          · have hrest : ∀ b2, laws_FnLaid_l2 K x d M k b2 ((i + 1 : Nat) : Int) = some true := fun b2 => step b2 (.inr ⟨j, by omega, j2, j3, j4⟩)
            cases (dif d.1 x.Lengths i).eq M.1
            · rw [ite2_false, bind_of]; exact hrest _
            · rw [ite2_true, bind_of]; exact hrest _
      · rw [ite2_true, bind_of]; exact step true (.inl rfl)
    · rw [if_neg (by omega)]
      rcases v with v | ⟨j, j1, j2, _⟩
      · rw [v]
      · omega
theorem same_refl (K : Nat) (a : F32) : impl_SameNumber K a a = some true := by rw [same_impl]; simp
theorem sameV_refl (K : Nat) (a : Vector) : impl_SameVector K a a = some true := by
  unfold impl_SameVector
  simp only [same_refl, bind_of, ite2_true]
theorem r8At_in {K : Nat} {c : List Int} (hc : Byt c) (n : Int) (hn : 1 < n) (k : Int) (hk : 0 ≤ k) : ∃ r, laws_r8At K c k n = some r := by
  unfold laws_r8At
  rw [ite2_dec, if_neg (by omega), bind_of, ite2_dec]
  by_cases h : k ≥ (c.length : Int)
  · rw [if_pos h]; exact ⟨_, rfl⟩
  · rw [if_neg h, chk_pos (by omega), chk_pos (by omega)]; exact ⟨_, rfl⟩
theorem points_loop {K n : Nat} (x : String) (v6 : Int) (lay : String × Bool) (d : List F32 × Bool) (M : F32 × Bool) (f : F32) (hf : (Fl.ofInt .f32 (IntKind.i64.wrap (v6 - (8 : Int)))).div (Fl.mk (k := .f32) 1082130432 (by decide)) = f) (hx : x.Points.length = n) (hn : n ≤ 5) (hl : lay.1.Points.length = n) (hv : ∀ j, j < n → lay.1.Points.getD j default = liftV f (x.Points.getD j default))
    (h2 : laws_FnLaid_l2 K x d M K (M.1.eq (Fl.mk (k := .f32) 0 (by decide))) (0 : Int) = some true) : ∀ (k i : Nat), i ≤ n → n - i < k → laws_FnLaid_l1 K x v6 lay d M k (i : Int) = some true := by
  intro k
  induction k with
  | zero => intro i _ h; omega
  | succ k ih =>
    intro i h1 h3
    rw [laws_FnLaid_l1, ite2_dec, hf]
    by_cases hi : i < n
    · rw [if_pos (by omega), chk_pos (by omega), wrap_nat1 (by omega), Int.toNat_natCast, hv i hi]
      have hrest := ih (i + 1) (by omega) (by omega)
      have a1 : (liftV f (x.Points.getD i default)).Y.lt' f = false := by
        unfold liftV
        cases hy : (x.Points.getD i default).Y.lt' f
        · simp only [Bool.false_eq_true, if_false]; exact hy
        · simp only [if_true]
          cases hq : f.lt' f
          · rfl
          · have := lt_key.1 hq; omega
      rw [a1, ite2_false, chk_pos (by omega)]
      cases hg : (x.Points.getD i default).Y.ge f
      · rw [ite2_false, bind_of, ite2_false]; exact hrest
      · have a2 : liftV f (x.Points.getD i default) = x.Points.getD i default := by
          unfold liftV
          cases hy : (x.Points.getD i default).Y.lt' f
          · simp
          · have b1 := lt_key.1 hy
            have b2 := ge_key.1 hg
            omega
        rw [a2, sameV_refl, ite2_true, bind_of, bind_of, Bool.not_true, ite2_false]; exact hrest
    · rw [if_neg (by omega)]; exact h2

theorem laid_true (a b : List Int) (ha : Byt a) (hb : Byt b) : ∃ K, laws_FnLaid K a b = some true := by
  refine ⟨1000, ?_⟩
  unfold laws_FnLaid laws_r8Long
  cases hlong : ite2 (decide ((a.length : Int) > 48)) (some true) (some (decide ((b.length : Int) > 48))) with
  | none => revert hlong; unfold ite2; split <;> intro h <;> cases h
  | some g =>
  rw [bind_of, bind_of]
  cases g with
  | true => rfl
  | false =>
  rw [ite2_false]
  obtain ⟨x, n, x1, n2, n5, hs, p0, p3⟩ := string_drawn (K := 1000) (by omega) ha
  obtain ⟨v6, hv6⟩ := r8At_in (K := 1000) hb 17 (by omega) 0 (by omega)
  rw [x1, bind_of, hv6, bind_of]
  generalize hf : (Fl.ofInt .f32 (IntKind.i64.wrap (v6 - (8 : Int)))).div (Fl.mk (k := .f32) 1082130432 (by decide)) = f
  obtain ⟨s, s1, s2, s3⟩ := lay_eq (K := 1000) (by omega) f hs n2 n5 p0 p3
  have e1 := hs.pts; have e4 := hs.len
  obtain ⟨ds, d1, d2⟩ := dist_eq (K := 1000) (by omega) x.Points (by omega) (by omega)
  have z := key_zero (z := (Fl.mk (k := .f32) 0 (by decide))) rfl
  obtain ⟨M, m1, t⟩ := top_loop (K := 1000) (n := n - 1) x ds (by omega) (by omega) (by omega) 1000 0 (Fl.mk (k := .f32) 0 (by decide)) (by omega) (by omega) ⟨z.2, by rw [z.1]; omega, fun j hj => by omega, .inl z.1⟩
  have hpl : impl_PointLengths 1000 x.Points = some (ds, true) := by
    unfold impl_PointLengths
    rw [Are_eq (by omega) (by omega), bind_of, Bool.not_true, ite2_false, d1]; rfl
  have hst : impl_StretchOf 1000 x = some (M, true) := by
    unfold impl_StretchOf
    rw [Valid_eq hs n2 n5 p0 p3, bind_of, Bool.not_true, ite2_false, d1, bind_of]; exact m1
  rw [s1, bind_of, hpl, bind_of, hst, bind_of]
  have hge : M.ge (Fl.mk (k := .f32) 0 (by decide)) = true := ge_key.2 ⟨t.num, z.2, by rw [z.1]; exact t.pos⟩
  have f2 := found_loop (K := 1000) (n := n - 1) x (ds, true) (M, true) (by show ds.length = n - 1; omega) (by omega) (by omega) t 1000 0 (M.eq (Fl.mk (k := .f32) 0 (by decide))) (by omega) (by omega) (by
    rcases t.one with h | ⟨j, j1, j2⟩
    · exact .inl (eq_key.2 ⟨t.num, z.2, by rw [z.1]; exact h⟩)
    · exact .inr ⟨j, by omega, j1, j2⟩)
  have f1 := points_loop (K := 1000) (n := n) x v6 (s, true) (ds, true) (M, true) f hf e1 n5 s2 s3 f2 1000 0 (by omega) (by omega)
  simp only [Bool.not_true, ite2_false, hge]
  rw [show ((s.Points.length : Int) != (x.Points.length : Int)) = false by rw [s2, e1]; simp, show ((ds.length : Int) != (x.Lengths.length : Int)) = false by rw [show ds.length = x.Lengths.length by omega]; simp]
  rw [ite2_false, ite2_false, bind_of, ite2_false]
  exact f1
theorem law_FnLaid (a b : List Int) (ha : a.length ≤ maxLen ∧ ∀ x ∈ a, (Lit.int .u8 x).wf = true) (hb : b.length ≤ maxLen ∧ ∀ x ∈ b, (Lit.int .u8 x).wf = true) : ∃ K, laws_FnLaid K a b = some true := by
  have byt : ∀ {c : List Int}, (∀ x ∈ c, (Lit.int .u8 x).wf = true) → Byt c := fun h x hx => by
    have := h x hx
    simp only [Lit.wf, Bool.and_eq_true, decide_eq_true_eq] at this
    have e1 : IntKind.u8.min = 0 := by decide
    have e2 : IntKind.u8.max = 255 := by decide
    omega
  exact laid_true a b (byt ha.2) (byt hb.2)

end Go.Fw
