/- Strings that are drawn, and how they move, in plain Lean. -/
import Derived.Test.YtdddhokfmablnaaFwGASrcLaw
import Derived.Test.YtdddhokfmablnaaFwGASameLaw
import Derived.Test.YtdddhokfmablnaaFwFD
namespace Go.Fw
open Go

/-! A string that is drawn. -/
structure Str (n : Nat) (x : String) : Prop where
  pts : x.Points.length = n
  bef : x.Before.length = n
  fix : x.Fixed.length = n
  len : x.Lengths.length + 1 = n
theorem len_dr {K : Nat} {c : List Int} (hc : Byt c) (at_ sd : Int) : Dr at_ 12 (spec_l04DrawLength K (l00Src.mk c at_ sd)) (fun _ => True) := by
  unfold spec_l04DrawLength
  refine Dr.bind (c1 := 2) (c2 := 10) (one_dr hc at_ sd 12) (by decide) fun r a1 s1 _ => .ite (fun _ => ?_) fun _ => ?_
  · exact Dr.weak (c := 10 + 0) (P := fun _ => True) (Dr.bind (float_dr hc a1 s1) (by decide) fun r2 a2 s2 _ => .of trivial (by decide) rfl) (by decide) (fun _ h => h)
  · exact Dr.weak (c := 2 + 0) (P := fun _ => True) (Dr.bind (pick_dr hc a1 s1 24) (by decide) fun r2 a2 s2 _ => .of trivial (by decide) rfl) (by decide) (fun _ h => h)
theorem share_dr {K : Nat} {c : List Int} (hc : Byt c) (at_ sd : Int) : Dr at_ 12 (spec_l02DrawShare K (l00Src.mk c at_ sd)) (fun _ => True) := by
  unfold spec_l02DrawShare
  refine Dr.bind (c1 := 2) (c2 := 10) (one_dr hc at_ sd 10) (by decide) fun r a1 s1 _ => .ite (fun _ => ?_) fun _ => ?_
  · exact Dr.weak (c := 10 + 0) (P := fun _ => True) (Dr.bind (float_dr hc a1 s1) (by decide) fun r2 a2 s2 _ => .of trivial (by decide) rfl) (by decide) (fun _ h => h)
  · exact Dr.weak (c := 2 + 0) (P := fun _ => True) (Dr.bind (pick_dr hc a1 s1 17) (by decide) fun r2 a2 s2 _ => .of trivial (by decide) rfl) (by decide) (fun _ h => h)
theorem string_loop {K n : Nat} {c : List Int} (hc : Byt c) (at0 sd0 : Int) (v1 v3 : Int × Int × Int) (hv : IntKind.i64.wrap ((2 : Int) + v3.1) = (n : Int)) (h2 : 2 ≤ n) (hn : n ≤ 5) : ∀ (k i : Nat) (a s : Int) (pts bef : List Vector) (fix : List Bool) (len : List F32),
    i ≤ n → n - i < k → pts.length = i → bef.length = i → fix.length = i → len.length = i - 1 →
    Dr a (52 * ((n - i : Nat) : Int) + 40) (spec_l08DrawOk_l1 K (l00Src.mk c at0 sd0) v1 v3 k (i : Int) a s pts bef fix len) (fun x => Str n x ∧ x.Passes = v1.1) := by
  intro k
  induction k with
  | zero => intro i a s pts bef fix len _ h; omega
  | succ k ih =>
    intro i a s pts bef fix len h1 h3 l1 l2 l3 l4
    rw [spec_l08DrawOk_l1, hv]
    refine .ite (fun h => ?_) fun h => ?_
    · have hi : i < n := by have := of_decide_eq_true h; omega
      have e : (52 * ((n - i : Nat) : Int) + 40) = 18 + (2 + (18 + (2 + (12 + (52 * ((n - (i + 1) : Nat) : Int) + 40))))) := by omega
      have w : IntKind.i64.wrap ((i : Int) + 1) = ((i + 1 : Nat) : Int) := by rw [wrap_in (by omega) (by omega)]; omega
      rw [e, w]
      refine Dr.bind (vector_dr hc a s) (by omega) fun p a1 s1 _ => .chk (by simp; omega) (Dr.bind (one_dr hc a1 s1 2) (by omega) fun q a2 s2 _ => .ite (fun _ => ?_) fun _ => ?_)
      · refine Dr.bind (vector_dr hc a2 s2) (by omega) fun b a3 s3 _ => .chk (by simp; omega) (Dr.bind (one_dr hc a3 s3 3) (by omega) fun f a4 s4 _ => .chk (by simp; omega) (.ite (fun g => ?_) fun g => ?_))
        · have := of_decide_eq_true g
          refine Dr.bind (len_dr hc a4 s4) (by omega) fun l a5 s5 _ => .chk (by simp; omega) ?_
          exact ih (i + 1) a5 s5 (pts ++ [p]) (bef ++ [b]) (fix ++ [f]) (len ++ [l]) (by omega) (by omega) (by simp; omega) (by simp; omega) (by simp; omega) (by simp; omega)
        · have := of_decide_eq_false g
          exact Dr.weak (ih (i + 1) a4 s4 (pts ++ [p]) (bef ++ [b]) (fix ++ [f]) len (by omega) (by omega) (by simp; omega) (by simp; omega) (by simp; omega) (by omega)) (by omega) fun _ h => h
      · refine Dr.weak (c := 2 + (12 + (52 * ((n - (i + 1) : Nat) : Int) + 40))) (P := fun x => Str n x ∧ x.Passes = v1.1) (.chk (by simp; omega) (Dr.bind (one_dr hc a2 s2 3) (by omega) fun f a4 s4 _ => .chk (by simp; omega) (.ite (fun g => ?_) fun g => ?_))) (by omega) fun _ h => h
        · have := of_decide_eq_true g
          refine Dr.bind (len_dr hc a4 s4) (by omega) fun l a5 s5 _ => .chk (by simp; omega) ?_
          exact ih (i + 1) a5 s5 (pts ++ [p]) (bef ++ [p]) (fix ++ [f]) (len ++ [l]) (by omega) (by omega) (by simp; omega) (by simp; omega) (by simp; omega) (by simp; omega)
        · have := of_decide_eq_false g
          exact Dr.weak (ih (i + 1) a4 s4 (pts ++ [p]) (bef ++ [p]) (fix ++ [f]) len (by omega) (by omega) (by simp; omega) (by simp; omega) (by simp; omega) (by omega)) (by omega) fun _ h => h
    · have hi : i = n := by have := of_decide_eq_false h; omega
      subst hi
      refine Dr.weak (c := 2 + (18 + (12 + 0))) (P := fun x => Str i x ∧ x.Passes = v1.1) (Dr.bind (one_dr hc a s 2) (by decide) fun q a2 s2 _ => .ite (fun _ => ?_) fun _ => ?_) (by omega) fun _ h => h
      · exact Dr.bind (vector_dr hc a2 s2) (by decide) fun f a3 s3 _ => Dr.bind (share_dr hc a3 s3) (by decide) fun d a4 s4 _ => .of ⟨⟨l1, l2, l3, by show len.length + 1 = i; omega⟩, rfl⟩ (by decide) rfl
      · exact Dr.weak (c := 12 + 0) (P := fun x => Str i x ∧ x.Passes = v1.1) (Dr.bind (share_dr hc a2 s2) (by decide) fun d a4 s4 _ => .of ⟨⟨l1, l2, l3, by show len.length + 1 = i; omega⟩, rfl⟩ (by decide) rfl) (by decide) fun _ h => h
theorem string_drawn {K : Nat} (hK : 100 < K) {c : List Int} (hc : Byt c) : ∃ x n, spec_R8String K c = some x ∧ 2 ≤ n ∧ n ≤ 5 ∧ Str n x ∧ 0 ≤ x.Passes ∧ x.Passes ≤ 3 := by
  have keyd : Dr 0 (2 + (2 + 300)) (spec_l08DrawOk K (l00Src.mk c 0 0)) (fun x => ∃ n, 2 ≤ n ∧ n ≤ 5 ∧ Str n x ∧ 0 ≤ x.Passes ∧ x.Passes ≤ 3) := by
    unfold spec_l08DrawOk
    refine Dr.bind (pick_dr hc 0 0 4) (by decide) fun r a1 s1 hr => Dr.bind (pick_dr hc a1 s1 4) (by decide) fun m a2 s2 hm => ?_
    obtain ⟨q, hq⟩ : ∃ q : Nat, 2 + m = (q : Int) := ⟨(2 + m).toNat, by omega⟩
    have w : IntKind.i64.wrap (2 + m) = (q : Int) := by rw [hq, wrap_in (by omega) (by omega)]
    exact Dr.weak (string_loop hc 0 0 (r, a1, s1) (m, a2, s2) w (by omega) (by omega) K 0 a2 s2 [] [] [] [] (by omega) (by omega) rfl rfl rfl rfl) (by omega) fun x hx => ⟨q, by omega, by omega, hx.1, by rw [hx.2]; show 0 ≤ r; omega, by rw [hx.2]; show r ≤ 3; omega⟩
  obtain ⟨x, a', s', h1, ⟨n, h2⟩, _, _⟩ := keyd (Int.le_refl _) (by decide)
  refine ⟨x, n, ?_, h2⟩
  unfold spec_R8String
  rw [h1]; rfl

/-! What the program gives. -/
theorem ite2_and (x y : Bool) : ite2 x (some y) (some false) = some (x && y) := by cases x <;> rfl
theorem Are_eq {K : Nat} {a : List Vector} (h2 : 2 ≤ a.length) (h5 : a.length ≤ 5) : impl_arePoints K a = some true := by
  unfold impl_arePoints
  rw [ite2_dec, if_pos (by omega), decide_eq_true (by omega : (a.length : Int) ≤ 16)]; rfl
theorem Valid_eq {K n : Nat} {x : String} (h : Str n x) (h2 : 2 ≤ n) (h5 : n ≤ 5) (hp : 0 ≤ x.Passes) (hp2 : x.Passes ≤ 3) : impl_ValidString K x = some true := by
  have e1 := h.pts; have e2 := h.bef; have e3 := h.fix; have e4 := h.len
  unfold impl_ValidString
  rw [Are_eq (by omega) (by omega), bind_of, ite2_true, wrap_in (by omega) (by omega)]
  rw [show ((x.Before.length : Int) == (x.Points.length : Int)) = true by rw [beq_iff_eq]; omega, show ((x.Fixed.length : Int) == (x.Points.length : Int)) = true by rw [beq_iff_eq]; omega, show ((x.Lengths.length : Int) == (x.Points.length : Int) - 1) = true by rw [beq_iff_eq]; omega]
  rw [ite2_true, ite2_true, ite2_true, ite2_dec, if_pos (by omega), decide_eq_true (by omega : x.Passes ≤ 16)]; rfl
theorem sqrt_impl (K : Nat) (x : F32) : impl_RootNumber K x = some (Fl.cv .f64 .f32 (Fl.cv .f32 .f64 x).sqrt) := by
  unfold impl_RootNumber math_Sqrt math_sqrt
  simp only [bind_of, chk_pos (narrow_root x)]

/-! How a string moves. -/
theorem len_set {α : Type} (a : List α) (i : Nat) (v : α) : (a.set i v).length = a.length := List.length_set
theorem set_ne {α : Type} [Inhabited α] {xs : List α} {i j : Nat} {v : α} (h : i ≠ j) : (xs.set i v).getD j default = xs.getD j default := by
  rw [List.getD_eq_getElem?_getD, List.getElem?_set_ne h, ← List.getD_eq_getElem?_getD]
theorem set_same {α : Type} [Inhabited α] (xs : List α) (i : Nat) : xs.set i (xs.getD i default) = xs := by
  apply List.ext_getElem?
  intro j
  by_cases h : i = j
  · subst h
    by_cases hl : i < xs.length
    · rw [List.getElem?_set_self hl, getD_of_lt hl, List.getElem?_eq_getElem hl]
    · rw [List.getElem?_eq_none (by rw [List.length_set]; omega), List.getElem?_eq_none (by omega)]
  · rw [List.getElem?_set_ne h]
/-- What is fixed is as in other points. -/
def Fx (s : String) (n : Nat) (p q : List Vector) : Prop := ∀ j, j < n → s.Fixed.getD j default = true → p.getD j default = q.getD j default
/-- The lengths of a right string. -/
structure Rs (n : Nat) (a : String) : Prop where
  n2 : 2 ≤ n
  n16 : n ≤ 16
  pts : a.Points.length = n
  bef : a.Before.length = n
  fix : a.Fixed.length = n
  len : a.Lengths.length + 1 = n
  pas : 0 ≤ a.Passes ∧ a.Passes ≤ 16
theorem Rs.valid {K n : Nat} {x : String} (h : Rs n x) : impl_ValidString K x = some true := by
  have e1 := h.pts; have e2 := h.bef; have e3 := h.fix; have e4 := h.len; have h2 := h.n2; have h5 := h.n16; have hp := h.pas
  unfold impl_ValidString impl_arePoints
  rw [show ite2 (decide ((x.Points.length : Int) ≥ 2)) (some (decide ((x.Points.length : Int) ≤ 16))) (some false) = some true by rw [ite2_dec, if_pos (by omega), decide_eq_true (by omega)], bind_of, bind_of, ite2_true, wrap_in (by omega) (by omega)]
  rw [show ((x.Before.length : Int) == (x.Points.length : Int)) = true by rw [beq_iff_eq]; omega, show ((x.Fixed.length : Int) == (x.Points.length : Int)) = true by rw [beq_iff_eq]; omega, show ((x.Lengths.length : Int) == (x.Points.length : Int) - 1) = true by rw [beq_iff_eq]; omega]
  rw [ite2_true, ite2_true, ite2_true, ite2_dec, if_pos (by omega), decide_eq_true (by omega : x.Passes ≤ 16)]; rfl
theorem pull_ok {K n : Nat} {s : String} (h : Rs n s) {i : Nat} (hi : i + 1 < n) : ∃ r, impl_String_pull K s (i : Int) = some r ∧ r.length = n ∧ Fx s n r s.Points := by
  have w : IntKind.i64.wrap ((i : Int) + 1) = ((i + 1 : Nat) : Int) := wrap_nat1 (by have := h.n16; omega)
  have h1 := h.pts
  have h2 := h.fix
  have h3 := h.len
  unfold impl_String_pull impl_LessVectors impl_LongOf impl_InnerOf impl_isLength impl_IsFinite impl_ScaleVector impl_AddVectors
  simp only [w, Int.toNat_natCast, bind_of, sqrt_impl, len_set]
  simp (disch := omega) only [chk_pos]
  generalize (Fl.cv .f64 .f32 _ : F32) = m
  have no : ∀ {b : Bool}, b = false → b = true → False := by intro b a c; rw [a] at c; cases c
  cases h4 : s.Fixed.getD i default <;> cases h5 : s.Fixed.getD (i + 1) default <;> cases (m.sub m).eq (Fl.mk (k := .f32) 0 (by decide)) <;> cases m.ne (Fl.mk (k := .f32) 0 (by decide)) <;>
    simp only [ite2_true, ite2_false, bind_of, Bool.not_true, Bool.not_false] <;> refine ⟨_, rfl, ?_, ?_⟩ <;>
    first
    | exact h1
    | (simp only [len_set]; exact h1)
    | (intro j _ _; rfl)
    | (intro j hj hf
       have n1 : i ≠ j := by rintro rfl; first | exact no h4 hf | exact no hf h4
       first
       | (rw [set_ne n1])
       | (have n2 : i + 1 ≠ j := by rintro rfl; exact no h5 hf
          rw [set_ne n2, set_ne n1]))
    | (intro j hj hf
       have n2 : i + 1 ≠ j := by rintro rfl; exact no h5 hf
       rw [set_ne n2])
theorem l5_ok {K n : Nat} {s : String} (h : Rs n s) (bef : List Vector) (hb : bef.length = n) : ∀ (k i : Nat) (p : List Vector), i + 1 ≤ n → n - 1 - i < k → p.length = n →
    ∃ r, impl_String_move_l5 K s bef k (i : Int) p = some r ∧ r.length = n ∧ Fx s n r p := by
  intro k
  induction k with
  | zero => intro i p _ h; omega
  | succ k ih =>
    intro i p hi hk hp
    have hn := h.n16
    have hl := h.len
    have w : IntKind.i64.wrap ((i : Int) + 1) = ((i + 1 : Nat) : Int) := wrap_nat1 (by omega)
    rw [impl_String_move_l5, w, ite2_dec]
    by_cases hlt : i + 1 < n
    · rw [if_pos (by omega)]
      obtain ⟨r, r2, r3, r4⟩ := pull_ok (K := K) (n := n) (s := String.mk p bef s.Fixed s.Lengths s.Fall s.Damp s.Passes) ⟨h.n2, h.n16, hp, hb, h.fix, h.len, h.pas⟩ hlt
      rw [r2, bind_of, chk_pos (by omega)]
      obtain ⟨q, q1, q2, q3⟩ := ih (i + 1) r (by omega) (by omega) r3
      exact ⟨q, q1, q2, fun j hj hf => (q3 j hj hf).trans (r4 j hj hf)⟩
    · rw [if_neg (by omega)]
      exact ⟨p, rfl, hp, fun _ _ _ => rfl⟩
theorem l4_ok {K n : Nat} {s : String} (hK : 20 < K) (h : Rs n s) (bef : List Vector) (hb : bef.length = n) : ∀ (k i : Nat) (p : List Vector), (i : Int) ≤ s.Passes → (s.Passes - i).toNat < k → p.length = n →
    ∃ r, impl_String_move_l4 K s bef k (i : Int) p = some (r, bef) ∧ r.length = n ∧ Fx s n r p := by
  intro k
  induction k with
  | zero => intro i p _ h; omega
  | succ k ih =>
    intro i p hi hk hp
    have hn := h.n16
    have hp16 := h.pas
    have hpt := h.pts
    have hbf := h.bef
    have w : IntKind.i64.wrap ((i : Int) + 1) = ((i + 1 : Nat) : Int) := wrap_nat1 (by omega)
    rw [impl_String_move_l4, w, ite2_dec]
    by_cases hlt : (i : Int) < s.Passes
    · rw [if_pos hlt]
      obtain ⟨r, r2, r3, r4⟩ := l5_ok (K := K) h bef hb K 0 p (by have := h.n2; omega) (by omega) hp
      rw [show ((0 : Nat) : Int) = 0 from rfl] at r2
      rw [r2, bind_of]
      obtain ⟨q, q1, q2, q3⟩ := ih (i + 1) r (by omega) (by omega) r3
      exact ⟨q, q1, q2, fun j hj hf => (q3 j hj hf).trans (r4 j hj hf)⟩
    · rw [if_neg hlt, chk_pos (by omega), chk_pos (by omega)]
      exact ⟨p, rfl, hp, fun _ _ _ => rfl⟩
theorem l1_ok {K n : Nat} {s : String} (hK : 20 < K) (h : Rs n s) : ∀ (k i : Nat) (p b : List Vector), i ≤ n → n - i < k → p.length = n → b.length = n → Fx s n p s.Points → (∀ j, i ≤ j → p.getD j default = s.Points.getD j default) → (∀ j, j < i → b.getD j default = s.Points.getD j default) →
    ∃ p' b', impl_String_move_l1 K s k (i : Int) p b = some (p', b') ∧ p'.length = n ∧ b'.length = n ∧ Fx s n p' s.Points ∧ ∀ j, j < n → b'.getD j default = s.Points.getD j default := by
  intro k
  induction k with
  | zero => intro i p b _ h; omega
  | succ k ih =>
    intro i p b hi hk hp hb v1 v2 v3
    have hn := h.n16
    have hp16 := h.pas
    have hpt := h.pts
    have hfx := h.fix
    have w : IntKind.i64.wrap ((i : Int) + 1) = ((i + 1 : Nat) : Int) := wrap_nat1 (by omega)
    rw [impl_String_move_l1, w, ite2_dec]
    by_cases hlt : i < n
    · rw [if_pos (by omega)]
      unfold impl_LessVectors impl_ScaleVector impl_AddVectors
      simp only [Int.toNat_natCast, bind_of]
      simp (disch := omega) only [chk_pos]
      have nb : ∀ j, j < i + 1 → (b.set i (p.getD i default)).getD j default = s.Points.getD j default := by
        intro j hj
        by_cases e : i = j
        · subst e; rw [set_getD (by omega)]; exact v2 i (Nat.le_refl _)
        · rw [set_ne e]; exact v3 j (by omega)
      cases hf : s.Fixed.getD i default
      · simp only [Bool.not_false, ite2_true]
        refine ih (i + 1) _ _ (by omega) (by omega) (by rw [len_set]; exact hp) (by rw [len_set]; exact hb) (fun j hj hf2 => ?_) (fun j hj => ?_) nb
        · have e : i ≠ j := by rintro rfl; rw [hf] at hf2; cases hf2
          rw [set_ne e]; exact v1 j hj hf2
        · rw [set_ne (by omega)]; exact v2 j (by omega)
      · simp only [Bool.not_true, ite2_false]
        exact ih (i + 1) _ _ (by omega) (by omega) hp (by rw [len_set]; exact hb) v1 (fun j hj => v2 j (by omega)) nb
    · rw [if_neg (by omega)]
      obtain ⟨r, r2, r3, r4⟩ := l4_ok (K := K) hK h b hb K 0 p (by omega) (by omega) hp
      exact ⟨r, b, r2, r3, hb, fun j hj hf => (r4 j hj hf).trans (v1 j hj hf), fun j hj => v3 j (by omega)⟩
theorem copied_eq {K n : Nat} {s : String} (h : Rs n s) : impl_String_copied K s = some s := by
  have h1 := h.n16; have h2 := h.pts; have h3 := h.bef; have h4 := h.fix; have h5 := h.len
  unfold impl_String_copied slices_Clone_impl_Vector_impl_Vector slices_Clone_bool_bool slices_Clone_float32_float32
  rw [chk_pos (by simp; omega), chk_pos (by simp; omega), chk_pos (by simp; omega), chk_pos (by simp; omega)]
  rfl
theorem move_ok {K n : Nat} {s : String} (hK : 20 < K) (h : Rs n s) : ∃ p b, impl_String_move K s = some (p, b) ∧ p.length = n ∧ b.length = n ∧ Fx s n p s.Points ∧ ∀ j, j < n → b.getD j default = s.Points.getD j default := by
  unfold impl_String_move
  exact l1_ok hK h K 0 s.Points s.Before (by omega) (by have := h.n16; omega) h.pts h.bef (fun _ _ _ => rfl) (fun _ _ => rfl) (fun j hj => by omega)
/-- A step, and many steps. -/
def stepS (K : Nat) (s : String) : String := match impl_String_move K s with
  | some (p, b) => String.mk p b s.Fixed s.Lengths s.Fall s.Damp s.Passes
  | none => s
def stepsS (K : Nat) : Nat → String → String
  | 0, s => s
  | m + 1, s => stepsS K m (stepS K s)
theorem steps_add (K a b : Nat) (s : String) : stepsS K (a + b) s = stepsS K b (stepsS K a s) := by
  induction a generalizing s with
  | zero => rw [Nat.zero_add]; rfl
  | succ a ih => rw [show a + 1 + b = (a + b) + 1 by omega]; exact ih _
/-- What steps keep. -/
structure Kept (n : Nat) (s t : String) : Prop where
  rs : Rs n t
  fx : t.Fixed = s.Fixed
  pt : Fx s n t.Points s.Points
theorem step_kept {K n : Nat} {s : String} (hK : 20 < K) (h : Rs n s) : Kept n s (stepS K s) ∧ ∀ j, j < n → (stepS K s).Before.getD j default = s.Points.getD j default := by
  obtain ⟨p, b, e, r1, r2, r3, r4⟩ := move_ok hK h
  have e2 : stepS K s = String.mk p b s.Fixed s.Lengths s.Fall s.Damp s.Passes := by unfold stepS; rw [e]
  rw [e2]
  exact ⟨⟨⟨h.n2, h.n16, r1, r2, h.fix, h.len, h.pas⟩, rfl, r3⟩, r4⟩
theorem steps_kept {K n : Nat} (hK : 20 < K) : ∀ (m : Nat) {s : String} (_ : Rs n s), Kept n s (stepsS K m s) ∧ (0 < m → Fx s n (stepsS K m s).Before s.Points) := by
  intro m
  induction m with
  | zero => intro s h; exact ⟨⟨h, rfl, fun _ _ _ => rfl⟩, fun h => by omega⟩
  | succ m ih =>
    intro s h
    obtain ⟨k1, k2⟩ := step_kept hK h
    obtain ⟨j1, j2⟩ := ih k1.rs
    have fxe : ∀ {j}, s.Fixed.getD j default = true → (stepS K s).Fixed.getD j default = true := fun hf => by rw [k1.fx]; exact hf
    refine ⟨⟨j1.rs, j1.fx.trans k1.fx, fun j hj hf => (j1.pt j hj (fxe hf)).trans (k1.pt j hj hf)⟩, fun _ j hj hf => ?_⟩
    show (stepsS K m (stepS K s)).Before.getD j default = _
    by_cases hm : 0 < m
    · exact (j2 hm j hj (fxe hf)).trans (k1.pt j hj hf)
    · have : m = 0 := by omega
      subst this
      exact k2 j hj
theorem run_l1 {K n : Nat} (hK : 20 < K) (a1 : Int) (ha : a1 ≤ 1000) : ∀ (k i : Nat) (v s : String), (a1 - i).toNat < k → i ≤ 1000 → Rs n s → s = String.mk s.Points s.Before v.Fixed v.Lengths v.Fall v.Damp v.Passes →
    impl_RunString_l1 K a1 v k (i : Int) s.Points s.Before = some (stepsS K (a1 - i).toNat s, true) := by
  intro k
  induction k with
  | zero => intro i v s h; omega
  | succ k ih =>
    intro i v s hk hi hs he
    have w : IntKind.i64.wrap ((i : Int) + 1) = ((i + 1 : Nat) : Int) := wrap_nat1 (by omega)
    rw [impl_RunString_l1, w, ite2_dec]
    by_cases hlt : (i : Int) < a1
    · rw [if_pos hlt, ← he]
      obtain ⟨p, b, e, r1, r2, _, _⟩ := move_ok (K := K) hK hs
      have e1 := hs.pts; have e2 := hs.bef
      rw [e, bind_of, chk_pos (show p.length = s.Points.length by omega), chk_pos (show b.length = s.Before.length by omega)]
      have es : stepS K s = String.mk p b s.Fixed s.Lengths s.Fall s.Damp s.Passes := by unfold stepS; rw [e]
      have hk2 := (step_kept hK hs).1.rs
      have := ih (i + 1) v (stepS K s) (by omega) (by omega) hk2 (by rw [es]; rw [he])
      rw [es] at this
      rw [show (a1 - (i : Int)).toNat = (a1 - ((i + 1 : Nat) : Int)).toNat + 1 by omega]
      rw [stepsS, es]
      exact this
    · rw [if_neg hlt, ← he, show (a1 - (i : Int)).toNat = 0 by omega]; rfl
theorem run_eq {K n : Nat} (hK : 1010 < K) {s : String} (hs : Rs n s) {a1 : Int} (h0 : 0 ≤ a1) (h1 : a1 ≤ 1000) : impl_RunString K s a1 = some (stepsS K a1.toNat s, true) := by
  unfold impl_RunString impl_isMoves
  rw [hs.valid, bind_of, Bool.not_true, ite2_false, show ite2 (decide (a1 ≥ 0)) (some (decide (a1 ≤ 1000))) (some false) = some true by rw [ite2_dec, if_pos (by omega), decide_eq_true (by omega)]]
  rw [bind_of, bind_of, bind_of, Bool.not_true, ite2_false, copied_eq hs, bind_of]
  have := run_l1 (K := K) (by omega) a1 h1 K 0 s s (by omega) (by omega) hs rfl
  rw [show ((0 : Nat) : Int) = 0 from rfl] at this
  rw [this, show a1 - 0 = a1 by omega]

/-! Sameness. -/
theorem same_refl (K : Nat) (a : F32) : impl_SameNumber K a a = some true := by rw [same_impl]; simp
theorem sameV_refl (K : Nat) (a : Vector) : impl_SameVector K a a = some true := by
  unfold impl_SameVector
  simp only [same_refl, bind_of, ite2_true]
theorem eqV_refl (K : Nat) (a : List Vector) (hl : a.length ≤ 16) (hK : 20 < K) : slices_EqualFunc_impl_Vector_impl_Vector_impl_Vector_impl_Vector K a a = some true := by
  have loop : ∀ (k i : Nat), i ≤ a.length → a.length - i < k → slices_EqualFunc_impl_Vector_impl_Vector_impl_Vector_impl_Vector_l1 K a a k (i : Int) = some true := by
    intro k
    induction k with
    | zero => intro i _ h; omega
    | succ k ih =>
      intro i h1 h2
      rw [slices_EqualFunc_impl_Vector_impl_Vector_impl_Vector_impl_Vector_l1, ite2_dec, wrap_nat1 (by omega)]
      by_cases hi : i < a.length
      · rw [if_pos (by omega), chk_pos (by omega), chk_pos (by omega), sameV_refl, bind_of, Bool.not_true, ite2_false]
        exact ih (i + 1) (by omega) (by omega)
      · rw [if_neg (by omega)]
  unfold slices_EqualFunc_impl_Vector_impl_Vector_impl_Vector_impl_Vector
  rw [bne_self_eq_false, ite2_false]
  exact loop K 0 (by omega) (by omega)
theorem eqF_refl (K : Nat) (a : List F32) (hl : a.length ≤ 16) (hK : 20 < K) : slices_EqualFunc_float32_float32_float32_float32 K a a = some true := by
  have loop : ∀ (k i : Nat), i ≤ a.length → a.length - i < k → slices_EqualFunc_float32_float32_float32_float32_l1 K a a k (i : Int) = some true := by
    intro k
    induction k with
    | zero => intro i _ h; omega
    | succ k ih =>
      intro i h1 h2
      rw [slices_EqualFunc_float32_float32_float32_float32_l1, ite2_dec, wrap_nat1 (by omega)]
      by_cases hi : i < a.length
      · rw [if_pos (by omega), chk_pos (by omega), chk_pos (by omega), same_refl, bind_of, Bool.not_true, ite2_false]
        exact ih (i + 1) (by omega) (by omega)
      · rw [if_neg (by omega)]
  unfold slices_EqualFunc_float32_float32_float32_float32
  rw [bne_self_eq_false, ite2_false]
  exact loop K 0 (by omega) (by omega)
theorem eqB_refl (K : Nat) (a : List Bool) (hl : a.length ≤ 16) (hK : 20 < K) : slices_Equal_bool_bool K a a = some true := by
  have loop : ∀ (k i : Nat), i ≤ a.length → a.length - i < k → slices_Equal_bool_bool_l1 K a a k (i : Int) = some true := by
    intro k
    induction k with
    | zero => intro i _ h; omega
    | succ k ih =>
      intro i h1 h2
      rw [slices_Equal_bool_bool_l1, ite2_dec, wrap_nat1 (by omega)]
      by_cases hi : i < a.length
      · rw [if_pos (by omega), chk_pos (by omega), chk_pos (by omega), beq_self_eq_true, Bool.not_true, ite2_false]
        exact ih (i + 1) (by omega) (by omega)
      · rw [if_neg (by omega)]
  unfold slices_Equal_bool_bool
  rw [bne_self_eq_false, ite2_false]
  exact loop K 0 (by omega) (by omega)
theorem sameS_refl {K n : Nat} {x : String} (h : Rs n x) (hK : 20 < K) : impl_SameString K x x = some true := by
  have e1 := h.pts; have e2 := h.bef; have e3 := h.fix; have e4 := h.len; have h5 := h.n16
  unfold impl_SameString
  rw [h.valid, bind_of, ite2_true, bind_of, ite2_true, eqV_refl K _ (by omega) hK, bind_of, ite2_true, eqV_refl K _ (by omega) hK, bind_of, ite2_true, eqB_refl K _ (by omega) hK, bind_of, ite2_true, eqF_refl K _ (by omega) hK, bind_of, ite2_true, sameV_refl, bind_of, ite2_true, same_refl, bind_of, ite2_true, beq_self_eq_true]; rfl
end Go.Fw
