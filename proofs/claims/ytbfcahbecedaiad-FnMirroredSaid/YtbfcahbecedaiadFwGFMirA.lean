/- Pairs that are drawn; clips that are drawn. (A template.) -/
import Derived.Test.YtbfcahbecedaiadFwGFMirBase
namespace Go.Fw
open Go

theorem neg_neg {k : FloatKind} (x : Fl k) : x.neg.neg = x := by
  apply Fl.ext
  show canonF k (Op.negFloat k (canonF k (Op.negFloat k x.bits))) = x.bits
  have inv : ∀ b, Op.negFloat k (Op.negFloat k b) = b := fun b => by unfold Op.negFloat; rw [Nat.xor_assoc, Nat.xor_self, Nat.xor_zero]
  cases h : nanB k x.bits
  · have h2 : nanB k (Op.negFloat k x.bits) = false := by
      cases h3 : nanB k (Op.negFloat k x.bits)
      · rfl
      · have := negFloat_nan h3
        rw [inv, h] at this; cases this
    rw [canonF_num h2, inv, canonF_num h]
  · have h2 : nanB k (nanBits k) = true := by cases k <;> decide
    rw [canonF_nan (negFloat_nan h), canonF_nan (negFloat_nan h2), ← canonF_nan h]
    exact x.canon
theorem l01Same_refl (K : Nat) (x : F32) : spec_l01Same K x x = some true := by
  unfold spec_l01Same spec_l01Bits
  rw [ne_self]
  cases h : nanB .f32 x.bits
  · rw [ite2_false]
    have : ∃ n, math_Float32bits K x = some n := by
      unfold math_Float32bits Fl.toBits
      simp [h]
    obtain ⟨n, hn⟩ := this
    rw [hn, bind_of, bind_of, bind_of, beq_self_eq_true]
  · rw [ite2_true, bind_of, bind_of, beq_self_eq_true]
theorem sameT_refl (K : Nat) (t : Turn) : spec_l02Same K t t = some true := by
  unfold spec_l02Same
  rw [l01Same_refl, bind_of, ite2_true, l01Same_refl, bind_of, ite2_true, l01Same_refl, bind_of, ite2_true, l01Same_refl, bind_of, bind_of]
theorem sameV_refl (K : Nat) (v : Vector) : spec_l01VSame K v v = some true := by
  unfold spec_l01VSame
  rw [l01Same_refl, bind_of, ite2_true, l01Same_refl, bind_of, ite2_true, l01Same_refl, bind_of, bind_of]
theorem sameI_refl (K : Nat) (x : F32) : impl_SameNumber K x x = some true := by rw [same_impl, beq_self_eq_true]

/-! Pairs. -/
structure Pq (m : Nat) (bs : List Bone) (p : List Int) : Prop where
  bl : bs.length = m
  pl : p.length = m
  par : ∀ j, j < m → Par j (bs.getD j default).Parent
  inn : ∀ j, j < m → 0 ≤ p.getD j default ∧ p.getD j default < (m : Int)
  back : ∀ j, j < m → p.getD (p.getD j default).toNat default = (j : Int)
  pp : ∀ j, 1 ≤ j → j < m → (bs.getD (p.getD j default).toNat default).Parent = p.getD (bs.getD j default).Parent.toNat default
theorem getD_app0 {α : Type} [Inhabited α] {a : List α} {x y : α} {j : Nat} (h : j = a.length) : (a ++ [x, y]).getD j default = x := by
  rw [List.getD_eq_getElem?_getD, List.getElem?_append_right (by omega), h, Nat.sub_self]; rfl
theorem getD_app1 {α : Type} [Inhabited α] {a : List α} {x y : α} {j : Nat} (h : j = a.length + 1) : (a ++ [x, y]).getD j default = y := by
  rw [List.getD_eq_getElem?_getD, List.getElem?_append_right (by omega), h, Nat.add_sub_cancel_left]; rfl
theorem Pq.step {m : Nat} {bs : List Bone} {p : List Int} (h : Pq m bs p) {q : Int} (hq : 0 ≤ q ∧ q < (m : Int)) (v w : Vector) : Pq (m + 2) (bs ++ [Bone.mk q v, Bone.mk (p.getD q.toNat default) w]) (p ++ [(m : Int) + 1, (m : Int)]) := by
  have bL : ∀ j, j < m → (bs ++ [Bone.mk q v, Bone.mk (p.getD q.toNat default) w]).getD j default = bs.getD j default := fun j hj => getD_left (by rw [h.bl]; exact hj)
  have b0 : (bs ++ [Bone.mk q v, Bone.mk (p.getD q.toNat default) w]).getD m default = Bone.mk q v := getD_app0 h.bl.symm
  have b1 : (bs ++ [Bone.mk q v, Bone.mk (p.getD q.toNat default) w]).getD (m + 1) default = Bone.mk (p.getD q.toNat default) w := getD_app1 (by rw [h.bl])
  have pL : ∀ j, j < m → (p ++ [(m : Int) + 1, (m : Int)]).getD j default = p.getD j default := fun j hj => getD_left (by rw [h.pl]; exact hj)
  have p0 : (p ++ [(m : Int) + 1, (m : Int)]).getD m default = (m : Int) + 1 := getD_app0 h.pl.symm
  have p1 : (p ++ [(m : Int) + 1, (m : Int)]).getD (m + 1) default = (m : Int) := getD_app1 (by rw [h.pl])
  have hpq := h.inn q.toNat (by omega)
  have cs : ∀ j, j < m + 2 → j < m ∨ j = m ∨ j = m + 1 := fun j hj => by omega
  have t1 : ((m : Int) + 1).toNat = m + 1 := by omega
  have t0 : ((m : Int)).toNat = m := by omega
  refine ⟨by rw [List.length_append, h.bl]; rfl, by rw [List.length_append, h.pl]; rfl, fun j hj => ?_, fun j hj => ?_, fun j hj => ?_, fun j h1 hj => ?_⟩
  · rcases cs j hj with e | e | e
    · rw [bL j e]; exact h.par j e
    · rw [e, b0]; exact ⟨fun e => by omega, fun _ => hq⟩
    · rw [e, b1]; exact ⟨fun e => by omega, fun _ => by show 0 ≤ p.getD q.toNat default ∧ p.getD q.toNat default < ((m + 1 : Nat) : Int); omega⟩
  · rcases cs j hj with e | e | e
    · rw [pL j e]; have := h.inn j e; omega
    · rw [e, p0]; omega
    · rw [e, p1]; omega
  · rcases cs j hj with e | e | e
    · have := h.inn j e
      rw [pL j e, pL _ (by omega)]; exact h.back j e
    · rw [e, p0, t1, p1]
    · rw [e, p1, t0, p0]; omega
  · rcases cs j hj with e | e | e
    · have := h.inn j e
      have hp := (h.par j e).2 (by omega)
      rw [pL j e, bL _ (by omega), bL j e, pL _ (by omega)]; exact h.pp j h1 e
    · rw [e, p0, t1, b1, b0, pL _ (by show q.toNat < m; omega)]
    · rw [e, p1, t0, b0, b1]
      show q = (p ++ [(m : Int) + 1, (m : Int)]).getD (p.getD q.toNat default).toNat default
      rw [pL _ (by omega), h.back q.toNat (by omega)]; omega
theorem pairs_l2 {K : Nat} {c : List Int} (hc : Byt c) (at0 sd0 : Int) : ∀ (k t m : Nat) (a s : Int) (bs : List Bone) (p : List Int), t < k → Pq m bs p → 1 ≤ m → m + 2 * t ≤ 12 → 0 ≤ a → a + 40 * (t : Int) ≤ 4611686018427387904 →
    ∃ s' p' a' d' n, spec_b10Pairs_l2 K (l00Src.mk c at0 sd0) k (t : Int) a s bs p = some (Skeleton.mk s', p', a', d') ∧ Pq n s' p' ∧ 1 ≤ n ∧ n ≤ 12 := by
  intro k
  induction k with
  | zero => intro t _ _ _ _ _ h; omega
  | succ k ih =>
    intro t m a s bs p h1 h2 h3 h4 h5 h6
    have hb := h2.bl; have hp := h2.pl
    rw [spec_b10Pairs_l2, ite2_dec]
    by_cases ht : 0 < t
    · obtain ⟨r, a1, s1, e1, r1, q1, q2⟩ := pick_dr (K := K) hc a s (bs.length : Int) (by omega) (by omega)
      obtain ⟨v, a2, s2, e2, _, q3, q4⟩ := vector_dr (K := K) hc a1 s1 (by omega) (by omega)
      obtain ⟨w, a3, s3, e3, _, q5, q6⟩ := vector_dr (K := K) hc a2 s2 (by omega) (by omega)
      have hr : 0 ≤ r ∧ r < (m : Int) := by omega
      obtain ⟨s', p', a', d', n, g1, g2, g3, g4⟩ := ih (t - 1) (m + 2) a3 s3 _ _ (by omega) (h2.step hr v w) (by omega) (by omega) (by omega) (by omega)
      refine ⟨s', p', a', d', n, ?_, g2, g3, g4⟩
      have w1 : IntKind.i64.wrap ((t : Int) - 1) = ((t - 1 : Nat) : Int) := by rw [wrap_in (by omega) (by omega)]; omega
      have w2 : IntKind.i64.wrap ((bs.length : Int) + 1) = (m : Int) + 1 := by rw [wrap_in (by omega) (by omega)]; omega
      rw [if_pos (by omega), e1, bind_of, e2, bind_of, chk_pos (by show 0 ≤ r ∧ r < (p.length : Int); omega), e3, bind_of, chk_pos (by simp; omega), chk_pos (by simp; omega), w1, w2, hb]
      exact g1
    · have : t = 0 := by omega
      subst this
      rw [if_neg (by omega)]
      exact ⟨bs, p, a, s, m, rfl, h2, h3, by omega⟩
theorem pairs_l1 {K : Nat} {c : List Int} (at0 sd0 : Int) (v : Skeleton × Int × Int) (n : Nat) (hv : v.1.Bones.length = n) (hn : n ≤ 12) : ∀ (k i : Nat) (xs : List Int), i ≤ n → n - i < k → xs.length = i → (∀ j, j < i → xs.getD j default = (j : Int)) →
    ∃ p, p.length = n ∧ (∀ j, j < n → p.getD j default = (j : Int)) ∧ spec_b10Pairs_l1 K (l00Src.mk c at0 sd0) v k (i : Int) xs = (spec_l00Src_pick K (l00Src.mk c v.2.1 v.2.2) (4 : Int)).bind fun v11 => spec_b10Pairs_l2 K (l00Src.mk c at0 sd0) K v11.1 v11.2.1 v11.2.2 v.1.Bones p := by
  intro k
  induction k with
  | zero => intro i _ _ h; omega
  | succ k ih =>
    intro i xs h1 h2 h3 h4
    rw [spec_b10Pairs_l1, ite2_dec, hv]
    by_cases hi : i < n
    · rw [if_pos (by omega), chk_pos (by simp; omega), wrap_nat1 (by omega)]
      refine ih (i + 1) _ (by omega) (by omega) (by simp; omega) (fun j hj => ?_)
      by_cases e : j < i
      · rw [getD_left (by omega)]; exact h4 j e
      · rw [getD_end (by omega)]; omega
    · have : i = n := by omega
      subst this
      rw [if_neg (by omega)]
      exact ⟨xs, h3, h4, rfl⟩
theorem pairs_drawn {K : Nat} (hK : 100 < K) {c : List Int} (hc : Byt c) : ∃ s p n, spec_B10Pairs K c = some (Skeleton.mk s) ∧ spec_B10Pairing K c = some p ∧ Pq n s p ∧ 1 ≤ n ∧ n ≤ 12 := by
  obtain ⟨r, a1, s1, e1, p1, q1, q2⟩ := pick_dr (K := K) hc 0 0 3 (by omega) (by omega)
  obtain ⟨m, hm⟩ : ∃ m : Nat, 1 + r = (m : Int) := ⟨(1 + r).toNat, by omega⟩
  obtain ⟨x, a2, s2, e2, ⟨x1, x2⟩, q3, q4⟩ := sized_loop (K := K) (n := m) hc a1 s1 (by omega) K 0 a1 s1 [] (by omega) (by omega) rfl (fun j hj => by omega) q1 (by omega)
  obtain ⟨p, y1, y2, y3⟩ := pairs_l1 (K := K) (c := c) 0 0 (x, a2, s2) m x1 (by omega) K 0 [] (by omega) (by omega) rfl (fun j hj => by omega)
  obtain ⟨t, a3, s3, e3, t1, q5, q6⟩ := pick_dr (K := K) hc a2 s2 4 q3 (by omega)
  obtain ⟨u, hu⟩ : ∃ u : Nat, t = (u : Int) := ⟨t.toNat, by omega⟩
  have start : Pq m x.Bones p := by
    refine ⟨x1, y1, x2, fun j hj => by rw [y2 j hj]; omega, fun j hj => by rw [y2 j hj, Int.toNat_natCast, y2 j hj], fun j h1 hj => ?_⟩
    have := (x2 j hj).2 (by omega)
    rw [y2 j hj, Int.toNat_natCast, y2 _ (by omega)]; omega
  obtain ⟨s', p', a', d', n, g1, g2, g3, g4⟩ := pairs_l2 (K := K) hc 0 0 K u m a3 s3 x.Bones p (by omega) start (by omega) (by omega) q5 (by omega)
  have whole : spec_b10Pairs K (l00Src.mk c 0 0) = some (Skeleton.mk s', p', a', d') := by
    unfold spec_b10Pairs spec_l03DrawSized
    rw [e1, bind_of, wrap_in (by omega) (by omega), hm]
    rw [show ((0 : Nat) : Int) = 0 from rfl] at e2 y3
    rw [e2, bind_of, y3]
    rw [e3, bind_of, hu]
    exact g1
  refine ⟨s', p', n, ?_, ?_, g2, g3, g4⟩
  · unfold spec_B10Pairs
    rw [whole, bind_of]
  · unfold spec_B10Pairing
    rw [whole, bind_of]
theorem Pq.rk {n : Nat} {s : List Bone} {p : List Int} (h : Pq n s p) (h1 : 1 ≤ n) (h2 : n ≤ 12) : Rk (Skeleton.mk s) ∧ Rp (Skeleton.mk s) p := by
  have hl := h.bl
  refine ⟨⟨by show 1 ≤ s.length ∧ s.length ≤ 12; omega, (h.par 0 (by omega)).1 rfl, fun i g1 g2 => ?_⟩, ⟨by show p.length = s.length; rw [h.pl, hl], fun i hi => ?_, fun i hi => h.back i (by rw [← hl]; exact hi), fun i g1 g2 => h.pp i g1 (by rw [← hl]; exact g2)⟩⟩
  · have g2 : i < s.length := g2
    have := (h.par i (by omega)).2 (by omega)
    show 0 ≤ (s.getD i default).Parent ∧ (s.getD i default).Parent ≤ (i : Int) - 1
    omega
  · have hi : i < s.length := hi
    have := h.inn i (by omega)
    show 0 ≤ p.getD i default ∧ p.getD i default < (s.length : Int)
    omega

end Go.Fw
