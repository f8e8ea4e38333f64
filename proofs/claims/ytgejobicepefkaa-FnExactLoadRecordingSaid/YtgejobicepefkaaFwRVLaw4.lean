/- The laws of recordings, in plain Lean: a recording recovered, and loaded. -/
import Derived.Test.YtgejobicepefkaaFwRVLaw3
namespace Go.Fw
open Go

/-- What comes behind the numbers of a record. -/
def nextEnd (K : Nat) (a0 : ByteArray) (a1 : Int) (a2 : List F32) (x12 : Int) (x14 : List F32) : Option ((List F32) × Int × Bool) :=
  chk (0 ≤ (0 : Int) ∧ (0 : Int) ≤ a1 ∧ a1 ≤ (a0.size : Int)) ((impl_record K (bytesOf (a0.extract (0 : Int).toNat a1.toNat)) a2 x14).bind fun v29 => chk (∀ x ∈ v29, 0 ≤ x ∧ x < 256) (chk (0 ≤ (0 : Int) ∧ (0 : Int) ≤ (IntKind.i64.wrap (x12 + (2 : Int))) ∧ (IntKind.i64.wrap (x12 + (2 : Int))) ≤ (a0.size : Int)) (ite2 ((!((strOf v29).toList == (a0.extract (0 : Int).toNat (IntKind.i64.wrap (x12 + (2 : Int))).toNat).toList))) (some (([] : (List F32)), (0 : Int), false)) (some (x14, (IntKind.i64.wrap (x12 + (2 : Int))), true)))))

theorem body_loop {K : Nat} (a0 : ByteArray) (a : Nat) (a2 : List F32) (m L : Nat) (hm : bt a0 a = (m : Int)) (hm2 : m < 256) (hend : a + 1 + 5 * m + 2 ≤ a0.size) (hs : a0.size ≤ 1048576) (hL : L ≤ 51) : ∀ (k j : Nat) (xs : List F32), j ≤ m → m - j < k → xs.length = L →
    ∃ ys, ys.length = L ∧ spec_l10Recover_l4 K a0 (a : Int) k (j : Int) xs = some ys ∧
      ((∀ t, j ≤ t → t < m → bt a0 (a + 1 + 5 * t) < (L : Int)) → impl_next_l1 K a0 (a : Int) a2 k ((a + 1 + 5 * j : Nat) : Int) (j : Int) xs = nextEnd K a0 (a : Int) a2 ((a + 1 + 5 * m : Nat) : Int) ys) ∧
      ((∃ t, j ≤ t ∧ t < m ∧ (L : Int) ≤ bt a0 (a + 1 + 5 * t)) → impl_next_l1 K a0 (a : Int) a2 k ((a + 1 + 5 * j : Nat) : Int) (j : Int) xs = some ([], 0, false)) := by
  intro k
  induction k with
  | zero => intro j xs _ h; omega
  | succ k ih =>
    intro j xs hj hk hx
    rw [spec_l10Recover_l4, impl_next_l1]
    by_cases h : j < m
    · generalize hp : a + 1 + 5 * j = p
      have hp2 : p + 6 < a0.size := by omega
      have e1 : IntKind.i64.wrap ((a : Int) + 1) = ((a + 1 : Nat) : Int) := by rw [wrap_in (by omega) (by omega)]; omega
      have e2 : IntKind.i64.wrap ((5 : Int) * (j : Int)) = ((5 * j : Nat) : Int) := by rw [wrap_in (by omega) (by omega)]; omega
      have e3 : IntKind.i64.wrap (((a + 1 : Nat) : Int) + ((5 * j : Nat) : Int)) = (p : Int) := by rw [wrap_in (by omega) (by omega)]; omega
      have f1 : IntKind.i64.wrap ((p : Int) + 1) = ((p + 1 : Nat) : Int) := by rw [wrap_in (by omega) (by omega)]; omega
      have f2 : IntKind.i64.wrap ((p : Int) + 2) = ((p + 2 : Nat) : Int) := by rw [wrap_in (by omega) (by omega)]; omega
      have f3 : IntKind.i64.wrap ((p : Int) + 3) = ((p + 3 : Nat) : Int) := by rw [wrap_in (by omega) (by omega)]; omega
      have f4 : IntKind.i64.wrap ((p : Int) + 4) = ((p + 4 : Nat) : Int) := by rw [wrap_in (by omega) (by omega)]; omega
      have f5 : IntKind.i64.wrap ((p : Int) + 5) = ((a + 1 + 5 * (j + 1) : Nat) : Int) := by rw [wrap_in (by omega) (by omega)]; omega
      have w5 : IntKind.i64.wrap ((j : Int) + 1) = ((j + 1 : Nat) : Int) := by rw [wrap_in (by omega) (by omega)]; omega
      obtain ⟨c1, h1, g1⟩ := bt_range a0 (p + 1)
      obtain ⟨c2, h2, g2⟩ := bt_range a0 (p + 2)
      obtain ⟨c3, h3, g3⟩ := bt_range a0 (p + 3)
      obtain ⟨c4, h4, g4⟩ := bt_range a0 (p + 4)
      obtain ⟨x, hx1, hx2⟩ := from_some K (word_lt c1 c2 c3 c4 h1 h2 h3 h4)
      simp only [e1, e2, e3, f1, f2, f3, f4, f5, w5, Int.toNat_natCast, hm, wrap_bt, wrapu_bt]
      have hmw : IntKind.i64.wrap (m : Int) = (m : Int) := wrap_in (by omega) (by omega)
      simp only [hmw, ite2_dec]
      have hjm : (j : Int) < (m : Int) := by omega
      simp (disch := omega) only [if_pos hjm, chk_pos, min8, min16, min24, min8u, min16u, min24u, g1, g2, g3, g4]
      simp only [or_word .i64 (.inl rfl) c1 c2 c3 c4 h1 h2 h3 h4, hx2, bind_of, or_word .u32 (.inr rfl) c1 c2 c3 c4 h1 h2 h3 h4, hx1]
      obtain ⟨q, hq, gq⟩ := bt_range a0 p
      by_cases hr : q < xs.length
      · have q1 : (q : Int) < (xs.length : Int) := by omega
        have q2 : ¬ ((q : Int) ≥ (xs.length : Int)) := by omega
        simp (disch := omega) only [gq, if_pos q1, if_neg q2, chk_pos]
        obtain ⟨ys, y1, y2, y3, y4⟩ := ih (j + 1) (xs.set (q : Int).toNat x) (by omega) (by omega) (by simpa using hx)
        refine ⟨ys, y1, y2, fun hall => y3 fun t ht => hall t (by omega), fun ⟨t, t1, t2, t3⟩ => y4 ⟨t, ?_, t2, t3⟩⟩
        rcases Nat.lt_or_ge j t with g | g
        · exact g
        · have : t = j := by omega
          subst this
          rw [hp, gq] at t3
          omega
      · have q1 : ¬ ((q : Int) < (xs.length : Int)) := by omega
        have q2 : (q : Int) ≥ (xs.length : Int) := by omega
        simp only [gq, if_neg q1, if_pos q2]
        obtain ⟨ys, y1, y2, _, _⟩ := ih (j + 1) xs (by omega) (by omega) hx
        refine ⟨ys, y1, y2, fun hall => ?_, fun _ => trivial⟩
        have := hall j (by omega) h
        rw [hp, gq] at this
        omega
    · have e : j = m := by omega
      subst e
      simp only [Int.toNat_natCast, hm, ite2_dec]
      have hmw : IntKind.i64.wrap (j : Int) = (j : Int) := wrap_in (by omega) (by omega)
      have hjj : ¬ ((j : Int) < (j : Int)) := by omega
      simp only [hmw, if_neg hjj]
      exact ⟨xs, hx, rfl, fun _ => by unfold nextEnd; simp only [Int.toNat_natCast], fun ⟨t, t1, t2, _⟩ => by omega⟩

/-- One frame: what the one and the other find. -/
theorem step_eq {K : Nat} (hK : 3000000 < K) (a0 : ByteArray) (a : Nat) (a2 : List F32) (m : Nat) (hm : bt a0 a = (m : Int)) (hm2 : m < 256) (hend : a + 1 + 5 * m + 2 ≤ a0.size) (hs : a0.size ≤ 1048576) (hL : a2.length ≤ 51) :
    ∃ ys w, ys.length = a2.length ∧ spec_l10Recover_l4 K a0 (a : Int) K 0 a2 = some ys ∧ spec_l10Record K (a0.extract 0 a) a2 ys = some w ∧
      impl_next_l1 K a0 (a : Int) a2 K ((a + 1 : Nat) : Int) 0 a2 = if w = a0.extract a (a + 1 + 5 * m + 2) then some (ys, ((a + 1 + 5 * m + 2 : Nat) : Int), true) else some ([], 0, false) := by
  obtain ⟨ys, y1, y2, y3, y4⟩ := body_loop (K := K) a0 a a2 m a2.length hm hm2 hend hs hL K 0 a2 (by omega) (by omega) rfl
  have hlen : (bytesOf (a0.extract 0 a)).length ≤ 1048576 := by rw [bytesOf_len, ByteArray.size_extract]; omega
  obtain ⟨v, c, v1, v2, v3, v4⟩ := record_eq2 hK (bytesOf_in (a0.extract 0 a)) hlen y1.symm hL
  rw [strOf_bytesOf] at v3
  refine ⟨ys, _, y1, y2, v3, ?_⟩
  have hsz : (strOf (recB ys v c)).size = 1 + 5 * v.length + 2 := by rw [strOf_size, recB_len]
  have hrange : strOf (recB ys v c) = a0.extract a (a + 1 + 5 * m + 2) → ∀ t, t < m → bt a0 (a + 1 + 5 * t) < (a2.length : Int) := by
    intro he t ht
    have h1 := congrArg ByteArray.size he
    rw [hsz, ByteArray.size_extract] at h1
    have hv : v.length = m := by omega
    have h2 := bt_extract a0 (a := a) (b := a + 1 + 5 * m + 2) (i := 1 + 5 * t) (by omega) (by omega)
    have h3 : v[t]? = some v[t] := List.getElem?_eq_getElem (by omega)
    have h4 := v2 v[t] (List.getElem_mem _)
    have h5 := bt_strOf (recB_in ys v c) (recB_get ys v c t _ h3 h4.1 (by omega))
    rw [he, h2, show a + (1 + 5 * t) = a + 1 + 5 * t by omega] at h5
    rw [h5]; omega
  have hE : nextEnd K a0 (a : Int) a2 ((a + 1 + 5 * m : Nat) : Int) ys = if strOf (recB ys v c) = a0.extract a (a + 1 + 5 * m + 2) then some (ys, ((a + 1 + 5 * m + 2 : Nat) : Int), true) else some ([], 0, false) := by
    have e2 : IntKind.i64.wrap (((a + 1 + 5 * m : Nat) : Int) + 2) = ((a + 1 + 5 * m + 2 : Nat) : Int) := by rw [wrap_in (by omega) (by omega)]; omega
    unfold nextEnd
    rw [chk_pos (by omega), show ((0 : Int).toNat) = 0 from rfl, Int.toNat_natCast, v4, bind_of, chk_pos (show ∀ x ∈ bytesOf (a0.extract 0 a) ++ recB ys v c, 0 ≤ x ∧ x < 256 from (bytesOf_in _).append (recB_in _ _ _)), e2, chk_pos (by omega), Int.toNat_natCast, toList_beq, ite2_ndec, strOf_append, strOf_bytesOf,
      ByteArray.extract_eq_extract_append_extract (a := a0) (i := 0) (k := a + 1 + 5 * m + 2) a (by omega) (by omega)]
    by_cases hq : strOf (recB ys v c) = a0.extract a (a + 1 + 5 * m + 2)
    · rw [if_pos (by rw [hq]), if_pos hq]
    · rw [if_neg (fun e => hq ?_), if_neg hq]
      have := congrArg (fun b : ByteArray => b.data.toList) e
      simp only [ByteArray.data_append, Array.toList_append] at this
      exact ByteArray.ext (Array.ext' (List.append_cancel_left this))
  by_cases hq : strOf (recB ys v c) = a0.extract a (a + 1 + 5 * m + 2)
  · exact (y3 fun t _ ht => hrange hq t ht).trans hE
  · by_cases hall : ∀ t, 0 ≤ t → t < m → bt a0 (a + 1 + 5 * t) < (a2.length : Int)
    · exact (y3 hall).trans hE
    · rw [if_neg hq]
      refine y4 ?_
      apply Classical.byContradiction
      intro hn
      exact hall fun t h0 h1 => by
        apply Classical.byContradiction
        intro h2
        exact hn ⟨t, h0, h1, by omega⟩

theorem pose_loop {K : Nat} (l : List F32) (b : Nat) (hl : l.length = 3 + 4 * b) (hb : b ≤ 12) : ∀ (k t : Nat) (ts : List Turn), t ≤ b → ts.length = t → b - t < k →
    ∃ us, us.length = b ∧ spec_l10Pose_l1 K l k ((3 + 4 * t : Nat) : Int) ts = some (Pose.mk (Vector.mk (l.getD ((0 : Int).toNat) default) (l.getD ((1 : Int).toNat) default) (l.getD ((2 : Int).toNat) default)) us) ∧
      impl_PoseOfNumbers_l1 K l k ((3 + 4 * t : Nat) : Int) ts = some (Pose.mk (Vector.mk (l.getD ((0 : Int).toNat) default) (l.getD ((1 : Int).toNat) default) (l.getD ((2 : Int).toNat) default)) us, true) := by
  intro k
  induction k with
  | zero => intro t ts _ _ h; omega
  | succ k ih =>
    intro t ts ht hts hk
    rw [spec_l10Pose_l1, impl_PoseOfNumbers_l1, ite2_dec, ite2_dec]
    by_cases h : t < b
    · have w : ∀ n : Int, 0 ≤ n → n ≤ 4 → IntKind.i64.wrap (((3 + 4 * t : Nat) : Int) + n) = ((3 + 4 * t : Nat) : Int) + n := fun n h0 h1 => wrap_in (by omega) (by omega)
      rw [if_pos (by omega), if_pos (by omega), w 1 (by omega) (by omega), w 2 (by omega) (by omega), w 3 (by omega) (by omega), w 4 (by omega) (by omega)]
      rw [chk_pos (by omega), chk_pos (by omega), chk_pos (by omega), chk_pos (by omega), chk_pos (by simp; omega), chk_pos (by omega), chk_pos (by omega), chk_pos (by omega), chk_pos (by omega), chk_pos (by simp; omega)]
      rw [show ((3 + 4 * t : Nat) : Int) + 4 = ((3 + 4 * (t + 1) : Nat) : Int) by omega]
      exact ih (t + 1) _ (by omega) (by simp; omega) (by omega)
    · have e : t = b := by omega
      rw [if_neg (by omega), if_neg (by omega)]
      exact ⟨ts, by omega, rfl, rfl⟩
theorem pose_eq {K : Nat} (hK : 20 < K) (l : List F32) (b : Nat) (hl : l.length = 3 + 4 * b) (hb1 : 1 ≤ b) (hb : b ≤ 12) : ∃ p : Pose, p.Turns.length = b ∧ spec_l10Pose K l = some p ∧ impl_PoseOfNumbers K l = some (p, true) := by
  obtain ⟨us, h1, h2, h3⟩ := pose_loop (K := K) l b hl hb K 0 [] (by omega) rfl (by omega)
  refine ⟨Pose.mk (Vector.mk (l.getD ((0 : Int).toNat) default) (l.getD ((1 : Int).toNat) default) (l.getD ((2 : Int).toNat) default)) us, h1, ?_, ?_⟩
  · unfold spec_l10Pose
    rw [chk_pos (by omega), chk_pos (by omega), chk_pos (by omega)]
    exact h2
  · unfold impl_PoseOfNumbers
    have e1 : IntKind.i64.wrap ((l.length : Int) - 3) = ((4 * b : Nat) : Int) := by rw [wrap_in (by omega) (by omega)]; omega
    have e2 : (((4 * b : Nat) : Int)).tmod 4 = 0 := by rw [Int.tmod_eq_emod_of_nonneg (by omega)]; omega
    have e3 : (((4 * b : Nat) : Int)).tdiv 4 = (b : Int) := by rw [Int.tdiv_eq_ediv_of_nonneg (by omega)]; omega
    have e4 : IntKind.i64.wrap (b : Int) = (b : Int) := wrap_in (by omega) (by omega)
    rw [e1, e2, e3, e4, ite2_dec, if_neg (by omega), chk_pos (by decide), bne_self_eq_false, ite2_false, bind_of, ite2_dec, if_neg (by omega), chk_pos (by omega), chk_pos (by omega), chk_pos (by omega)]
    exact h3

theorem recover_loop {K : Nat} (hK : 3000000 < K) (a0 : ByteArray) (hs : a0.size ≤ 1048576) (b : Nat) (hb : bt a0 4 = (b : Int)) (hb1 : 1 ≤ b) (hb2 : b ≤ 12) : ∀ (k a : Nat) (fr : List Pose) (xs : List F32), xs.length = 3 + 4 * b → fr.length ≤ 64 → 64 - fr.length < k → a ≤ a0.size → (∀ p ∈ fr, p.Turns.length = b) →
    ∃ (fr' : List Pose) (a' : Nat), spec_l10Recover_l3 K a0 k (a : Int) fr xs = some (Recording.mk (b : Int) fr', (a' : Int), true) ∧ impl_RecoverRecording_l1 K a0 k (a : Int) xs fr = some (Recording.mk (b : Int) fr', (a' : Int), true) ∧ fr'.length ≤ 64 ∧ ∀ p ∈ fr', p.Turns.length = b := by
  intro k
  induction k with
  | zero => intro a fr xs _ _ h; omega
  | succ k ih =>
    intro a fr xs hx hf hk ha hp
    have e0 : IntKind.i64.wrap ((5 : Int) - 1) = 4 := by decide
    have e4 : (4 : Int).toNat = 4 := rfl
    have ew : IntKind.i64.wrap (b : Int) = (b : Int) := wrap_in (by omega) (by omega)
    rw [spec_l10Recover_l3, impl_RecoverRecording_l1]
    simp only [e0, e4, hb, ew, ite2_dec, Int.toNat_natCast]
    by_cases hlt : fr.length < 64
    · rw [if_pos (show (fr.length : Int) < 64 by omega)]
      unfold impl_next
      by_cases haz : a < a0.size
      · obtain ⟨m, hm2, hm⟩ := bt_range a0 a
        have e1 : IntKind.i64.wrap ((a : Int) + 1) = ((a + 1 : Nat) : Int) := by rw [wrap_in (by omega) (by omega)]; omega
        have e2 : IntKind.i64.wrap (m : Int) = (m : Int) := wrap_in (by omega) (by omega)
        have e3 : IntKind.i64.wrap ((5 : Int) * (m : Int)) = ((5 * m : Nat) : Int) := by rw [wrap_in (by omega) (by omega)]; omega
        have e5 : IntKind.i64.wrap (((a + 1 : Nat) : Int) + ((5 * m : Nat) : Int)) = ((a + 1 + 5 * m : Nat) : Int) := by rw [wrap_in (by omega) (by omega)]; omega
        have e6 : IntKind.i64.wrap (((a + 1 + 5 * m : Nat) : Int) + 2) = ((a + 1 + 5 * m + 2 : Nat) : Int) := by rw [wrap_in (by omega) (by omega)]; omega
        simp only [Int.toNat_natCast, hm, e1, e2, e3, e5, e6, ite2_dec]
        have z1 : (a : Int) < (a0.size : Int) := by omega
        have z2 : ¬ ((a : Int) ≥ (a0.size : Int)) := by omega
        have z3 : (fr.length : Int) < 64 := by omega
        simp (disch := omega) only [if_pos z1, if_neg z2, bind_of, decide_eq_true z3, ite2_true, chk_pos, ite2_dec]
        by_cases he : a + 1 + 5 * m + 2 ≤ a0.size
        · have e9 : slices_Clone_float32_float32 K xs = some xs := by
            unfold slices_Clone_float32_float32
            rw [chk_pos (by simp; omega)]; rfl
          have z4 : ¬ (((a + 1 + 5 * m + 2 : Nat) : Int) > (a0.size : Int)) := by omega
          obtain ⟨ys, w, y1, y2, y3, y4⟩ := step_eq hK a0 a xs m hm hm2 he hs (by omega)
          have z5 : ((0 : Int).toNat) = 0 := rfl
          have z6 : (([] : List F32).length + xs.length) * 4 ≤ 140737488355328 := by simp; omega
          simp (disch := omega) only [if_neg z4, chk_pos z6, e9, bind_of, chk_pos, List.nil_append, y2, z5, y3, toList_beq, ite2_ndec, y4]
          by_cases hw : w = a0.extract a (a + 1 + 5 * m + 2)
          · obtain ⟨p, p1, p2, p3⟩ := pose_eq (K := K) (by omega) ys b (by omega) hb1 hb2
            have z7 : (fr.length + [p].length) * 40 ≤ 140737488355328 := by simp; omega
            simp only [if_pos hw, bind_of, Bool.not_true, ite2_false, p2, p3, chk_pos z7]
            refine ih (a + 1 + 5 * m + 2) (fr ++ [p]) ys (by omega) (by simp; omega) (by simp; omega) he (fun q hq => ?_)
            rcases List.mem_append.1 hq with g | g
            · exact hp q g
            · rw [List.mem_singleton.1 g]; exact p1
          · simp only [if_neg hw]
            exact ⟨fr, a, rfl, rfl, hf, hp⟩
        · have z4 : ((a + 1 + 5 * m + 2 : Nat) : Int) > (a0.size : Int) := by omega
          simp only [if_pos z4]
          exact ⟨fr, a, rfl, rfl, hf, hp⟩
      · have z1 : ¬ ((a : Int) < (a0.size : Int)) := by omega
        have z2 : (a : Int) ≥ (a0.size : Int) := by omega
        simp only [if_neg z1, bind_of, ite2_false, ite2_dec, if_pos z2, ite2_true]
        exact ⟨fr, a, rfl, rfl, hf, hp⟩
    · rw [if_neg (show ¬ (fr.length : Int) < 64 by omega), decide_eq_false (show ¬ (fr.length : Int) < 64 by omega)]
      refine ⟨fr, a, ?_, rfl, hf, hp⟩
      split <;> rfl

theorem In_eq (K : Nat) (a b c : Int) : spec_l00In K a b c = some (decide (b ≤ a) && decide (a ≤ c)) := by
  unfold spec_l00In
  rw [ite2_dec]
  by_cases h : b ≤ a
  · rw [if_pos (by omega)]; simp [h]
  · rw [if_neg (by omega)]; simp [h]
theorem isCount_eq (K : Nat) (a : Int) : impl_isCount K a = some (decide (1 ≤ a) && decide (a ≤ 12)) := by
  unfold impl_isCount
  rw [ite2_dec]
  by_cases h : 1 ≤ a
  · rw [if_pos (by omega)]; simp [h]
  · rw [if_neg (by omega)]; simp [h]

/-- A recording that was recovered. -/
structure OkOut (r : Recording × Int × Bool) : Prop where
  frames : r.1.Frames.length ≤ 64
  turns : ∀ p ∈ r.1.Frames, p.Turns.length ≤ 12
theorem recover_eq {K : Nat} (hK : 3000000 < K) (a0 : ByteArray) (hs : a0.size ≤ 1048576) : ∃ r, spec_l10Recover K a0 = some r ∧ impl_RecoverRecording K a0 = some r ∧ OkOut r ∧ (r.2.2 = false → r = (Recording.mk 0 [], 0, false)) := by
  unfold spec_l10Recover impl_RecoverRecording
  have e0 : IntKind.i64.wrap ((5 : Int) - 1) = 4 := by decide
  have e4 : (4 : Int).toNat = 4 := rfl
  simp only [e0, e4]
  obtain ⟨b, hbl, hb⟩ := bt_range a0 4
  have ew : IntKind.i64.wrap (b : Int) = (b : Int) := wrap_in (by omega) (by omega)
  simp only [hb, ew, ite2_dec]
  by_cases h5 : a0.size < 5
  · have z : (a0.size : Int) < 5 := by omega
    simp only [if_pos z, bind_of, ite2_true]
    exact ⟨_, rfl, rfl, ⟨by simp, by simp⟩, fun _ => rfl⟩
  · have z : ¬ ((a0.size : Int) < 5) := by omega
    simp (disch := omega) only [if_neg z, chk_pos, toList_beq, ite2_ndec]
    by_cases hh : a0.extract (0 : Int).toNat 4 = ByteArray.mk #[83, 75, 82, 49]
    · simp only [if_pos hh]
      unfold spec_l06Count
      simp only [In_eq, isCount_eq, bind_of]
      by_cases hbb : 1 ≤ b ∧ b ≤ 12
      · have e : (decide ((1 : Int) ≤ (b : Int)) && decide ((b : Int) ≤ 12)) = true := by simp; omega
        simp only [e, Bool.not_true, ite2_false]
        have f1 : IntKind.i64.wrap ((4 : Int) * (b : Int)) = ((4 * b : Nat) : Int) := by rw [wrap_in (by omega) (by omega)]; omega
        have f2 : IntKind.i64.wrap ((3 : Int) + ((4 * b : Nat) : Int)) = ((3 + 4 * b : Nat) : Int) := by rw [wrap_in (by omega) (by omega)]; omega
        unfold impl_none
        simp (disch := omega) only [f1, f2, chk_pos, bind_of, Int.toNat_natCast]
        obtain ⟨fr, a', g1, g2, g3, g4⟩ := recover_loop hK a0 hs b hb hbb.1 hbb.2 K 5 [] (List.replicate (3 + 4 * b) default) (by simp) (by simp) (by simp; omega) (by omega) (by simp)
        refine ⟨_, g1, g2, ⟨g3, fun p hp => by rw [g4 p hp]; omega⟩, fun h => by cases h⟩
      · have e : (decide ((1 : Int) ≤ (b : Int)) && decide ((b : Int) ≤ 12)) = false := by simp; omega
        rw [e]
        exact ⟨_, rfl, rfl, ⟨by simp, by simp⟩, fun _ => rfl⟩
    · simp only [if_neg hh, bind_of, ite2_true]
      exact ⟨_, rfl, rfl, ⟨by simp, by simp⟩, fun _ => rfl⟩

theorem okRec_of {K : Nat} (hK : 3000000 < K) {r : Recording × Int × Bool} (h : OkOut r) : OkRec K r.1 :=
  ⟨by have := h.frames; omega, fun p hp => by have := h.turns p hp; omega, by have := h.frames; omega, fun p hp => by have := h.turns p hp; omega⟩

theorem law_RecoverRecording (a0 : ByteArray) : ∃ K, laws_FnExactRecoverRecording K a0 = some true := by
  refine ⟨3000001, ?_⟩
  generalize hKe : 3000001 = K
  have hK : 3000000 < K := by omega
  unfold laws_FnExactRecoverRecording
  rw [ite2_dec]
  split
  · rfl
  · rename_i hs
    obtain ⟨r, r1, r2, r3, r4⟩ := recover_eq hK a0 (by omega)
    have s1 : spec_RecoverRecording K a0 = some r := by
      unfold spec_RecoverRecording
      rw [r1, bind_of]
      cases hb : r.2.2
      · rw [r4 hb]; rfl
      · obtain ⟨x, y, z⟩ := r; simp at hb; subst hb; rfl
    have ho := okRec_of hK r3
    obtain ⟨m, ys, m1, m2, m3, m4, m5⟩ := ho.mark (k0 := 1) (by omega) (by omega)
    have n1 : decide (m < 0) = false := decide_eq_false (by omega)
    simp only [s1, r2, bind_of, ho.eq, Bool.not_true, ite2_false, beq_self_eq_true, bne_self_eq_false, m1, chk_pos m4, m5, n1]
theorem law_LoadRecording (a0 : ByteArray) : ∃ K, laws_FnExactLoadRecording K a0 = some true := by
  refine ⟨3000001, ?_⟩
  generalize hKe : 3000001 = K
  have hK : 3000000 < K := by omega
  unfold laws_FnExactLoadRecording
  rw [ite2_dec]
  split
  · rfl
  · rename_i hs
    obtain ⟨r, r1, r2, r3, r4⟩ := recover_eq hK a0 (by omega)
    have s1 : ∃ q, spec_LoadRecording K a0 = some q ∧ impl_LoadRecording K a0 = some q ∧ OkRec K q.1 := by
      unfold spec_LoadRecording impl_LoadRecording
      simp only [r1, r2, bind_of]
      cases hb : r.2.2
      · exact ⟨_, rfl, rfl, okRec_of hK (r := (Recording.mk 0 [], 0, false)) ⟨by simp, by simp⟩⟩
      · simp only [Bool.not_true, ite2_false, bind_of]
        cases hq : (r.2.1 != (a0.size : Int))
        · exact ⟨_, rfl, rfl, okRec_of hK r3⟩
        · exact ⟨_, rfl, rfl, okRec_of hK (r := (Recording.mk 0 [], 0, false)) ⟨by simp, by simp⟩⟩
    obtain ⟨q, q1, q2, ho⟩ := s1
    obtain ⟨m, ys, m1, m2, m3, m4, m5⟩ := ho.mark (k0 := 1) (by omega) (by omega)
    have n1 : decide (m < 0) = false := decide_eq_false (by omega)
    simp only [q1, q2, bind_of, ho.eq, Bool.not_true, ite2_false, beq_self_eq_true, bne_self_eq_false, m1, chk_pos m4, m5, n1]

end Go.Fw
